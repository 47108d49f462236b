/-
  Models that are being built in a call's own memory: which cells they have, and that other blocks do not matter. No conditions. Package gantryref15: num, shape; gantryref13: Plus, Times, Minus. No conditions. Packages gantryref04 and gantryref05: which numbers are valid. No conditions. Package gantryref15: Numbers, Live, Moves, At. No conditions. Package gantryref15: Moves, At, Live. No conditions. Package gantryref15: block and train, walked within the memory of Model. No conditions. Package gantryref15: Live, Pairs. No conditions. Package gantryref15: Pairs. No conditions. slices.Compare; the comparison in model.Pairs. No conditions. The pairs of parts, row by row and column by column: plain law. No conditions. Packages gantryref04 and gantryref12: Root, Small, divisor, size, Norm, Next, Turn, Most. No conditions. Package gap: rate, Gap, Meet. No conditions. Packages gantryref12 and gantryref13: Norm, Next, Turn, Most, Dot, Gap, Meet. No conditions. Package gantryref12: Sides. No conditions. Package gantryref15: what suits a model and a state; Ends. No conditions. Package gantryref15: Fit. No conditions. Integers as bytes: what is written for a number, and what is read from bytes. No conditions. Lists of bytes in memory: loads, slices, stores and calls with theirs. No conditions. The comparisons of the law: what is the same as itself. No conditions.
-/
import Derived.Test.YtenhjccadhlgoaaGreatQ06
import Derived.Test.YtenhjccadhlgoaaGreatQ04
set_option linter.unusedSimpArgs false
set_option linter.unusedVariables false
set_option maxRecDepth 100000
set_option maxHeartbeats 16000000
namespace Go.Proofs.YtenhjccadhlgoaaGreat.Abs
open Go
def HeldC (h : Heap) (S : List Nat) (v : AV) (cs : List AV) (n sz : Nat) : Prop :=
  (∃ f, v = .ro cs n f) ∨ ∃ B cap g z, B ∈ S ∧ v = .sl B 0 n cap sz ∧ h B = some (.cells cs g z) ∧ cs.length = n * sz
theorem HeldC.keep {h h' : Heap} {S S' : List Nat} {v : AV} {cs : List AV} {n sz : Nat} (H : HeldC h S v cs n sz) (hS : ∀ b ∈ S, b ∈ S') (hh : ∀ b ∈ S, h' b = h b) : HeldC h' S' v cs n sz := by
  rcases H with H | ⟨B, cap, g, z, h1, h2, h3, h4⟩
  · exact .inl H
  · exact .inr ⟨B, cap, g, z, hS B h1, h2, by rw [hh B h1]; exact h3, h4⟩
theorem heldC_snap {h : Heap} {S : List Nat} {v : AV} {cs : List AV} {n sz : Nat} (H : HeldC h S v cs n sz) (hc : ∀ c ∈ cs, ∀ d, snap h (d + 1) c = some (c, [])) (d : Nat) : ∃ v' ids, snap h (d + 2) v = some (v', ids) ∧ v'.weak = .ro (AV.weak.go cs) n false := by
  rcases H with ⟨f, rfl⟩ | ⟨B, cap, g, z, h1, rfl, h3, h4⟩
  · exact ⟨_, _, rfl, by rw [weak_ro]⟩
  · refine ⟨.ro cs n false, [B], ?_, by rw [weak_ro]⟩
    rw [snap_sl, h3]
    simp only [Nat.zero_add, h4, Nat.le_refl, if_true, List.drop_zero]
    rw [List.take_of_length_le (by omega), snaps_of (fun c h' => hc c h' d)]
    rfl
abbrev PW := AV × AV × PartR
def pwA (w : PW) : List AV := [w.1, zS (Rat.num (w.2.2.hx)), zD (Rat.num (w.2.2.hx)), zS (dz (w.2.2.hx)), zD (dz (w.2.2.hx)), zS (Rat.num (w.2.2.hy)), zD (Rat.num (w.2.2.hy)), zS (dz (w.2.2.hy)), zD (dz (w.2.2.hy)), w.2.1, zS (Rat.num (w.2.2.ro)), zD (Rat.num (w.2.2.ro)), zS (dz (w.2.2.ro)), zD (dz (w.2.2.ro)), zS (Rat.num (w.2.2.bo)), zD (Rat.num (w.2.2.bo)), zS (dz (w.2.2.bo)), zD (dz (w.2.2.bo))]
theorem pwA_eq (w : PW) : pwA w = [w.1, zS (Rat.num (w.2.2.hx)), zD (Rat.num (w.2.2.hx)), zS (dz (w.2.2.hx)), zD (dz (w.2.2.hx)), zS (Rat.num (w.2.2.hy)), zD (Rat.num (w.2.2.hy)), zS (dz (w.2.2.hy)), zD (dz (w.2.2.hy)), w.2.1, zS (Rat.num (w.2.2.ro)), zD (Rat.num (w.2.2.ro)), zS (dz (w.2.2.ro)), zD (dz (w.2.2.ro)), zS (Rat.num (w.2.2.bo)), zD (Rat.num (w.2.2.bo)), zS (dz (w.2.2.bo)), zD (dz (w.2.2.bo))] := nr rfl
theorem pw_length (ws : List PW) : (cat pwA ws).length = ws.length * 18 := by
  induction ws with
  | nil => rfl
  | cons w ws ih => rw [cat_cons, List.length_append, ih, List.length_cons, Nat.add_mul]; simp only [pwA_eq, List.length_cons, List.length_nil]; omega
theorem pw_dropl (ws : List PW) (i : Nat) : (cat pwA ws).drop (i * 18) = cat pwA (ws.drop i) := by
  induction ws generalizing i with
  | nil => simp [cat]
  | cons a l ih =>
    cases i with
    | zero => simp
    | succ i => rw [cat_cons, Nat.add_mul, Nat.one_mul, Nat.add_comm (i * 18), ← List.drop_drop, List.drop_left' (by simp [pwA]), ih, List.drop_succ_cons]
theorem pw_drop {ws : List PW} {i : Nat} {w : PW} (h : ws[i]? = some w) : (cat pwA ws).drop (i * 18) = pwA w ++ cat pwA (ws.drop (i + 1)) := by
  rw [pw_dropl]
  obtain ⟨hi, rfl⟩ := List.getElem?_eq_some_iff.1 h
  rw [List.drop_eq_getElem_cons hi, cat_cons]
def PartsH (h : Heap) (S : List Nat) (ws : List PW) : Prop := ∀ w ∈ ws, HeldC h S w.1 (ptC w.2.2.shape) w.2.2.shape.length 2 ∧ HeldC h S w.2.1 (cat colA w.2.2.cols) w.2.2.cols.length 13
theorem PartsH.keep {h h' : Heap} {S S' : List Nat} {ws : List PW} (H : PartsH h S ws) (hS : ∀ b ∈ S, b ∈ S') (hh : ∀ b ∈ S, h' b = h b) : PartsH h' S' ws := fun w hw => ⟨(H w hw).1.keep hS hh, (H w hw).2.keep hS hh⟩
theorem weakgo_append (a b : List AV) : AV.weak.go (a ++ b) = AV.weak.go a ++ AV.weak.go b := by
  induction a with
  | nil => rfl
  | cons x a ih => rw [List.cons_append, weakgo_cons, ih, weakgo_cons, List.cons_append]
theorem snaps_append {f : AV → Option (AV × List Nat)} {a b a' b' : List AV} {i j : List Nat} (ha : snaps f a = some (a', i)) (hb : snaps f b = some (b', j)) : snaps f (a ++ b) = some (a' ++ b', i ++ j) := by
  induction a generalizing a' i with
  | nil =>
    rw [snaps_nil] at ha
    cases ha
    exact hb
  | cons x a ih =>
    rw [snaps_cons] at ha
    obtain ⟨⟨y, k⟩, h1, h2⟩ := nx_eq_some.1 ha
    obtain ⟨⟨ys, k'⟩, h3, h4⟩ := mp_eq_some.1 h2
    simp only [Prod.mk.injEq] at h4
    obtain ⟨rfl, rfl⟩ := h4
    rw [List.cons_append, snaps_cons, h1, nx_some, ih h3, mp_some]
    simp only [List.cons_append, List.append_assoc]
theorem parts_snap {h : Heap} {S : List Nat} {ws : List PW} (H : PartsH h S ws) (d : Nat) : ∃ cs' ids, snaps (snap h (d + 2)) (cat pwA ws) = some (cs', ids) ∧ AV.weak.go cs' = cat partA (ws.map fun w => w.2.2) := by
  induction ws with
  | nil => exact ⟨[], [], rfl, rfl⟩
  | cons w ws ih =>
    obtain ⟨cs', ids, h1, h2⟩ := ih fun x hx => H x (by simp [hx])
    obtain ⟨k1, k2⟩ := H w (by simp)
    obtain ⟨a', i, e1, e2⟩ := heldC_snap k1 (fun c hc d => ptC_all (fun c => snap h (d + 1) c = some (c, [])) (fun _ => snap_int ..) _ c hc) d
    obtain ⟨b', j, e3, e4⟩ := heldC_snap k2 (fun c hc d => by
      have : ∀ l : List ColR, c ∈ cat colA l → snap h (d + 1) c = some (c, []) := by
        intro l
        induction l with
        | nil => intro hc; simp [cat] at hc
        | cons a l ih => intro hc; rw [cat_cons] at hc; exact (List.mem_append.1 hc).elim (fun h' => enc_col.sn a c h' h d) ih
      exact this _ hc) d
    rw [weaks_ptC] at e2
    rw [weaks_cat] at e4
    have hw : snaps (snap h (d + 2)) (pwA w) = some ([a', zS (Rat.num (w.2.2.hx)), zD (Rat.num (w.2.2.hx)), zS (dz (w.2.2.hx)), zD (dz (w.2.2.hx)), zS (Rat.num (w.2.2.hy)), zD (Rat.num (w.2.2.hy)), zS (dz (w.2.2.hy)), zD (dz (w.2.2.hy)), b', zS (Rat.num (w.2.2.ro)), zD (Rat.num (w.2.2.ro)), zS (dz (w.2.2.ro)), zD (dz (w.2.2.ro)), zS (Rat.num (w.2.2.bo)), zD (Rat.num (w.2.2.bo)), zS (dz (w.2.2.bo)), zD (dz (w.2.2.bo))], i ++ j) := by
      simp only [pwA_eq, snaps_cons, snaps_nil, snap_zS, snap_zD, e1, e3, nx_some, mp_some, List.nil_append, List.append_nil]
    refine ⟨_, _, snaps_append hw h1, ?_⟩
    rw [weakgo_append, h2, List.map_cons, cat_cons, partA_eq]
    simp only [weakgo_cons, weakgo_nil, weak_zS, weak_zD, e2, e4]
def MHeld (h : Heap) (nx lo : Nat) (vd vp : AV) (m : MdlR) : Prop :=
  ∃ (S : List Nat) (ws : List PW) (Bp : Nat),
    (∀ b ∈ S, lo ≤ b ∧ b < nx) ∧ PartsH h S ws ∧ ws.map (fun w => w.2.2) = m.parts ∧ (lo ≤ Bp ∧ Bp < nx) ∧ Bp ∉ S ∧
    ((vp = .sl Bp 0 m.parts.length (some m.parts.length) 18 ∧ h Bp = some (.cells (cat pwA ws) false false) ∧ vd = .ro [] 0 true ∧ m.dofs = []) ∨
     (vp = .sl Bp 0 m.parts.length none 18 ∧ h Bp = some (.cells (cat pwA ws) true false) ∧
      ∃ Bd, (lo ≤ Bd ∧ Bd < nx) ∧ Bd ∉ S ∧ Bd ≠ Bp ∧ vd = .sl Bd 0 m.dofs.length none 17 ∧ h Bd = some (.cells (cat dofA m.dofs) true false)))
theorem q0a : zS (Rat.num 0) = .bool false := by rw [show Rat.num 0 = 0 from rfl, zz_false]
theorem q0b : zD (Rat.num 0) = .ro [] 0 false := by rw [show Rat.num 0 = 0 from rfl, zz_nil]
theorem q0c : zS (dz 0) = .bool false := by rw [show dz 0 = 0 from rfl, zz_false]
theorem q0d : zD (dz 0) = .ro [] 0 false := by rw [show dz 0 = 0 from rfl, zz_nil]
theorem M_50 [SpC] (n : Int) (hn : ok64 n) : M X 50 [.int .i64 n] = some (.agg [zS (Rat.num (Rat.divInt n 1)), zD (Rat.num (Rat.divInt n 1)), zS (dz (Rat.divInt n 1)), zD (dz (Rat.divInt n 1))]) := by
 refine M_of X (fn := Tryz.f50) Tryz.func50 rfl ok_50 mode_50 res_50 _ rfl _ ?_
 intro r hr
 have o1 := M_44 n 1 hn (by omega)
 simp (maxSteps := 4000000) (disch := first | omega | (simp only [LL]; omega)) only [go_sem, mode_44, o1]
 rw [hr]
theorem M_46 [SpC] (n : Int) (hn : ok64 n) : M X 46 [.int .i64 n] = some (.tuple [.ro (ptC (shp (arnd n 6))) (shp (arnd n 6)).length false, .int .i64 (hgt (arnd n 6))]) := by
 have a1 := M_15 n 6 hn (by omega)
 have b1 := arnd_bd n 6 (by omega)
 refine M_of X (fn := Tryz.f46) Tryz.func46 rfl ok_46 mode_46 res_46 _ rfl _ ?_
 intro r hr
 rw [hr]
 unfold shp hgt
 generalize arnd n 6 = t at *
 by_cases t0 : t = 0
 ·subst t0
  simp (maxSteps := 4000000) (disch := first | omega | (simp only [LL]; omega)) only [go_sem, replA_2, replA_3, replA_4, ptC, mode_15, a1]
 ·by_cases t1 : t = 1
  ·subst t1
   simp (maxSteps := 4000000) (disch := first | omega | (simp only [LL]; omega)) only [go_sem, replA_2, replA_3, replA_4, ptC, mode_15, a1]
  ·by_cases t2 : t = 2
   ·subst t2
    simp (maxSteps := 4000000) (disch := first | omega | (simp only [LL]; omega)) only [go_sem, replA_2, replA_3, replA_4, ptC, mode_15, a1]
   ·by_cases t3 : t = 3
    ·subst t3
     simp (maxSteps := 4000000) (disch := first | omega | (simp only [LL]; omega)) only [go_sem, replA_2, replA_3, replA_4, ptC, mode_15, a1]
    ·by_cases t4 : t = 4
     ·subst t4
      simp (maxSteps := 4000000) (disch := first | omega | (simp only [LL]; omega)) only [go_sem, replA_2, replA_3, replA_4, replA_5, ptC, mode_15, a1]
     ·simp (maxSteps := 4000000) (disch := first | omega | (simp only [LL]; omega)) only [go_sem, replA_2, replA_3, replA_4, ptC, t0, t1, t2, t3, t4, mode_15, a1]
def okDig (l : List Int) : Bool := l.all fun d => decide (0 ≤ d ∧ d < 1000000000)
def validI (b : Bool) (l : List Int) : Bool := okDig l && (if l.length = 0 then !b else decide (l.getD (l.length - 1) 0 ≠ 0))
theorem M_221 [SpC] (b : Bool) (l : List Int) (hl : l.length < 2 ^ 40) : M X 221 [.agg [.bool b, isl l]] = some (.bool (validI b l)) := by
 refine M_of X (fn := Tryz.f221) Tryz.func221 rfl ok_221 mode_221 res_221 _ rfl _ ?_
 intro r hr
 simp (maxSteps := 4000000) (disch := first | omega | (simp only [LL]; omega)) only [go_sem]
 refine W_loop X (fun (i : Nat) s => i ≤ l.length ∧ (∀ j, j < i → 0 ≤ l.getD j 0 ∧ l.getD j 0 < 1000000000) ∧ s.env 1 = .ptr 0 0 ∧ s.env 3 = .int .i64 i ∧ s.heap 0 = some (.cells [.bool b, isl l] false false)) (fun i => l.length - i) ?_ 0 _ ?_
 ·rintro i ⟨env, heap, nx⟩ ⟨hi, hj, g1, g3, h0⟩
  simp only at g1 g3 h0
  by_cases h1 : i < l.length
  ·have hmem : l.getD i 0 ∈ l := by rw [List.getD_eq_getElem?_getD, List.getElem?_eq_getElem h1]; exact List.getElem_mem h1
   by_cases h2 : 0 ≤ l.getD i 0 ∧ l.getD i 0 < 1000000000
   ·have hj' : ∀ j, j < i + 1 → 0 ≤ l.getD j 0 ∧ l.getD j 0 < 1000000000 := by
     intro j h3
     rcases Nat.lt_or_ge j i with h4 | h4
     ·exact hj j h4
     ·obtain rfl : j = i := by omega
      exact h2
    clear hj
    generalize hd : l.getD i 0 = d at h2
    simp (maxSteps := 4000000) (disch := first | omega | (simp only [LL]; omega)) only [go_sem, g1, g3, h0, hd]
    exact ⟨i + 1, ⟨by omega, hj', rfl⟩, by omega⟩
   ·have hv : validI b l = false := by
     have : okDig l = false := by
      unfold okDig
      rw [List.all_eq_false]
      exact ⟨_, hmem, by simpa using h2⟩
     unfold validI; rw [this, Bool.false_and]
    generalize hd : l.getD i 0 = d at h2
    clear hj
    by_cases h3 : d < 0
    ·simp (maxSteps := 4000000) (disch := first | omega | (simp only [LL]; omega)) only [go_sem, g1, g3, h0, hd]
     rw [hr, hv]
    ·simp (maxSteps := 4000000) (disch := first | omega | (simp only [LL]; omega)) only [go_sem, g1, g3, h0, hd]
     rw [hr, hv]
  ·have hk : okDig l = true := by
    unfold okDig
    rw [List.all_eq_true]
    intro d hd
    obtain ⟨j, h3, rfl⟩ := List.getElem_of_mem hd
    have := hj j (by omega)
    rw [List.getD_eq_getElem?_getD, List.getElem?_eq_getElem h3] at this
    exact decide_eq_true this
   have hv : validI b l = if l.length = 0 then !b else decide (l.getD (l.length - 1) 0 ≠ 0) := by unfold validI; rw [hk, Bool.true_and]
   clear hj hk
   rw [hv] at hr
   by_cases h2 : l.length = 0
   ·rw [if_pos h2] at hr
    simp (maxSteps := 4000000) (disch := first | omega | (simp only [LL]; omega)) only [go_sem, g1, g3, h0, h2]
    rw [hr]
   ·rw [if_neg h2] at hr
    have u : ((l.length - 1 : Nat) : Int) = (l.length : Int) - 1 := by omega
    generalize hd : l.getD (l.length - 1) 0 = d at hr
    simp (maxSteps := 4000000) (disch := first | omega | (simp only [LL]; omega)) only [go_sem, g1, g3, h0, hd]
    rw [hr]
    by_cases hd0 : d = 0 <;> simp [hd0]
 ·simp (maxSteps := 4000000) (disch := first | omega | (simp only [LL]; omega)) only [go_sem]
  exact fun j h => absurd h (Nat.not_lt_zero j)
theorem trim_len (l : List Int) : (trim l).length ≤ l.length := by
 unfold trim
 rw [List.length_reverse]
 have := (List.dropWhile_suffix (fun x : Int => x == 0) (l := l.reverse)).length_le
 rw [List.length_reverse] at this
 exact this
theorem validI_z (p : Int) : validI (decide (p < 0)) (digs p.natAbs) = true := by
 have hk : okDig (digs p.natAbs) = true := by
  unfold okDig
  rw [List.all_eq_true]
  intro d hd
  have := okd_digs _ d hd
  exact decide_eq_true this
 unfold validI
 rw [hk, Bool.true_and]
 by_cases h0 : p = 0
 ·subst h0; simp [digs_zero]
 ·have hp := nd_pos p h0
  rw [nd] at hp
  rw [if_neg (by omega)]
  refine decide_eq_true fun h => ?_
  have h1 := trim_zero (digs p.natAbs) ((digs p.natAbs).length - 1) (by omega) h
  have h2 := trim_len ((digs p.natAbs).take ((digs p.natAbs).length - 1))
  rw [← h1, List.take_of_length_le (by omega), trim_digs_self, List.length_take] at h2
  omega
theorem valid_z4 [SpC] (p : Int) (hp : nd p < 2 ^ 30) : M X 221 [.agg [zS p, zD p]] = some (.bool true) := by
 have := M_221 (decide (p < 0)) (digs p.natAbs) (by rw [nd] at hp; omega)
 rw [validI_z] at this
 exact this
def validQ (p q : Int) : Bool := decide (0 ≤ q ∧ q ≠ 1 ∧ (q = 0 ∨ Int.gcd p q = 1))
theorem valid_pq [SpC] (p q : Int) (hp : nd p < 2 ^ 26) (hq : nd q < 2 ^ 26) : M X 164 [.agg [zS p, zD p, zS q, zD q]] = some (.bool (validQ p q)) := by
 refine M_of X (fn := Tryz.f164) Tryz.func164 rfl ok_164 mode_164 res_164 _ rfl _ ?_
 intro r hr
 have v1 := valid_z4 p (by omega)
 have v2 := valid_z4 q (by omega)
 have o1 := M_183 q (by omega)
 by_cases h1 : q < 0
 ·have e : validQ p q = false := decide_eq_false (by omega)
  have z := zS_neg q h1
  rw [z] at v2 ⊢
  simp (maxSteps := 4000000) (disch := first | omega | (simp only [LL]; omega)) only [go_sem, v1, v2]
  rw [hr, e]
 ·have z := zS_pos q (by omega)
  rw [z] at v2 o1 ⊢
  by_cases h2 : q = 1
  ·have e : validQ p q = false := decide_eq_false (by omega)
   rw [decide_eq_true h2] at o1
   simp (maxSteps := 4000000) (disch := first | omega | (simp only [LL]; omega)) only [go_sem, v1, v2, o1]
   rw [hr, e]
  ·rw [decide_eq_false h2] at o1
   by_cases h3 : q = 0
   ·have e : validQ p q = true := decide_eq_true ⟨by omega, h2, .inl h3⟩
    have n0 := nd_zero q h3
    simp (maxSteps := 4000000) (disch := first | omega | (simp only [LL]; omega)) only [go_sem, v1, v2, o1, n0]
    rw [hr, e]
   ·have np := nd_pos q h3
    have e : validQ p q = decide (Int.gcd p q = 1) := by
     unfold validQ
     by_cases h4 : Int.gcd p q = 1
     ·rw [decide_eq_true h4]; exact decide_eq_true ⟨by omega, h2, .inr h4⟩
     ·rw [decide_eq_false h4]; exact decide_eq_false (by omega)
    have g1 := M_180 p q (by omega) (by omega)
    rw [z] at g1
    have hle : nd (Int.gcd p q : Int) ≤ nd q := nd_mono (by
     rw [Int.natAbs_natCast]
     exact Nat.le_of_dvd (by omega) (Int.gcd_dvd_natAbs_right p q))
    have o2 := M_183 (Int.gcd p q : Int) (by omega)
    have e2 : decide ((Int.gcd p q : Int) = 1) = decide (Int.gcd p q = 1) := by congr 1; exact propext (by omega)
    rw [e2] at o2
    generalize Int.gcd p q = g at *
    simp (maxSteps := 4000000) (disch := first | omega | (simp only [LL]; omega)) only [go_sem, v1, v2, o1, g1, o2]
    rw [hr, e]
def Nm.ok : Nm → Bool
 | .z p q => validQ p q
 | .bad => false
def nmB (n : Nm) : Prop := match n with
 | .z p q => nd p < 2 ^ 20 ∧ nd q < 2 ^ 20
 | .bad => True
theorem valid_bad [SpC] : M X 164 [.agg [.bool false, .ro [.int .i64 0] 1 false, zS 2, zD 2]] = some (.bool false) := by
 refine M_of X (fn := Tryz.f164) Tryz.func164 rfl ok_164 mode_164 res_164 _ rfl _ ?_
 intro r hr
 have v1 : M X 221 [.agg [.bool false, .ro [.int .i64 0] 1 false]] = some (.bool false) := M_221 false [0] (by decide)
 simp (maxSteps := 4000000) (disch := first | omega | (simp only [LL]; omega)) only [go_sem, v1]
 rw [hr]
theorem M_164 [SpC] (n : Nm) (h : nmB n) : M X 164 [.agg [n.c1, n.c2, n.c3, n.c4]] = some (.bool n.ok) := by
 cases n with
 | z p q => exact valid_pq p q (by have := h.1; omega) (by have := h.2; omega)
 | bad => exact valid_bad
theorem ok_ofQ (x : Rat) : (ofQ x).ok = true := by
 show validQ x.num (dz x) = true
 have hp := den_pos x
 have hr := x.reduced
 unfold validQ
 refine decide_eq_true ⟨dz_nonneg x, ?_, ?_⟩
 ·by_cases h : x.den = 1
  ·rw [dz_one h]; decide
  ·rw [dz_ne h]; omega
 ·by_cases h : x.den = 1
  ·exact .inl (dz_one h)
  ·rw [dz_ne h]; exact .inr hr
theorem nmB_ofQ {x : Rat} {n : Nat} (h : RS x n) (hn : n < 2 ^ 19) : nmB (ofQ x) := by
 have h1 := h.num
 have h2 := h.den
 refine ⟨by omega, ?_⟩
 by_cases hd : x.den = 1
 ·rw [dz_one hd, nd_zero 0 rfl]; decide
 ·rw [dz_ne hd]; omega
def nmA (n : Nm) : List AV := [n.c1, n.c2, n.c3, n.c4]
theorem nmA_eq (n : Nm) : nmA n = [n.c1, n.c2, n.c3, n.c4] := nr rfl
instance enc_nm : Enc nmA 4 where
 len _ := rfl
 wk a c hc := by simp only [nmA, List.mem_cons, List.not_mem_nil, or_false] at hc; rcases hc with rfl | rfl | rfl | rfl <;> first | exact weak_c1 _ | exact weak_c2 _ | exact weak_c3 _ | exact weak_c4 _
 sn a c hc h d := by simp only [nmA, List.mem_cons, List.not_mem_nil, or_false] at hc; rcases hc with rfl | rfl | rfl | rfl <;> first | exact snap_c1 .. | exact snap_c2 .. | exact snap_c3 .. | exact snap_c4 ..
theorem rat_nm (l : List Rat) : cat ratA l = cat nmA (l.map ofQ) := by
 induction l with
 | nil => rfl
 | cons x l ih => rw [cat_cons, List.map_cons, cat_cons, ih]; rfl
theorem M_89 [SpC] (l : List Nm) (hl : l.length < 2 ^ 30) (h : ∀ n ∈ l, nmB n) : M X 89 [.ro (cat nmA l) l.length false] = some (.bool (l.all Nm.ok)) := by
 refine M_of X (fn := Tryz.f89) Tryz.func89 rfl ok_89 mode_89 res_89 _ rfl _ ?_
 intro r hr
 have hl2 := cat_length (f := nmA) l
 simp (maxSteps := 4000000) (disch := first | omega | (simp only [LL]; omega)) only [go_sem, hl2]
 refine W_loop X (fun (k : Nat) s => k ≤ l.length ∧ (∀ j n, j < k → l[j]? = some n → n.ok = true) ∧ s.env 0 = .ro (cat nmA l) l.length false ∧ s.env 3 = .int .i64 k) (fun k => l.length - k) ?_ 0 _ ?_
 ·rintro k ⟨env, heap, nx⟩ ⟨hk, hj, g0, g3⟩
  simp only at g0 g3
  by_cases h1 : k < l.length
  ·have hn := List.getElem?_eq_getElem h1
   have hd := cat_take (f := nmA) hn
   have hv := M_164 l[k] (h _ (List.getElem_mem h1))
   by_cases h2 : l[k].ok = true
   ·have hj' : ∀ j n, j < k + 1 → l[j]? = some n → n.ok = true := by
     intro j n h3 h4
     rcases Nat.lt_or_ge j k with h5 | h5
     ·exact hj j n h5 h4
     ·obtain rfl : j = k := by omega
      rw [hn] at h4; cases h4; exact h2
    rw [h2] at hv
    clear hj
    generalize l[k] = n at hd hv
    rw [nmA_eq] at hd
    simp (maxSteps := 4000000) (disch := first | omega | (simp only [LL]; omega)) only [go_sem, hl2, hd, g0, g3, hv]
    exact ⟨k + 1, ⟨by omega, hj', rfl⟩, by omega⟩
   ·simp only [Bool.not_eq_true] at h2
    have ha : l.all Nm.ok = false := by
     rw [List.all_eq_false]; exact ⟨_, List.getElem_mem h1, by simp [h2]⟩
    rw [h2] at hv
    clear hj
    generalize l[k] = n at hd hv
    rw [nmA_eq] at hd
    simp (maxSteps := 4000000) (disch := first | omega | (simp only [LL]; omega)) only [go_sem, hl2, hd, g0, g3, hv]
    rw [hr, ha]
  ·have ha : l.all Nm.ok = true := by
    rw [List.all_eq_true]
    intro n hn
    obtain ⟨j, h3, rfl⟩ := List.getElem_of_mem hn
    exact hj j _ (by omega) (List.getElem?_eq_getElem h3)
   clear hj
   simp (maxSteps := 4000000) (disch := first | omega | (simp only [LL]; omega)) only [go_sem, hl2, g0, g3]
   rw [hr, ha]
 ·simp (maxSteps := 4000000) (disch := first | omega | (simp only [LL]; omega)) only [go_sem]
  exact fun j n h => absurd h (Nat.not_lt_zero j)
abbrev Q3 := Rat × Rat × Rat
def mvF (v : List Rat) (a : Q3) (c : ColR) : Q3 := (a.1 + v.getD c.dof.toNat 0 * c.x, a.2.1 + v.getD c.dof.toNat 0 * c.y, a.2.2 + v.getD c.dof.toNat 0 * c.s)
def mvK (v : List Rat) (cols : List ColR) (k : Nat) : Q3 := (cols.take k).foldl (mvF v) (0, 0, 0)
def mvV (v : List Rat) (cols : List ColR) : Q3 := cols.foldl (mvF v) (0, 0, 0)
theorem mvK_all (v : List Rat) (cols : List ColR) : mvK v cols cols.length = mvV v cols := by rw [mvK, List.take_length]; rfl
theorem mvK_zero (v : List Rat) (cols : List ColR) : mvK v cols 0 = (0, 0, 0) := rfl
theorem foldl_take {α β : Type} (f : β → α → β) (p : β) (l : List α) (k : Nat) (a : α) (h : l[k]? = some a) : (l.take (k + 1)).foldl f p = f ((l.take k).foldl f p) a := by
 obtain ⟨hk, rfl⟩ := List.getElem?_eq_some_iff.1 h
 rw [List.take_succ_eq_append_getElem hk, List.foldl_append]; rfl
def okCols (n N : Nat) (cols : List ColR) : Prop := cols.length ≤ 8 ∧ ∀ c ∈ cols, (0 ≤ c.dof ∧ c.dof < n) ∧ RS c.x N ∧ RS c.y N ∧ RS c.s N
structure RS3 (a : Q3) (n : Nat) : Prop where
 r1 : RS a.1 n
 r2 : RS a.2.1 n
 r3 : RS a.2.2 n
theorem getD_rs {l : List Rat} {N : Nat} (h : ∀ x ∈ l, RS x N) (i : Nat) (hi : i < l.length) : RS (l.getD i 0) N := by
 rw [List.getD_eq_getElem?_getD, List.getElem?_eq_getElem hi]; exact h _ (List.getElem_mem hi)
theorem mvK_rs {v : List Rat} {cols : List ColR} {N : Nat} (hv : ∀ x ∈ v, RS x N) (hc : okCols v.length N cols) : ∀ k, k ≤ cols.length → RS3 (mvK v cols k) (k * (2 * N + 1) + 1) := by
 intro k
 induction k with
 | zero => intro _; exact ⟨rs_zero.mono (by omega), rs_zero.mono (by omega), rs_zero.mono (by omega)⟩
 | succ k ih =>
  intro hk
  obtain ⟨i1, i2, i3⟩ := ih (by omega)
  have hg := List.getElem?_eq_getElem (show k < cols.length by omega)
  obtain ⟨⟨d1, d2⟩, c1, c2, c3⟩ := hc.2 _ (List.getElem_mem (show k < cols.length by omega))
  have e : mvK v cols (k + 1) = mvF v (mvK v cols k) cols[k] := foldl_take _ _ _ _ _ hg
  rw [e]
  generalize mvK v cols k = a at *
  generalize cols[k] = c at *
  have rv := getD_rs hv c.dof.toNat (by omega)
  rw [Nat.add_mul, Nat.one_mul]
  exact ⟨(inferInstance : RS (_ + _) _).mono (by omega), (inferInstance : RS (_ + _) _).mono (by omega), (inferInstance : RS (_ + _) _).mono (by omega)⟩
theorem mvV_rs {v : List Rat} {cols : List ColR} {N : Nat} (hv : ∀ x ∈ v, RS x N) (hc : okCols v.length N cols) : RS3 (mvV v cols) (cols.length * (2 * N + 1) + 1) := by
 have := mvK_rs hv hc cols.length (Nat.le_refl _)
 rw [mvK_all] at this
 exact this
def atV (q : List Rat) (p : PartR) : Rat × Rat := (p.hx + (mvV q p.cols).1, p.hy + (mvV q p.cols).2.1)
theorem cols_bd {n N : Nat} {cols : List ColR} (hc : okCols n N cols) (hN : N < 2 ^ 10) : cols.length * (2 * N + 1) < 2 ^ 15 := by
 have := Nat.mul_le_mul (show cols.length ≤ 8 by have := hc.1; omega) (show 2 * N + 1 ≤ 2047 by omega)
 omega
theorem at_rs {v : List Rat} {p : PartR} {N : Nat} (hv : ∀ x ∈ v, RS x N) (hc : okCols v.length N p.cols) (h1 : RS p.hx N) (h2 : RS p.hy N) (hN : N < 2 ^ 10) : RS (atV v p).1 (2 ^ 16) ∧ RS (atV v p).2 (2 ^ 16) := by
 obtain ⟨a1, a2, a3⟩ := mvV_rs hv hc
 have hb := cols_bd hc hN
 exact ⟨(inferInstance : RS (p.hx + (mvV v p.cols).1) _).mono (by omega), (inferInstance : RS (p.hy + (mvV v p.cols).2.1) _).mono (by omega)⟩
theorem mheld_next {h h' : Heap} {nx nx' lo : Nat} {S : List Nat} {ws : List PW} {m m' : MdlR} {vd vp : AV} (p : PartR) (C Bp Bd : Nat) {nd np nc : Nat} {cap : Option Nat} {g z : Bool}
  (hS : ∀ b ∈ S, lo ≤ b ∧ b < nx) (hP : PartsH h S ws) (hws : ws.map (fun w => w.2.2) = m.parts) (hlo : lo ≤ nx) (hC : nx ≤ C ∧ C < nx')
  (hkeep : ∀ b ∈ S, h' b = h b) (hm : m'.parts = m.parts ++ [p]) (hBp : nx ≤ Bp ∧ Bp < nx' ∧ Bp ≠ C) (hBd : nx ≤ Bd ∧ Bd < nx' ∧ Bd ≠ C ∧ Bd ≠ Bp)
  (evp : vp = .sl Bp 0 np none 18) (evd : vd = .sl Bd 0 nd none 17) (enp : np = m'.parts.length) (edn : nd = m'.dofs.length) (enc : nc = p.cols.length)
  (hc : h' C = some (.cells (cat colA p.cols) g z)) (hp : h' Bp = some (.cells (cat pwA ws ++ pwA (.ro (ptC p.shape) p.shape.length false, .sl C 0 nc cap 13, p)) true false))
  (hd : h' Bd = some (.cells (cat dofA m'.dofs) true false)) : MHeld h' nx' lo vd vp m' := by
 subst evp enp evd edn enc
 refine ⟨C :: S, ws ++ [(.ro (ptC p.shape) p.shape.length false, .sl C 0 p.cols.length cap 13, p)], Bp, ?_, ?_, ?_, by omega, ?_, .inr ⟨rfl, by rw [hp, cat_snoc], Bd, by omega, ?_, hBd.2.2.2, rfl, hd⟩⟩
 ·intro b hb
  rcases List.mem_cons.1 hb with rfl | hb
  ·omega
  ·have := hS b hb; omega
 ·intro w hw
  rcases List.mem_append.1 hw with hw | hw
  ·exact ⟨(hP w hw).1.keep (fun b hb => by simp [hb]) hkeep, (hP w hw).2.keep (fun b hb => by simp [hb]) hkeep⟩
  ·simp only [List.mem_cons, List.not_mem_nil, or_false] at hw
   subst hw
   exact ⟨.inl ⟨_, rfl⟩, .inr ⟨C, cap, g, z, List.mem_cons_self .., rfl, hc, cat_length _⟩⟩
 ·rw [List.map_append, hws, hm]; rfl
 ·intro hb
  rcases List.mem_cons.1 hb with hb | hb
  ·exact hBp.2.2 hb
  ·have := hS _ hb; omega
 ·intro hb
  rcases List.mem_cons.1 hb with hb | hb
  ·exact hBd.2.2.1 hb
  ·have := hS _ hb; omega
theorem upd_hit {α : Type} {f : Nat → α} {i j : Nat} {a : α} (h : j = i) : upd f i a j = a := if_pos h
theorem upd_miss {α : Type} {f : Nat → α} {i j : Nat} {a b : α} (h : j ≠ i) (hr : f j = b) : upd f i a j = b := (if_neg h).trans hr
theorem block_call [SpC] (m : MdlR) (s : List Pt) (hsl : s.length < 2 ^ 20) (x y n : Int) (hx : -1000 ≤ x ∧ x ≤ 1000) (hy : -1000 ≤ y ∧ y ≤ 1000) (hn : 0 ≤ n ∧ n ≤ 1000) (wheel : Bool) (heap : Heap) (nx lo : Nat) (vd vp vr vs : AV) (hlo : lo ≤ nx) (hdl : m.dofs.length < 100) (hpl : m.parts.length < 100) (H : MHeld heap nx lo vd vp m) :
  ∃ vd' vp' h' nx', callI X 47 [.agg [vd, vp, vr, vs], .ro (ptC s) s.length false, .int .i64 x, .int .i64 y, .int .i64 n, .bool wheel] heap nx = some (.agg [vd', vp', vr, vs], h', nx') ∧ nx ≤ nx' ∧ (∀ b, b < lo → h' b = heap b) ∧ MHeld h' nx' lo vd' vp' (blockV m s x y n wheel) := by
 suffices hs : ∀ Φ : AV × Heap × Nat → Prop, (∀ vd' vp' h' nx', nx ≤ nx' → (∀ b, b < lo → h' b = heap b) → MHeld h' nx' lo vd' vp' (blockV m s x y n wheel) → Φ (.agg [vd', vp', vr, vs], h', nx')) →
   ∃ q, callI X 47 [.agg [vd, vp, vr, vs], .ro (ptC s) s.length false, .int .i64 x, .int .i64 y, .int .i64 n, .bool wheel] heap nx = some q ∧ Φ q by
  obtain ⟨q, k1, vd', vp', h', nx', k2, k3, k4, k5⟩ := hs (fun q => ∃ vd' vp' h' nx', q = (.agg [vd', vp', vr, vs], h', nx') ∧ nx ≤ nx' ∧ (∀ b, b < lo → h' b = heap b) ∧ MHeld h' nx' lo vd' vp' (blockV m s x y n wheel)) (fun vd' vp' h' nx' a b c => ⟨vd', vp', h', nx', rfl, a, b, c⟩)
  subst k2
  exact ⟨vd', vp', h', nx', k1, k3, k4, k5⟩
 intro Φ hΦ
 refine callI_of (fn := Tryz.f47) Tryz.func47 rfl ok_47 res_47 _ rfl heap nx _ ?_
 have o1 := M_44 1 (1 + n % 3) (by omega) (by omega)
 have o2 := M_44 (0 - (1 + n / 3 % 3)) 8 (by omega) (by omega)
 have o3 := M_44 (n / 9 % 4) 2 (by omega) (by omega)
 have o4 := M_44 (n / 36 % 3) 2 (by omega) (by omega)
 have o5 := M_44 2 1 (by omega) (by omega)
 have n1 := M_50 x ⟨by omega, by omega⟩
 have n2 := M_50 y ⟨by omega, by omega⟩
 have n3 := M_50 1 ⟨by omega, by omega⟩
 have hel := cat_length (f := dofA) m.dofs
 have hpt := ptC_length s
 obtain ⟨S, ws, Bp, hS, hP, hws, hBp, hnp, H⟩ := H
 have hwl := pw_length ws
 have hwn : ws.length = m.parts.length := by rw [← hws, List.length_map]
 unfold blockV at hΦ
 generalize Rat.divInt 1 (1 + n % 3) = inv at *
 generalize Rat.divInt (0 - (1 + n / 3 % 3)) 8 = grav at *
 generalize Rat.divInt (n / 9 % 4) 2 = ro at *
 generalize Rat.divInt (n / 36 % 3) 2 = bo at *
 generalize Rat.divInt 2 1 = q2 at *
 generalize Rat.divInt 1 1 = q1 at *
 generalize Rat.divInt x 1 = xq at *
 generalize Rat.divInt y 1 = yq at *
 clear hsl
 have hkp : ∀ b ∈ S, b ≠ Bp := fun b hb h => hnp (h ▸ hb)
 rcases H with ⟨e1, e2, e3, e4⟩ | ⟨e1, e2, Bd, hBd, hnd, hne, e3, e4⟩
 ·subst e1 e3
  cases wheel with
  | false =>
   simp (maxSteps := 4000000) (disch := first | omega | (simp only [LL]; omega)) only [go_sem, outC_ret, outC_normal, e2, hwl, hpt, replA_1, replA_2, weaks_ptC, mode_44, mode_50, o1, o2, o3, o4, o5, n1, n2, n3]
   refine hΦ _ _ _ _ (by omega) (fun b hb => ?_) (mheld_next (m := m) (cap := some 2) (g := false) (z := false) (p := ⟨s, xq, yq, [⟨m.dofs.length, q1, 0, 0⟩, ⟨m.dofs.length + 1, 0, q1, 0⟩], ro, bo⟩) (nx + 16 + 48 + 64 + 32 + 136 + 88 + 56) (nx + 16 + 48 + 64 + 32 + 136 + 88 + 80 + 8 + 32) (nx + 16 + 48 + 64 + 32 + 136 + 64) hS hP hws hlo (by omega) (fun b hb => ?_) rfl (by omega) (by omega) rfl rfl (by simp) (by simp [e4]) rfl ?_ ?_ ?_)
   ·simp only [upd_apply]
    repeat rw [if_neg (by omega)]
   ·have := hS b hb
    have := hkp b hb
    simp only [upd_apply]
    repeat rw [if_neg (by omega)]
   ·repeat first | refine Eq.trans (upd_hit (by omega)) ?_ | refine upd_miss (by omega) ?_
    simp only [cat_cons, cat_nil, colA_eq, q0a, q0b, q0c, q0d, e4, List.cons_append, List.nil_append, List.append_nil, List.length_nil]
    rfl
   ·repeat first | refine Eq.trans (upd_hit (by omega)) ?_ | refine upd_miss (by omega) ?_
    rfl
   ·repeat first | refine Eq.trans (upd_hit (by omega)) ?_ | refine upd_miss (by omega) ?_
    simp only [cat_append, cat_cons, cat_nil, dofA_eq, c1_q, c2_q, c3_q, c4_q, q0a, q0b, q0c, q0d, e4, List.cons_append, List.nil_append, List.append_nil, List.append_assoc, if_pos, Bool.false_eq_true, if_false]
  | true =>
   simp (maxSteps := 4000000) (disch := first | omega | (simp only [LL]; omega)) only [go_sem, outC_ret, outC_normal, e2, hwl, hpt, replA_1, replA_2, weaks_ptC, mode_44, mode_50, o1, o2, o3, o4, o5, n1, n2, n3]
   refine hΦ _ _ _ _ (by omega) (fun b hb => ?_) (mheld_next (m := m) (cap := none) (g := true) (z := false) (p := ⟨s, xq, yq, [⟨m.dofs.length, q1, 0, 0⟩, ⟨m.dofs.length + 1, 0, q1, 0⟩, ⟨m.dofs.length + 2, 0, 0, q1⟩], ro, bo⟩) (nx + 16 + 48 + 64 + 32 + 136 + 88 + 80 + 8 + 64 + 56) (nx + 16 + 48 + 64 + 32 + 136 + 88 + 80 + 8 + 64 + 80 + 32) (nx + 16 + 48 + 64 + 32 + 136 + 88 + 80 + 8 + 40) hS hP hws hlo (by omega) (fun b hb => ?_) rfl (by omega) (by omega) rfl rfl (by simp) (by simp [e4]) rfl ?_ ?_ ?_)
   ·simp only [upd_apply]
    repeat rw [if_neg (by omega)]
   ·have := hS b hb
    have := hkp b hb
    simp only [upd_apply]
    repeat rw [if_neg (by omega)]
   ·repeat first | refine Eq.trans (upd_hit (by omega)) ?_ | refine upd_miss (by omega) ?_
    simp only [cat_cons, cat_nil, colA_eq, q0a, q0b, q0c, q0d, e4, List.cons_append, List.nil_append, List.append_nil, List.length_nil]
    rfl
   ·repeat first | refine Eq.trans (upd_hit (by omega)) ?_ | refine upd_miss (by omega) ?_
    rfl
   ·repeat first | refine Eq.trans (upd_hit (by omega)) ?_ | refine upd_miss (by omega) ?_
    simp only [cat_append, cat_cons, cat_nil, dofA_eq, c1_q, c2_q, c3_q, c4_q, q0a, q0b, q0c, q0d, e4, List.cons_append, List.nil_append, List.append_nil, List.append_assoc, if_pos, Bool.false_eq_true, if_false]
 ·subst e1 e3
  have hkd : ∀ b ∈ S, b ≠ Bd := fun b hb h => hnd (h ▸ hb)
  cases wheel with
  | false =>
   simp (maxSteps := 4000000) (disch := first | omega | (simp only [LL]; omega)) only [go_sem, outC_ret, outC_normal, e2, e4, hel, hwl, hpt, replA_1, replA_2, weaks_ptC, mode_44, mode_50, o1, o2, o3, o4, o5, n1, n2, n3]
   refine hΦ _ _ _ _ (by omega) (fun b hb => ?_) (mheld_next (m := m) (cap := some 2) (g := false) (z := false) (p := ⟨s, xq, yq, [⟨m.dofs.length, q1, 0, 0⟩, ⟨m.dofs.length + 1, 0, q1, 0⟩], ro, bo⟩) (nx + 16 + 48 + 64 + 32 + 136 + 88 + 56) (nx + 16 + 48 + 64 + 32 + 136 + 88 + 80 + 8 + 32) (nx + 16 + 48 + 64 + 32 + 136 + 64) hS hP hws hlo (by omega) (fun b hb => ?_) rfl (by omega) (by omega) rfl rfl (by simp) (by simp) rfl ?_ ?_ ?_)
   ·simp only [upd_apply]
    repeat rw [if_neg (by omega)]
   ·have := hS b hb
    have := hkp b hb
    have := hkd b hb
    simp only [upd_apply]
    repeat rw [if_neg (by omega)]
   ·repeat first | refine Eq.trans (upd_hit (by omega)) ?_ | refine upd_miss (by omega) ?_
    simp only [cat_cons, cat_nil, colA_eq, q0a, q0b, q0c, q0d, List.cons_append, List.nil_append, List.append_nil, List.length_nil]
    rfl
   ·repeat first | refine Eq.trans (upd_hit (by omega)) ?_ | refine upd_miss (by omega) ?_
    rfl
   ·repeat first | refine Eq.trans (upd_hit (by omega)) ?_ | refine upd_miss (by omega) ?_
    simp only [cat_append, cat_cons, cat_nil, dofA_eq, c1_q, c2_q, c3_q, c4_q, q0a, q0b, q0c, q0d, List.cons_append, List.nil_append, List.append_nil, List.append_assoc, if_pos, Bool.false_eq_true, if_false]
  | true =>
   simp (maxSteps := 4000000) (disch := first | omega | (simp only [LL]; omega)) only [go_sem, outC_ret, outC_normal, e2, e4, hel, hwl, hpt, replA_1, replA_2, weaks_ptC, mode_44, mode_50, o1, o2, o3, o4, o5, n1, n2, n3]
   refine hΦ _ _ _ _ (by omega) (fun b hb => ?_) (mheld_next (m := m) (cap := none) (g := true) (z := false) (p := ⟨s, xq, yq, [⟨m.dofs.length, q1, 0, 0⟩, ⟨m.dofs.length + 1, 0, q1, 0⟩, ⟨m.dofs.length + 2, 0, 0, q1⟩], ro, bo⟩) (nx + 16 + 48 + 64 + 32 + 136 + 88 + 80 + 8 + 64 + 56) (nx + 16 + 48 + 64 + 32 + 136 + 88 + 80 + 8 + 64 + 80 + 32) (nx + 16 + 48 + 64 + 32 + 136 + 88 + 80 + 8 + 40) hS hP hws hlo (by omega) (fun b hb => ?_) rfl (by omega) (by omega) rfl rfl (by simp) (by simp) rfl ?_ ?_ ?_)
   ·simp only [upd_apply]
    repeat rw [if_neg (by omega)]
   ·have := hS b hb
    have := hkp b hb
    have := hkd b hb
    simp only [upd_apply]
    repeat rw [if_neg (by omega)]
   ·repeat first | refine Eq.trans (upd_hit (by omega)) ?_ | refine upd_miss (by omega) ?_
    simp only [cat_cons, cat_nil, colA_eq, q0a, q0b, q0c, q0d, List.cons_append, List.nil_append, List.append_nil, List.length_nil]
    rfl
   ·repeat first | refine Eq.trans (upd_hit (by omega)) ?_ | refine upd_miss (by omega) ?_
    rfl
   ·repeat first | refine Eq.trans (upd_hit (by omega)) ?_ | refine upd_miss (by omega) ?_
    simp only [cat_append, cat_cons, cat_nil, dofA_eq, c1_q, c2_q, c3_q, c4_q, q0a, q0b, q0c, q0d, List.cons_append, List.nil_append, List.append_nil, List.append_assoc, if_pos, Bool.false_eq_true, if_false]
theorem fresh_sl {h : Heap} {A len sz : Nat} {c : Option Nat} {g : Bool} {cs : List AV} (d : Nat) (hA : h A = some (.cells cs g false)) (hl : cs.length = len * sz) (hz : sz ≠ 0) (hc : snaps (snap h d) cs = some (cs, [])) : freshen h d (.sl A 0 len c sz) = some (.fresh cs len sz, [A], []) := by
 unfold freshen
 simp only [hA, Nat.zero_add, hl, Nat.le_refl, hz, ne_eq, not_false_iff, and_self, if_true, List.drop_zero]
 rw [List.take_of_length_le (by omega), hc]
 rfl
theorem nrf_boolC (l : List Bool) : AV.noRef.go (cat boolA l) = true := nr (by
 induction l with
 | nil => rfl
 | cons b l ih => rw [cat_cons, boolA_eq]; simp only [List.cons_append, List.nil_append, AV.noRef.go, AV.noRef, Bool.true_and, ih])
attribute [go_sem] nrf_boolC
theorem M_flags [SpC] {f : FuncId} {args : List AV} {B n nx : Nat} {c : Option Nat} {g : Bool} {l : List Bool} {h : Heap} (hm : X.mode f = .top) (hc : callI X f args emptyHeap 0 = some (.sl B 0 n c 1, h, nx)) (hB : h B = some (.cells (cat boolA l) g false)) (hl : l.length = n) : M X f args = some (.fresh (cat boolA l) n 1) := by
 have f1 := fresh_sl (c := c) 12 hB (by rw [cat_length, hl]) (by decide : (1 : Nat) ≠ 0) (snaps_cat h 11 l)
 rw [M_def X (by rw [hm]; rfl), hc, nx_some, hm]
 show mp (resultTop h 12 (.sl B 0 n c 1)) AV.weak = _
 have f2 : resultTop h 12 (.sl B 0 n c 1) = some (.fresh (cat boolA l) n 1) := by
  unfold resultTop
  simp only [f1, nx_some]
  rfl
 rw [f2, mp_some, weak_fresh, weaks_cat]
def lvF (h : Bool) (o : List Bool) (c : ColR) : List Bool := if h then o.set c.dof.toNat true else o
def lvP (o : List Bool) (x : PartR × Bool) : List Bool := x.1.cols.foldl (lvF x.2) o
def lvK (m : MdlR) (here : List Bool) (k : Nat) : List Bool := ((m.parts.zip here).take k).foldl lvP (List.replicate m.dofs.length false)
def liveV (m : MdlR) (here : List Bool) : List Bool := (m.parts.zip here).foldl lvP (List.replicate m.dofs.length false)
theorem lvK_all (m : MdlR) (here : List Bool) (h : here.length = m.parts.length) : lvK m here m.parts.length = liveV m here := by
 rw [lvK, List.take_of_length_le (by rw [List.length_zip]; omega)]; rfl
theorem lvF_len (h : Bool) (o : List Bool) (c : ColR) : (lvF h o c).length = o.length := by unfold lvF; split <;> simp
theorem lvFs_len (h : Bool) (l : List ColR) (o : List Bool) : (l.foldl (lvF h) o).length = o.length := by
 induction l generalizing o with
 | nil => rfl
 | cons c l ih => rw [List.foldl_cons, ih, lvF_len]
theorem lvPs_len (l : List (PartR × Bool)) (o : List Bool) : (l.foldl lvP o).length = o.length := by
 induction l generalizing o with
 | nil => rfl
 | cons c l ih => rw [List.foldl_cons, ih, lvP, lvFs_len]
theorem lvK_len (m : MdlR) (here : List Bool) (k : Nat) : (lvK m here k).length = m.dofs.length := by rw [lvK, lvPs_len, List.length_replicate]
theorem liveV_len (m : MdlR) (here : List Bool) : (liveV m here).length = m.dofs.length := by rw [liveV, lvPs_len, List.length_replicate]
theorem replA_bool (n : Nat) : replA n [.bool false] = cat boolA (List.replicate n false) := by
 unfold replA
 induction n with
 | zero => rfl
 | succ n ih => rw [List.replicate_succ, List.flatten_cons, ih, List.replicate_succ, cat_cons, boolA_eq]
def okLive (m : MdlR) : Prop := m.dofs.length < 2 ^ 20 ∧ m.parts.length < 2 ^ 20 ∧ ∀ p ∈ m.parts, p.cols.length < 2 ^ 20 ∧ ∀ c ∈ p.cols, 0 ≤ c.dof ∧ c.dof < m.dofs.length
theorem growC_mono {lo : Nat} {h h' : Heap} {nx nx' : Nat} {v : AV} {cs : List AV} {n s : Nat} (hg : GrowC lo h nx v cs n s) (hh : ∀ b, b < nx → h' b = h b) (hn : nx ≤ nx') : GrowC lo h' nx' v cs n s := by
 rcases hg with h | ⟨B, h1, h2, h3⟩
 ·exact .inl h
 ·exact .inr ⟨B, ⟨h1.1, by omega⟩, h2, by rw [hh B h1.2]; exact h3⟩
def skipOk (a b : Nat) (x : Pt) : Bool := !(decide (x.1 = a) && decide (x.2 = b))
def pairOk (m : MdlR) (here : List Bool) (a b : Nat) : Bool := (here.getD a false && here.getD b false) && m.skip.all (skipOk a b)
def rowV (m : MdlR) (here : List Bool) (a : Nat) : Nat → List Pt
 | 0 => []
 | k + 1 => rowV m here a k ++ if pairOk m here a (a + 1 + k) then [((a : Int), ((a + 1 + k : Nat) : Int))] else []
def pairsK (m : MdlR) (here : List Bool) : Nat → List Pt
 | 0 => []
 | a + 1 => pairsK m here a ++ rowV m here a (m.parts.length - (a + 1))
def pairsV (m : MdlR) (here : List Bool) : List Pt := pairsK m here m.parts.length
theorem rowV_len (m : MdlR) (here : List Bool) (a : Nat) : ∀ k, (rowV m here a k).length ≤ k
 | 0 => Nat.le_refl _
 | k + 1 => by
  have := rowV_len m here a k
  unfold rowV
  rw [List.length_append]
  split <;> simp <;> omega
theorem pairsK_len (m : MdlR) (here : List Bool) : ∀ a, (pairsK m here a).length ≤ a * m.parts.length
 | 0 => Nat.zero_le _
 | a + 1 => by
  have h1 := pairsK_len m here a
  have h2 := rowV_len m here a (m.parts.length - (a + 1))
  unfold pairsK
  rw [List.length_append, Nat.add_mul]
  omega
theorem eq_pt [SpC] (a b a' b' : Int) : binA X .eql 96 (.agg [.int .i64 a, .int .i64 b]) (.agg [.int .i64 a', .int .i64 b']) = some (.bool (decide (a = a') && decide (b = b'))) := by
 unfold binA
 have h3 := size_3
 unfold sizeA at h3
 obtain ⟨i, h1, h2⟩ := mp_eq_some.1 h3
 simp only [und_96, und_3, h1]
 simp [h2]
attribute [go_sem] eq_pt
theorem ptC_snocM (l : List Pt) (x y : Int) : ptC (l ++ [(x, y)]) = ptC l ++ [.int .i64 x, .int .i64 y] := by
 induction l with
 | nil => rfl
 | cons p l ih => simp only [ptC, List.cons_append, ih]
theorem all_take_succ {α : Type} (f : α → Bool) {l : List α} {i : Nat} {x : α} (h : l[i]? = some x) : (l.take (i + 1)).all f = ((l.take i).all f && f x) := by
 obtain ⟨hi, rfl⟩ := List.getElem?_eq_some_iff.1 h
 rw [List.take_succ_eq_append_getElem hi, List.all_append]; simp
def lexlt (p q : Pt) : Prop := p.1 < q.1 ∨ p.1 = q.1 ∧ p.2 < q.2
def cfP (p q : Pt) : Int := if p.1 < q.1 then -1 else if q.1 < p.1 then 1 else if p.2 < q.2 then -1 else if q.2 < p.2 then 1 else 0
theorem cfP_neg (p q : Pt) : cfP p q < 0 ↔ lexlt p q := by unfold cfP lexlt; grind
theorem lexlt_irrefl (p : Pt) : ¬ lexlt p p := by unfold lexlt; omega
theorem lexlt_trans {p q r : Pt} (h : lexlt p q) (k : lexlt q r) : lexlt p r := by unfold lexlt at *; omega
theorem lexlt_total {p q : Pt} (h : ¬ lexlt p q) (k : ¬ lexlt q p) : p = q := by
 obtain ⟨a, b⟩ := p; obtain ⟨c, d⟩ := q
 unfold lexlt at *
 simp only at *
 rw [Prod.mk.injEq]
 omega
theorem eq_of_sorted : ∀ (l m : List Pt), l.Pairwise lexlt → m.Pairwise lexlt → (∀ p, p ∈ l ↔ p ∈ m) → l = m
 | [], [], _, _, _ => rfl
 | [], q :: m, _, _, h => absurd ((h q).2 (by simp)) (by simp)
 | p :: l, [], _, _, h => absurd ((h p).1 (by simp)) (by simp)
 | p :: l, q :: m, hl, hm, h => by
  rw [List.pairwise_cons] at hl hm
  have hpq : p = q := by
   have h1 := (h p).1 (by simp)
   have h2 := (h q).2 (by simp)
   simp only [List.mem_cons] at h1 h2
   rcases h1 with h1 | h1
   ·exact h1
   ·rcases h2 with h2 | h2
    ·exact h2.symm
    ·exact absurd (lexlt_trans (hl.1 q h2) (hm.1 p h1)) (lexlt_irrefl p)
  subst hpq
  rw [eq_of_sorted l m hl.2 hm.2 fun r => ?_]
  constructor
  ·intro hr
   have := (h r).1 (by simp [hr])
   simp only [List.mem_cons] at this
   rcases this with rfl | hh
   ·exact absurd (hl.1 r hr) (lexlt_irrefl r)
   ·exact hh
  ·intro hr
   have := (h r).2 (by simp [hr])
   simp only [List.mem_cons] at this
   rcases this with rfl | hh
   ·exact absurd (hm.1 r hr) (lexlt_irrefl r)
   ·exact hh
theorem merge_eq (out m : List Pt) (hn : out.Nodup) (hm : m.Pairwise lexlt) (h : ∀ p, p ∈ out ↔ p ∈ m) : out.mergeSort (fun x y => !decide (cfP y x < 0)) = m := by
 have hp := List.mergeSort_perm out (fun x y => !decide (cfP y x < 0))
 have hs : (out.mergeSort (fun x y => !decide (cfP y x < 0))).Pairwise (fun x y => (!decide (cfP y x < 0)) = true) := List.pairwise_mergeSort (fun x y z h1 h2 => by
   simp only [Bool.not_eq_true', decide_eq_false_iff_not, cfP_neg] at *
   unfold lexlt at *; omega) (fun x y => by
   simp only [Bool.or_eq_true, Bool.not_eq_true', decide_eq_false_iff_not, cfP_neg]
   unfold lexlt; omega) out
 have hn' : (out.mergeSort (fun x y => !decide (cfP y x < 0))).Nodup := hp.nodup_iff.2 hn
 refine eq_of_sorted _ _ ?_ hm fun p => by rw [hp.mem_iff, h]
 refine List.Pairwise.imp₂ (R := fun x y => (!decide (cfP y x < 0)) = true) (S := (· ≠ ·)) (fun x y h1 h2 => ?_) hs hn'
 simp only [Bool.not_eq_true', decide_eq_false_iff_not, cfP_neg] at h1
 exact Classical.byContradiction fun hc => h2 (lexlt_total hc h1)
def lexL : List Int → List Int → Int
 | [], [] => 0
 | [], _ :: _ => -1
 | _ :: _, [] => 1
 | x :: a, y :: b => if x < y then -1 else if y < x then 1 else lexL a b
theorem lexL_drop {a b : List Int} {k : Nat} (h1 : k < a.length) (h2 : k < b.length) :
  lexL (a.drop k) (b.drop k) = if a.getD k 0 < b.getD k 0 then -1 else if b.getD k 0 < a.getD k 0 then 1 else lexL (a.drop (k + 1)) (b.drop (k + 1)) := by
 rw [List.drop_eq_getElem_cons h1, List.drop_eq_getElem_cons h2, List.getD_eq_getElem?_getD, List.getD_eq_getElem?_getD, List.getElem?_eq_getElem h1, List.getElem?_eq_getElem h2]
 rfl
theorem M_64 [SpC] (a b : List Int) (ha : a.length < 2 ^ 40) (hb : b.length < 2 ^ 40) : M X 64 [isl a, isl b] = some (.int .i64 (lexL a b)) := by
 refine M_of X (fn := Tryz.f64) Tryz.func64 rfl ok_64 mode_64 res_64 _ rfl _ ?_
 intro r hr
 simp (maxSteps := 4000000) (disch := first | omega | (simp only [LL]; omega)) only [go_sem]
 refine W_loop X (fun (k : Nat) s => (k ≤ a.length ∧ k ≤ b.length) ∧ r = .int .i64 (lexL (a.drop k) (b.drop k)) ∧ s.env 0 = isl a ∧ s.env 1 = isl b ∧ s.env 9 = isl a ∧ s.env 10 = .int .i64 a.length ∧ s.env 11 = .int .i64 k) (fun k => a.length - k) ?_ 0 _ ?_
 ·rintro k ⟨env, heap, nx⟩ ⟨⟨hk, hkb⟩, hj, g0, g1, g9, g10, g11⟩
  simp only at g0 g1 g9 g10 g11
  by_cases h1 : k < a.length
  ·by_cases h2 : k < b.length
   ·have e := lexL_drop h1 h2
    rw [e] at hj
    have c := M_131 (a.getD k 0) (b.getD k 0)
    generalize hx : a.getD k 0 = x at *
    generalize hy : b.getD k 0 = y at *
    by_cases h3 : x < y
    ·rw [if_pos h3] at hj c
     simp (maxSteps := 4000000) (disch := first | omega | (simp only [LL]; omega)) only [go_sem, g0, g1, g9, g10, g11, hx, hy, c]
     rw [hj]
    ·rw [if_neg h3] at hj c
     by_cases h4 : y < x
     ·rw [if_pos h4] at hj c
      simp (maxSteps := 4000000) (disch := first | omega | (simp only [LL]; omega)) only [go_sem, g0, g1, g9, g10, g11, hx, hy, c]
      rw [hj]
     ·rw [if_neg h4] at hj c
      simp (maxSteps := 4000000) (disch := first | omega | (simp only [LL]; omega)) only [go_sem, g0, g1, g9, g10, g11, hx, hy, c]
      exact ⟨k + 1, ⟨⟨by omega, by omega⟩, hj, rfl⟩, by omega⟩
   ·obtain rfl : k = b.length := by omega
    have e : lexL (a.drop b.length) (b.drop b.length) = 1 := by
     rw [List.drop_eq_getElem_cons h1, List.drop_length]; rfl
    rw [e] at hj
    simp (maxSteps := 4000000) (disch := first | omega | (simp only [LL]; omega)) only [go_sem, g0, g1, g9, g10, g11]
    rw [hj]
  ·obtain rfl : k = a.length := by omega
   by_cases h2 : a.length < b.length
   ·have e : lexL (a.drop a.length) (b.drop a.length) = -1 := by
     rw [List.drop_eq_getElem_cons h2, List.drop_length]; rfl
    rw [e] at hj
    simp (maxSteps := 4000000) (disch := first | omega | (simp only [LL]; omega)) only [go_sem, g0, g1, g9, g10, g11]
    rw [hj]
   ·have e : lexL (a.drop a.length) (b.drop a.length) = 0 := by
     rw [List.drop_length, List.drop_of_length_le (by omega)]; rfl
    rw [e] at hj
    simp (maxSteps := 4000000) (disch := first | omega | (simp only [LL]; omega)) only [go_sem, g0, g1, g9, g10, g11]
    rw [hj]
 ·simp (maxSteps := 4000000) (disch := first | omega | (simp only [LL]; omega)) only [go_sem]
  exact hr
theorem lexL_two (a b c d : Int) : lexL [a, b] [c, d] = if a < c then -1 else if c < a then 1 else if b < d then -1 else if d < b then 1 else 0 := rfl
theorem M_76 [SpC] (a b c d : Int) : M X 76 [.agg [.int .i64 a, .int .i64 b], .agg [.int .i64 c, .int .i64 d]] = some (.int .i64 (if a < c then -1 else if c < a then 1 else if b < d then -1 else if d < b then 1 else 0)) := by
 refine M_of X (fn := Tryz.f76) Tryz.func76 rfl ok_76 mode_76 res_76 _ rfl _ ?_
 intro r hr
 have c1 := M_64 [a, b] [c, d] (by simp) (by simp)
 rw [lexL_two] at c1
 rw [hr]
 have i2 : ∀ x y : Int, isl [x, y] = .ro [.int .i64 x, .int .i64 y] 2 false := fun _ _ => rfl
 rw [i2, i2] at c1
 simp (maxSteps := 4000000) (disch := first | omega | (simp only [LL]; omega)) only [go_sem, c1]
def skE (l : List Pt) : Nat → List (Pt × Nat)
 | 0 => []
 | k + 1 => skE l k ++ [(l.getD k (0, 0), k)]
theorem skE_mem {l : List Pt} : ∀ {k : Nat}, k ≤ l.length → ∀ p : Pt, (∃ q ∈ skE l k, q.1 = p) ↔ p ∈ l.take k
 | 0, _, p => by simp [skE]
 | k + 1, h, p => by
  have ih := skE_mem (l := l) (k := k) (by omega) p
  have hg : l.getD k (0, 0) = l[k] := by rw [List.getD_eq_getElem?_getD, List.getElem?_eq_getElem (show k < l.length by omega)]; rfl
  rw [skE, List.take_succ_eq_append_getElem (by omega), List.mem_append, ← ih, hg]
  constructor
  ·rintro ⟨q, hq, rfl⟩
   rcases List.mem_append.1 hq with hq | hq
   ·exact .inl ⟨q, hq, rfl⟩
   ·simp only [List.mem_singleton] at hq; subst hq; exact .inr (by simp)
  ·rintro (⟨q, hq, rfl⟩ | hq)
   ·exact ⟨q, List.mem_append.2 (.inl hq), rfl⟩
   ·simp only [List.mem_singleton] at hq; subst hq; exact ⟨(l[k], k), by simp, rfl⟩
theorem skE_any (l : List Pt) (p : Pt) : (skE l l.length).any (fun q => decide (q.1 = p)) = l.any fun q => decide (q = p) := by
 rw [Bool.eq_iff_iff, List.any_eq_true, List.any_eq_true]
 have := skE_mem (l := l) (Nat.le_refl l.length) p
 rw [List.take_length] at this
 constructor
 ·rintro ⟨q, hq, h⟩
  exact ⟨p, this.1 ⟨q, hq, of_decide_eq_true h⟩, by simp⟩
 ·rintro ⟨q, hq, h⟩
  obtain rfl := of_decide_eq_true h
  obtain ⟨e, he, h2⟩ := this.2 hq
  exact ⟨e, he, decide_eq_true h2⟩
theorem skip_any (m : MdlR) (a b : Nat) : m.skip.all (skipOk a b) = !(m.skip.any fun q => decide (q = ((a : Int), (b : Int)))) := by
 rw [List.any_eq_not_all_not, Bool.not_not]
 congr 1
 funext q
 obtain ⟨x, y⟩ := q
 unfold skipOk
 congr 1
 rw [Bool.eq_iff_iff]
 simp
def colV (m : MdlR) (here : List Bool) (b : Nat) : Nat → List Pt
 | 0 => []
 | a + 1 => colV m here b a ++ if pairOk m here a b then [((a : Int), (b : Int))] else []
def outK (m : MdlR) (here : List Bool) : Nat → List Pt
 | 0 => []
 | b + 1 => outK m here b ++ colV m here b b
theorem colV_len (m : MdlR) (here : List Bool) (b : Nat) : ∀ a, (colV m here b a).length ≤ a
 | 0 => Nat.le_refl _
 | a + 1 => by
  have := colV_len m here b a
  unfold colV
  rw [List.length_append]
  split <;> simp <;> omega
theorem outK_len (m : MdlR) (here : List Bool) : ∀ b, (outK m here b).length ≤ b * b
 | 0 => Nat.zero_le _
 | b + 1 => by
  have h1 := outK_len m here b
  have h2 := colV_len m here b b
  unfold outK
  rw [List.length_append, Nat.add_mul, Nat.mul_add]
  omega
theorem mem_colV (m : MdlR) (here : List Bool) (b : Nat) (p : Pt) : ∀ n, p ∈ colV m here b n ↔ ∃ a : Nat, a < n ∧ p = ((a : Int), (b : Int)) ∧ pairOk m here a b = true
 | 0 => by simp [colV]
 | n + 1 => by
  rw [colV, List.mem_append, mem_colV m here b p n]
  constructor
  ·rintro (⟨a, h1, h2, h3⟩ | h)
   ·exact ⟨a, by omega, h2, h3⟩
   ·split at h
    ·rename_i hk
     simp only [List.mem_singleton] at h
     exact ⟨n, by omega, h, hk⟩
    ·simp at h
  ·rintro ⟨a, h1, h2, h3⟩
   by_cases ha : a < n
   ·exact .inl ⟨a, ha, h2, h3⟩
   ·obtain rfl : a = n := by omega
    exact .inr (by rw [if_pos h3]; simp [h2])
theorem mem_outK (m : MdlR) (here : List Bool) (p : Pt) : ∀ n, p ∈ outK m here n ↔ ∃ a b : Nat, a < b ∧ b < n ∧ p = ((a : Int), (b : Int)) ∧ pairOk m here a b = true
 | 0 => by simp [outK]
 | n + 1 => by
  rw [outK, List.mem_append, mem_outK m here p n, mem_colV]
  constructor
  ·rintro (⟨a, b, h1, h2, h3, h4⟩ | ⟨a, h1, h2, h3⟩)
   ·exact ⟨a, b, h1, by omega, h3, h4⟩
   ·exact ⟨a, n, h1, by omega, h2, h3⟩
  ·rintro ⟨a, b, h1, h2, h3, h4⟩
   by_cases hb : b < n
   ·exact .inl ⟨a, b, h1, hb, h3, h4⟩
   ·obtain rfl : b = n := by omega
    exact .inr ⟨a, h1, h3, h4⟩
theorem colV_nodup (m : MdlR) (here : List Bool) (b : Nat) : ∀ n, (colV m here b n).Nodup
 | 0 => List.nodup_nil
 | n + 1 => by
  unfold colV
  rw [List.nodup_append]
  refine ⟨colV_nodup m here b n, by split <;> simp, fun x hx y hy => ?_⟩
  obtain ⟨a, h1, rfl, _⟩ := (mem_colV m here b x n).1 hx
  split at hy
  ·simp only [List.mem_singleton] at hy
   subst hy
   simp; omega
  ·simp at hy
theorem outK_nodup (m : MdlR) (here : List Bool) : ∀ n, (outK m here n).Nodup
 | 0 => List.nodup_nil
 | n + 1 => by
  unfold outK
  rw [List.nodup_append]
  refine ⟨outK_nodup m here n, colV_nodup m here n n, fun x hx y hy => ?_⟩
  obtain ⟨a, b, h1, h2, rfl, _⟩ := (mem_outK m here x n).1 hx
  obtain ⟨c, h3, rfl, _⟩ := (mem_colV m here n y n).1 hy
  simp; omega
theorem mem_rowV (m : MdlR) (here : List Bool) (a : Nat) (p : Pt) : ∀ n, p ∈ rowV m here a n ↔ ∃ b : Nat, a < b ∧ b < a + 1 + n ∧ p = ((a : Int), (b : Int)) ∧ pairOk m here a b = true
 | 0 => by simp [rowV]; intro b h1 h2; omega
 | n + 1 => by
  rw [rowV, List.mem_append, mem_rowV m here a p n]
  constructor
  ·rintro (⟨b, h1, h2, h3, h4⟩ | h)
   ·exact ⟨b, h1, by omega, h3, h4⟩
   ·split at h
    ·rename_i hk
     simp only [List.mem_singleton] at h
     exact ⟨a + 1 + n, by omega, by omega, h, hk⟩
    ·simp at h
  ·rintro ⟨b, h1, h2, h3, h4⟩
   by_cases hb : b < a + 1 + n
   ·exact .inl ⟨b, h1, hb, h3, h4⟩
   ·obtain rfl : b = a + 1 + n := by omega
    exact .inr (by rw [if_pos h4]; simp [h3])
theorem mem_pairsK (m : MdlR) (here : List Bool) (p : Pt) : ∀ n, n ≤ m.parts.length → (p ∈ pairsK m here n ↔ ∃ a b : Nat, a < n ∧ a < b ∧ b < m.parts.length ∧ p = ((a : Int), (b : Int)) ∧ pairOk m here a b = true)
 | 0, _ => by simp [pairsK]
 | n + 1, h => by
  rw [pairsK, List.mem_append, mem_pairsK m here p n (by omega), mem_rowV]
  constructor
  ·rintro (⟨a, b, h1, h2, h3, h4⟩ | ⟨b, h1, h2, h3⟩)
   ·exact ⟨a, b, by omega, h2, h3, h4⟩
   ·exact ⟨n, b, by omega, h1, by omega, h3⟩
  ·rintro ⟨a, b, h1, h2, h3, h4⟩
   by_cases hb : a < n
   ·exact .inl ⟨a, b, hb, h2, h3, h4⟩
   ·obtain rfl : a = n := by omega
    exact .inr ⟨b, h2, by omega, h4⟩
theorem mem_pairsV (m : MdlR) (here : List Bool) (p : Pt) : p ∈ pairsV m here ↔ ∃ a b : Nat, a < b ∧ b < m.parts.length ∧ p = ((a : Int), (b : Int)) ∧ pairOk m here a b = true := by
 rw [pairsV, mem_pairsK m here p _ (Nat.le_refl _)]
 constructor
 ·rintro ⟨a, b, h1, h2, h3, h4⟩; exact ⟨a, b, h2, h3, h4⟩
 ·rintro ⟨a, b, h2, h3, h4⟩; exact ⟨a, b, by omega, h2, h3, h4⟩
theorem rowV_sorted (m : MdlR) (here : List Bool) (a : Nat) : ∀ n, (rowV m here a n).Pairwise lexlt
 | 0 => List.Pairwise.nil
 | n + 1 => by
  unfold rowV
  rw [List.pairwise_append]
  refine ⟨rowV_sorted m here a n, by split <;> simp, fun x hx y hy => ?_⟩
  obtain ⟨b, h1, h2, rfl, _⟩ := (mem_rowV m here a x n).1 hx
  split at hy
  ·simp only [List.mem_singleton] at hy
   subst hy
   unfold lexlt; simp; omega
  ·simp at hy
theorem pairsK_sorted (m : MdlR) (here : List Bool) : ∀ n, n ≤ m.parts.length → (pairsK m here n).Pairwise lexlt
 | 0, _ => List.Pairwise.nil
 | n + 1, h => by
  unfold pairsK
  rw [List.pairwise_append]
  refine ⟨pairsK_sorted m here n (by omega), rowV_sorted m here n _, fun x hx y hy => ?_⟩
  obtain ⟨a, b, h1, h2, h3, rfl, _⟩ := (mem_pairsK m here x n (by omega)).1 hx
  obtain ⟨c, h4, h5, rfl, _⟩ := (mem_rowV m here n y _).1 hy
  unfold lexlt; simp; omega
theorem pairsV_sorted (m : MdlR) (here : List Bool) : (pairsV m here).Pairwise lexlt := pairsK_sorted m here _ (Nat.le_refl _)
theorem M_197 [SpC] (a b : Int) (ha : 0 ≤ a ∧ a ≤ 4611686018427387904) (hb : 0 ≤ b ∧ b ≤ 4611686018427387904) : M X 197 [.int .i64 a, .int .i64 b] = some (.int .i64 (Int.gcd a b)) := by
 refine M_of X (fn := Tryz.f197) Tryz.func197 rfl ok_197 mode_197 res_197 _ rfl _ ?_
 intro r hr
 simp (maxSteps := 4000000) (disch := first | omega | (simp only [LL]; omega)) only [go_sem]
 refine W_loop X (fun (n : Nat) s => ∃ x y : Int, n = y.natAbs ∧ s.env 0 = .int .i64 x ∧ s.env 1 = .int .i64 y ∧ Int.gcd x y = Int.gcd a b ∧ (0 ≤ x ∧ x ≤ 4611686018427387904) ∧ (0 ≤ y ∧ y ≤ 4611686018427387904)) (fun n => n) ?_ b.natAbs _ ?_
 ·rintro n ⟨env, heap, nx⟩ ⟨x, y, hn, g0, g1, hg, hx, hy⟩
  simp only at g0 g1
  by_cases h0 : y = 0
  ·rw [h0, Int.gcd_zero_right] at hg
   have e : x = (Int.gcd a b : Int) := by omega
   simp (maxSteps := 4000000) (disch := first | omega | (simp only [LL]; omega)) only [go_sem, g0, g1]
   rw [hr, e]
  ·have h1 := Int.emod_nonneg x h0
   have h2 := Int.emod_lt_of_pos x (show 0 < y by omega)
   have h3 : x.tmod y = x % y := Int.tmod_eq_emod_of_nonneg hx.1
   have h4 := tmod_gcd x y
   rw [h3] at h4
   simp (maxSteps := 4000000) (disch := first | omega | (simp only [LL]; omega)) only [go_sem, g0, g1, h3]
   exact ⟨(x % y).natAbs, ⟨y, x % y, rfl, rfl, rfl, by rw [h4, hg], hy, by omega⟩, by omega⟩
 ·simp (maxSteps := 4000000) (disch := first | omega | (simp only [LL]; omega)) only [go_sem]
  exact ⟨a, b, rfl, rfl, rfl, rfl, ha, hb⟩
theorem M_198 [SpC] (n : Int) (hn : -4611686018427387904 ≤ n ∧ n ≤ 4611686018427387904) : M X 198 [.int .i64 n] = some (.int .i64 n.natAbs) := by
 refine M_of X (fn := Tryz.f198) Tryz.func198 rfl ok_198 mode_198 res_198 _ rfl _ ?_
 intro r hr
 have hmax : (if n < 0 - n then 0 - n else n) = (n.natAbs : Int) := by split <;> omega
 simp (maxSteps := 4000000) (disch := first | omega | (simp only [LL]; omega)) only [go_sem, hmax]
 rw [hr]
theorem M_224 [SpC] (x : Nat) (hx : x < 1000000000000000000) : M X 224 [.agg [zS x, zD x]] = some (.tuple [.int .i64 x, .bool true]) := by
 refine M_of X (fn := Tryz.f224) Tryz.func224 rfl ok_224 mode_224 res_224 _ rfl _ ?_
 intro r hr
 have o1 := M_116 9223372036854775807 (by omega)
 have o2 := M_116 (-9223372036854775808) (by omega)
 have hnx := nd_small (x : Int) (by omega)
 have hn1 := nd_small (9223372036854775807 : Int) (by omega)
 have hn2 := nd_small (-9223372036854775808 : Int) (by omega)
 have c1 := M_171 (x : Int) 9223372036854775807 (by omega) (by omega)
 have c2 := M_171 (x : Int) (-9223372036854775808) (by omega) (by omega)
 rw [cmpZ_lt (by omega)] at c1
 rw [cmpZ_gt (by omega)] at c2
 rw [zS_pos (x : Int) (by omega)] at c1 c2 ⊢
 by_cases h0 : x = 0
 ·rw [zD_nil x (by omega)] at c1 c2 ⊢
  simp (maxSteps := 4000000) (disch := first | omega | (simp only [LL]; omega)) only [go_sem, o1, o2, c1, c2, mode_116, mode_171]
  rw [W_unroll]
  simp (maxSteps := 4000000) (disch := first | omega | (simp only [LL]; omega)) only [go_sem, unQ_normal, unQ_ret, unQ_exit]
  rw [hr, h0]; rfl
 ·by_cases h1 : x < 1000000000
  ·rw [zD_one x (by omega) (by omega), Int.natAbs_natCast] at c1 c2 ⊢
   simp (maxSteps := 4000000) (disch := first | omega | (simp only [LL]; omega)) only [go_sem, o1, o2, c1, c2, mode_116, mode_171]
   iterate 2
    rw [W_unroll]
    simp (maxSteps := 4000000) (disch := first | omega | (simp only [LL]; omega)) only [go_sem, unQ_normal, unQ_ret, unQ_exit]
   rw [hr]
   congr 3; omega
  ·rw [zD_two x (by omega) (by omega), Int.natAbs_natCast] at c1 c2 ⊢
   simp (maxSteps := 4000000) (disch := first | omega | (simp only [LL]; omega)) only [go_sem, o1, o2, c1, c2, mode_116, mode_171]
   iterate 3
    rw [W_unroll]
    simp (maxSteps := 4000000) (disch := first | omega | (simp only [LL]; omega)) only [go_sem, unQ_normal, unQ_ret, unQ_exit]
   rw [hr]
   congr 3; omega
theorem isq_lt_start (x : Nat) : isq x < Bn ^ (nd x / 2 + 1) := by
 have h := lt_of_nd x
 rw [Int.natAbs_natCast] at h
 have h1 : Bn ^ nd (x : Int) ≤ Bn ^ (nd x / 2 + 1) * Bn ^ (nd x / 2 + 1) := by
  rw [← Nat.pow_add]; exact Nat.pow_le_pow_right (by decide) (by omega)
 have h2 := (isq_spec x).1
 apply Classical.byContradiction; intro h3
 have := Nat.mul_le_mul (show Bn ^ (nd (x : Int) / 2 + 1) ≤ isq x by omega) (show Bn ^ (nd (x : Int) / 2 + 1) ≤ isq x by omega)
 omega
theorem M_223 [SpC] (x : Nat) (hx : nd x < 2 ^ 16) : M X 223 [.agg [zS x, zD x]] =
  some (.tuple [.agg [zS (isq x), zD (isq x)], .bool (decide (isq x * isq x = x))]) := by
 refine M_of X (fn := Tryz.f223) Tryz.func223 rfl ok_223 mode_223 res_223 _ rfl _ ?_
 intro r hr
 have xl := nd_zero (x : Int)
 have hs := isq_lt_start x
 have hn := nd_pow (nd x / 2 + 1)
 have hst := normZ false (List.replicate (nd x / 2 + 1) 0 ++ [1]) ((Bn ^ (nd x / 2 + 1) : Nat) : Int) (okd_start _) (by simp; omega) (by rw [val_start]; rfl)
 obtain ⟨k, hk⟩ : ∃ k, k = nd (x : Int) / 2 + 1 := ⟨_, rfl⟩
 have hk' : ((nd (x : Int) : Nat) : Int) / 2 + 1 = (k : Int) := by omega
 rw [← hk] at hst hs hn
 obtain ⟨r0, hr0⟩ : ∃ r0, r0 = Bn ^ k := ⟨_, rfl⟩
 rw [← hr0] at hst hs hn
 have hst' : M X 184 [AV.bool false, AV.ro (ints (List.replicate k 0 ++ [1])) (k + 1) false] = some (.agg [zS (r0 : Int), zD (r0 : Int)]) := by
  rw [← hst, isl]; simp
 have o1 := M_116 1 (by omega)
 have o2 := M_116 2 (by omega)
 have d1 := nd_small (1 : Int) (by decide)
 have d2 := nd_small (2 : Int) (by decide)
 simp (maxSteps := 4000000) (disch := first | omega | (simp only [LL]; omega)) only [go_sem, zS_pos (x : Int) (by omega), hk', mode_184, hst', mode_116, o1, o2]
 refine W_loop X (fun (g : Nat × Nat) s => g.1 ≤ isq x ∧ isq x < g.2 ∧ g.2 ≤ r0 ∧ s.env 1 = .ptr 0 0 ∧ s.env 2 = .ptr 8 0 ∧ s.env 4 = .ptr 48 0 ∧ s.env 5 = .ptr 136 0 ∧ s.env 6 = .ptr 160 0 ∧ s.env 7 = .ptr 184 0 ∧ 184 < s.next ∧ s.heap 0 = some (.cells [.bool false, zD x] false false) ∧ s.heap 8 = some (.cells [.bool false, .ro [] 0 false] false false) ∧
  s.heap 48 = some (.cells [zS g.1, zD g.1] false false) ∧ s.heap 136 = some (.cells [zS g.2, zD g.2] false false) ∧ s.heap 160 = some (.cells [zS 1, zD 1] false false) ∧ s.heap 184 = some (.cells [zS 2, zD 2] false false)) (fun g => g.2 - g.1) ?_ (0, r0) _ ?_
 ·clear hst hst' o1 o2
  rintro ⟨lo, hi⟩ ⟨env, heap, nx⟩ ⟨l1, l2, l3, g1, g2, g4, g5, g6, g7, hnx, e0, e8, e48, e136, e160, e184⟩
  simp only at l1 l2 l3 g1 g2 g4 g5 g6 g7 hnx e0 e8 e48 e136 e160 e184
  have nlo : nd (lo : Int) ≤ nd (r0 : Int) := nd_mono (by omega)
  have nhi : nd (hi : Int) ≤ nd (r0 : Int) := nd_mono (by omega)
  have s1 := nd_add (lo : Int) 1
  have s2 := nd_add (lo : Int) hi
  have a1 := M_119 (lo : Int) 1 (by omega) (by omega)
  have c1 := M_171 ((lo : Int) + 1) hi (by omega) (by omega)
  have zx := zS_pos (x : Int) (by omega)
  obtain ⟨u, hu⟩ : ∃ u : Int, u = lo + 1 := ⟨_, rfl⟩
  rw [← hu] at a1 c1
  by_cases h1 : lo + 1 < hi
  ·rw [cmpZ_lt (by omega)] at c1
   have a2 := M_119 (lo : Int) hi (by omega) (by omega)
   have v1 := M_181 ((lo : Int) + hi) 2 (by omega) (by omega) (by decide)
   have hm : ((lo : Int) + hi) / 2 = (((lo + hi) / 2 : Nat) : Int) := by rw [Int.natCast_ediv, Int.natCast_add]; rfl
   rw [hm] at v1
   obtain ⟨w, hw⟩ : ∃ w : Int, w = lo + hi := ⟨_, rfl⟩
   rw [← hw] at a2 v1
   obtain ⟨m, em⟩ : ∃ m, m = (lo + hi) / 2 := ⟨_, rfl⟩
   rw [← em] at v1
   have nm : nd (m : Int) ≤ nd (r0 : Int) := nd_mono (by omega)
   have s3 := nd_mul (m : Int) m
   have m1 := M_117 (m : Int) m (by omega) (by omega)
   have c2 := M_171 ((m : Int) * m) x (by omega) (by omega)
   rw [zx] at c2
   by_cases h2 : m * m ≤ x
   ·have h3 : ∃ c : Int, c ≤ 0 ∧ cmpZ ((m : Int) * m) x = c := by
     rw [← Int.natCast_mul]
     rcases Nat.lt_or_eq_of_le h2 with h4 | h4
     ·exact ⟨-1, by omega, cmpZ_lt (by omega)⟩
     ·exact ⟨0, by omega, by rw [h4]; exact cmpZ_self _⟩
    obtain ⟨c, c0, hc⟩ := h3
    rw [hc] at c2
    have := le_isq h2
    simp (maxSteps := 4000000) (disch := first | omega | (simp only [LL]; omega)) only [go_sem, g1, g2, g4, g5, g6, g7, e0, e8, e48, e136, e160, e184, a1, c1, a2, v1, m1, c2]
    exact ⟨(m, hi), ⟨by omega, l2, l3, by omega, by simp⟩, by omega⟩
   ·have hc : cmpZ ((m : Int) * m) x = 1 := by
     rw [← Int.natCast_mul]; exact cmpZ_gt (by omega)
    rw [hc] at c2
    have hlt : isq x < m := by
     apply Classical.byContradiction; intro h4
     have h5 := (isq_spec x).1
     have := Nat.mul_le_mul (show m ≤ isq x by omega) (show m ≤ isq x by omega)
     omega
    simp (maxSteps := 4000000) (disch := first | omega | (simp only [LL]; omega)) only [go_sem, g1, g2, g4, g5, g6, g7, e0, e8, e48, e136, e160, e184, a1, c1, a2, v1, m1, c2]
    exact ⟨(lo, m), ⟨l1, hlt, by omega, by omega, by simp⟩, by omega⟩
  ·have h2 : ∃ c : Int, 0 ≤ c ∧ cmpZ u hi = c := by
    rcases Nat.lt_or_eq_of_le (show hi ≤ lo + 1 by omega) with h4 | h4
    ·exact ⟨1, by omega, cmpZ_gt (by omega)⟩
    ·exact ⟨0, by omega, by rw [show u = (hi : Int) by omega]; exact cmpZ_self _⟩
   obtain ⟨c, c0, hc⟩ := h2
   rw [hc] at c1
   have hlo : lo = isq x := by omega
   have s3 := nd_mul (lo : Int) lo
   have m1 := M_117 (lo : Int) lo (by omega) (by omega)
   have c2 := M_171 ((lo : Int) * lo) x (by omega) (by omega)
   rw [zx] at c2
   obtain ⟨e, he, hee⟩ : ∃ e, e = cmpZ ((lo : Int) * lo) x ∧ (e = 0 ↔ lo * lo = x) := ⟨_, rfl, by
    rw [← Int.natCast_mul]
    constructor
    ·intro h; apply Classical.byContradiction; intro h3
     rcases Nat.lt_or_gt_of_ne h3 with h4 | h4
     ·rw [cmpZ_lt (by omega)] at h; omega
     ·rw [cmpZ_gt (by omega)] at h; omega
    ·intro h; rw [h]; exact cmpZ_self _⟩
   rw [← he] at c2
   have hd : decide (isq x * isq x = x) = decide (e = 0) := by rw [← hlo]; congr 1; exact propext hee.symm
   rw [hd, ← hlo] at hr
   clear hee he hd
   simp (maxSteps := 4000000) (disch := first | omega | (simp only [LL]; omega)) only [go_sem, g1, g2, g4, g5, g6, g7, e0, e8, e48, e136, e160, e184, a1, c1, m1, c2]
   rw [hr]
 ·simp (maxSteps := 4000000) (disch := first | omega | (simp only [LL]; omega)) only [go_sem]
  exact ⟨hs, by simp [zS, zD, digs_zero, isl, ints]⟩
theorem M_145 [SpC] {x y : Rat} {n m : Nat} [hx : RS x n] [hy : RS y m] (h : n + m < 2 ^ 26) : M X 145 [.agg [zS (Rat.num (x)), zD (Rat.num (x)), zS (dz (x)), zD (dz (x))], .agg [zS (Rat.num (y)), zD (Rat.num (y)), zS (dz (y)), zD (dz (y))]] = some (.agg [zS (Rat.num (x - y)), zD (Rat.num (x - y)), zS (dz (x - y)), zD (dz (x - y))]) := by
 refine M_of X (fn := Tryz.f145) Tryz.func145 rfl ok_145 mode_145 res_145 _ rfl _ ?_
 intro r hr
 rw [hr, Rat.sub_eq_add_neg]
 simp (maxSteps := 4000000) (disch := first | omega | (simp only [LL]; omega)) only [go_sem, M_206, M_19]
def rateQ (d : Dr) (x y : Rat) : Rat := (Rat.divInt d.1 1 * x + Rat.divInt d.2.1 1 * y) / Rat.divInt d.2.2 1
def gapQ (e : Ed) (x y : Rat) : Rat := rateQ e.1 x y - Rat.divInt e.2 e.1.2.2
theorem M_200 [SpC] (d : Dr) (h1 : ok64 d.1) (h2 : ok64 d.2.1) (h3 : ok64 d.2.2) {x y : Rat} {n m : Nat} [hx : RS x n] [hy : RS y m] (h : n + m < 2 ^ 24) : M X 200 [.agg [.int .i64 d.1, .int .i64 d.2.1, .int .i64 d.2.2], .agg [zS (Rat.num (x)), zD (Rat.num (x)), zS (dz (x)), zD (dz (x)), zS (Rat.num (y)), zD (Rat.num (y)), zS (dz (y)), zD (dz (y))]] = some (.agg [zS (Rat.num (rateQ d x y)), zD (Rat.num (rateQ d x y)), zS (dz (rateQ d x y)), zD (dz (rateQ d x y))]) := by
 refine M_of X (fn := Tryz.f200) Tryz.func200 rfl ok_200 mode_200 res_200 _ rfl _ ?_
 intro r hr
 obtain ⟨u1, u2⟩ := h1
 obtain ⟨u3, u4⟩ := h2
 obtain ⟨u5, u6⟩ := h3
 have r1 : RS (Rat.divInt d.1 1) 3 := rs_divInt (by omega) (nd_lit (by simp only [Bn]; omega)) (nd_lit (by decide))
 have r2 : RS (Rat.divInt d.2.1 1) 3 := rs_divInt (by omega) (nd_lit (by simp only [Bn]; omega)) (nd_lit (by decide))
 have r3 : RS (Rat.divInt d.2.2 1) 3 := rs_divInt (by omega) (nd_lit (by simp only [Bn]; omega)) (nd_lit (by decide))
 have o1 := M_151 d.1 1 (by omega) (by omega)
 have o2 := M_151 d.2.1 1 (by omega) (by omega)
 have o3 := M_151 d.2.2 1 (by omega) (by omega)
 rw [hr, rateQ]
 generalize Rat.divInt d.1 1 = p1 at *
 generalize Rat.divInt d.2.1 1 = p2 at *
 generalize Rat.divInt d.2.2 1 = p3 at *
 simp (maxSteps := 4000000) (disch := first | omega | (simp only [LL]; omega)) only [go_sem, M_150, M_19, M_237, mode_151, o1, o2, o3]
theorem rs_rate (d : Dr) (h1 : ok64 d.1) (h2 : ok64 d.2.1) (h3 : ok64 d.2.2) {x y : Rat} {n m : Nat} [hx : RS x n] [hy : RS y m] : RS (rateQ d x y) (2 * (n + m) + 32) := by
 obtain ⟨u1, u2⟩ := h1
 obtain ⟨u3, u4⟩ := h2
 obtain ⟨u5, u6⟩ := h3
 have r1 : RS (Rat.divInt d.1 1) 3 := rs_divInt (by omega) (nd_lit (by simp only [Bn]; omega)) (nd_lit (by decide))
 have r2 : RS (Rat.divInt d.2.1 1) 3 := rs_divInt (by omega) (nd_lit (by simp only [Bn]; omega)) (nd_lit (by decide))
 have r3 : RS (Rat.divInt d.2.2 1) 3 := rs_divInt (by omega) (nd_lit (by simp only [Bn]; omega)) (nd_lit (by decide))
 unfold rateQ
 exact (inferInstance : RS (_ / _) _).mono (by omega)
def okE (e : Ed) : Prop := okd3 e.1 ∧ ok64 e.1.2.2 ∧ ok64 e.2
theorem M_138 [SpC] (e : Ed) (he : okE e) {x y : Rat} {n m : Nat} [hx : RS x n] [hy : RS y m] (h : n + m < 2 ^ 23) : M X 138 [.agg (edA e), .agg [zS (Rat.num (x)), zD (Rat.num (x)), zS (dz (x)), zD (dz (x)), zS (Rat.num (y)), zD (Rat.num (y)), zS (dz (y)), zD (dz (y))]] = some (.agg [zS (Rat.num (gapQ e x y)), zD (Rat.num (gapQ e x y)), zS (dz (gapQ e x y)), zD (dz (gapQ e x y))]) := by
 refine M_of X (fn := Tryz.f138) Tryz.func138 rfl ok_138 mode_138 res_138 _ rfl _ ?_
 intro r hr
 obtain ⟨⟨h1, h2⟩, ⟨h3, h4⟩, h5, h6⟩ := he
 have v1 := M_200 e.1 ⟨by omega, by omega⟩ ⟨by omega, by omega⟩ ⟨h3, h4⟩ (x := x) (y := y) (by omega)
 have r1 : RS (rateQ e.1 x y) (2 * (n + m) + 32) := rs_rate e.1 ⟨by omega, by omega⟩ ⟨by omega, by omega⟩ ⟨h3, h4⟩
 have o1 := M_151 e.2 e.1.2.2 (by omega) (by omega)
 have r2 : RS (Rat.divInt e.2 e.1.2.2) 4 := by
  by_cases h0 : e.1.2.2 = 0
  ·rw [h0, Rat.divInt_zero]; exact rs_zero.mono (by omega)
  ·exact (rs_divInt (n := 3) (by omega) (nd_lit (k := 3) (by simp only [Bn]; omega)) (nd_lit (k := 3) (by simp only [Bn]; omega))).mono (by omega)
 rw [hr, gapQ]
 generalize Rat.divInt e.2 e.1.2.2 = p1 at *
 generalize rateQ e.1 x y = p2 at *
 simp (maxSteps := 4000000) (disch := first | omega | (simp only [LL]; omega)) only [go_sem, M_145, mode_151, o1, mode_200, v1]
theorem rs_gap (e : Ed) (he : okE e) {x y : Rat} {n m : Nat} [hx : RS x n] [hy : RS y m] : RS (gapQ e x y) (2 * (n + m) + 48) := by
 obtain ⟨⟨h1, h2⟩, ⟨h3, h4⟩, h5, h6⟩ := he
 have r1 : RS (rateQ e.1 x y) (2 * (n + m) + 32) := rs_rate e.1 ⟨by omega, by omega⟩ ⟨by omega, by omega⟩ ⟨h3, h4⟩
 have r2 : RS (Rat.divInt e.2 e.1.2.2) 4 := by
  by_cases h0 : e.1.2.2 = 0
  ·rw [h0, Rat.divInt_zero]; exact rs_zero.mono (by omega)
  ·exact (rs_divInt (n := 3) (by omega) (nd_lit (k := 3) (by simp only [Bn]; omega)) (nd_lit (k := 3) (by simp only [Bn]; omega))).mono (by omega)
 unfold gapQ
 exact (inferInstance : RS (_ - _) _).mono (by omega)
def opens (x y : Rat) (e : Ed) : Bool := decide (0 ≤ cmpQ (gapQ e x y) 0)
theorem M_137 [SpC] (e : Ed) (he : okE e) {x y : Rat} {n m : Nat} [hx : RS x n] [hy : RS y m] (h : n + m < 2 ^ 22) : M X 137 [.agg (edA e), .rptr [zS (Rat.num (x)), zD (Rat.num (x)), zS (dz (x)), zD (dz (x)), zS (Rat.num (y)), zD (Rat.num (y)), zS (dz (y)), zD (dz (y))]] = some (.bool (opens x y e)) := by
 refine M_of X (fn := Tryz.f137) Tryz.func137 rfl ok_137 mode_137 res_137 _ rfl _ ?_
 intro r hr
 have v1 := M_138 e he (x := x) (y := y) (by omega)
 have r1 : RS (gapQ e x y) (2 * (n + m) + 48) := rs_gap e he
 have v2 := M_69 (gapQ e x y)
 rw [hr, opens]
 generalize gapQ e x y = g at *
 generalize cmpQ g 0 = c at *
 simp (maxSteps := 4000000) (disch := first | omega | (simp only [LL]; omega)) only [go_sem, mode_138, v1, mode_69, v2]
theorem M_70 [SpC] (l : List Ed) (hl : l.length < 2 ^ 30) (he : ∀ e ∈ l, okE e) {x y : Rat} {n m : Nat} [hx : RS x n] [hy : RS y m] (h : n + m < 2 ^ 22) : M X 70 [.ro (edC l) l.length false, .agg [zS (Rat.num (x)), zD (Rat.num (x)), zS (dz (x)), zD (dz (x)), zS (Rat.num (y)), zD (Rat.num (y)), zS (dz (y)), zD (dz (y))]] = some (.bool (!l.any (opens x y))) := by
 refine M_of X (fn := Tryz.f70) Tryz.func70 rfl ok_70 mode_70 res_70 _ rfl _ ?_
 intro r hr
 have v1 := con_edge 137 mode_137 [zS (Rat.num (x)), zD (Rat.num (x)), zS (dz (x)), zD (dz (x)), zS (Rat.num (y)), zD (Rat.num (y)), zS (dz (y)), zD (dz (y))] (by simp only [weak_zS, weak_zD, weakgo_nil, weakgo_cons]) (opens x y) l (fun e hm => M_137 e (he e hm) (by omega)) hl false
 have hl2 := edC_length l
 rw [hr]
 simp (maxSteps := 4000000) (disch := first | omega | (simp only [LL]; omega)) only [go_sem, hl2, weaks_edC, weak_rptr, mode_136, v1]
theorem M_167 [SpC] (a b : Pt) (ha : okp a) (hb : okp b) : M X 167 [.agg [.int .i64 a.1, .int .i64 a.2], .agg [.int .i64 b.1, .int .i64 b.2]] =
  some (.tuple [.agg (drC (normV (b.1 - a.1) (b.2 - a.2))), .bool (normOk (b.1 - a.1) (b.2 - a.2))]) := by
 refine M_of X (fn := Tryz.f167) Tryz.func167 rfl ok_167 mode_167 res_167 _ rfl _ ?_
 intro r hr
 obtain ⟨⟨a1, a2⟩, a3, a4⟩ := ha
 obtain ⟨⟨b1, b2⟩, b3, b4⟩ := hb
 obtain ⟨x, hx⟩ : ∃ x, x = b.1 - a.1 := ⟨_, rfl⟩
 obtain ⟨y, hy⟩ : ∃ y, y = b.2 - a.2 := ⟨_, rfl⟩
 rw [← hx, ← hy] at hr
 have hle := sq2_le (x := x) (y := y) (k := 2097152) (by omega) (by omega)
 have hin := sq2_int x y
 have hxx : x * x = (x.natAbs * x.natAbs : Nat) := by rw [Int.natCast_mul, Int.natAbs_mul_self']
 have hyy : y * y = (y.natAbs * y.natAbs : Nat) := by rw [Int.natCast_mul, Int.natAbs_mul_self']
 have hq1 : x.natAbs * x.natAbs ≤ sq2 x y := by rw [sq2]; omega
 have hq2 : y.natAbs * y.natAbs ≤ sq2 x y := by rw [sq2]; omega
 have hnd := nd_small (sq2 x y : Int) (by omega)
 have hrt := M_223 (sq2 x y) (by omega)
 have hof := M_116 (x * x + y * y) (by omega)
 rw [← hin] at hof
 have hsm := M_224 (normH x y) (by have := isq_self (sq2 x y); rw [normH_eq] at this; omega)
 rw [normH_eq] at hrt
 by_cases hok : normH x y * normH x y = sq2 x y
 ·rw [decide_eq_true hok] at hrt
  by_cases h0 : normH x y = 0
  ·have hN : normOk x y = false := decide_eq_false (by omega)
   simp (maxSteps := 4000000) (disch := first | omega | (simp only [LL]; omega)) only [go_sem, ← hx, ← hy, ← hin, hrt, hof, hsm]
   rw [hr, normV, hN]; rfl
  ·have hN : normOk x y = true := decide_eq_true ⟨hok, h0⟩
   have hle2 : normH x y ≤ sq2 x y := by rw [← normH_eq]; exact isq_self _
   have hz1 := M_198 x (by omega)
   have hz2 := M_198 y (by omega)
   have hg1 := M_197 (x.natAbs : Int) (y.natAbs : Int) (by omega) (by omega)
   rw [show Int.gcd (x.natAbs : Int) (y.natAbs : Int) = Int.gcd x y from rfl] at hg1
   have hgl : Int.gcd x y ≤ sq2 x y := by
    by_cases hx0 : x = 0
    ·rw [hx0, Int.gcd_zero_left, sq2]
     have : y.natAbs * 1 ≤ y.natAbs * y.natAbs ∨ y.natAbs = 0 := by
      by_cases h : y.natAbs = 0
      ·exact .inr h
      ·exact .inl (Nat.mul_le_mul_left _ (by omega))
     rw [hx0] at *
     omega
    ·have h1 := Nat.gcd_le_left y.natAbs (show 0 < x.natAbs by omega)
     have h2 : x.natAbs * 1 ≤ x.natAbs * x.natAbs := Nat.mul_le_mul_left _ (by omega)
     rw [Int.gcd]; omega
   have hg2 := M_197 (Int.gcd x y) (normH x y) (by omega) (by omega)
   rw [show Int.gcd (Int.gcd x y) (normH x y) = normG x y from rfl] at hg2
   have hgp : 0 < normG x y := Nat.pos_of_ne_zero fun h => h0 (by have := Int.gcd_eq_zero_iff.1 h; omega)
   simp (maxSteps := 4000000) (disch := first | omega | (simp only [LL]; omega)) only [go_sem, ← hx, ← hy, ← hin, hrt, hof, hsm, hz1, hz2, hg1, hg2]
   have w1 : IntKind.wrap .i64 (y.tdiv (normG x y)) = y.tdiv (normG x y) := IntWalk.i64_in _ (by have := Int.natAbs_tdiv_le_natAbs y (normG x y); omega)
   have w2 : IntKind.wrap .i64 ((0 - x).tdiv (normG x y)) = (0 - x).tdiv (normG x y) := IntWalk.i64_in _ (by have := Int.natAbs_tdiv_le_natAbs (0 - x) (normG x y); omega)
   rw [hr, normV, hN, w1, w2]; rfl
 ·have hN : normOk x y = false := decide_eq_false (by omega)
  rw [decide_eq_false hok] at hrt
  simp (maxSteps := 4000000) (disch := first | omega | (simp only [LL]; omega)) only [go_sem, ← hx, ← hy, ← hin, hrt, hof, hsm]
  rw [hr, normV, hN]; rfl
theorem M_168 [SpC] (l : List Pt) (i : Nat) (hi : i < l.length) (hl : l.length < 2 ^ 30) : M X 168 [.ro (ptC l) l.length false, .int .i64 i] =
  some (.agg [.int .i64 (l.getD ((i + 1) % l.length) (0, 0)).1, .int .i64 (l.getD ((i + 1) % l.length) (0, 0)).2]) := by
 refine M_of X (fn := Tryz.f168) Tryz.func168 rfl ok_168 mode_168 res_168 _ rfl _ ?_
 intro r hr
 have hl2 := ptC_length l
 rw [hr]
 by_cases h1 : i + 1 < l.length
 ·have hd := ptC_take l (i + 1) h1
  rw [Nat.mod_eq_of_lt h1]
  simp (maxSteps := 4000000) (disch := first | omega | (simp only [LL]; omega)) only [go_sem, hl2, hd]
 ·have e : i + 1 = l.length := by omega
  have hd := ptC_take l 0 (by omega)
  simp only [Nat.zero_mul, List.drop_zero] at hd
  rw [e, Nat.mod_self]
  simp (maxSteps := 4000000) (disch := first | omega | (simp only [LL]; omega)) only [go_sem, hl2, hd]
def dotQ (d : Dr) (x y : Rat) : Rat := Rat.divInt d.1 1 * x + Rat.divInt d.2.1 1 * y
def neD (d e : Dr) : Bool := !(decide (d.1 = e.1) && (decide (d.2.1 = e.2.1) && decide (d.2.2 = e.2.2)))
def dirsR (a b : List Pt) : List Dr := (List.range a.length).map (dirN a) ++ (List.range b.length).map (fun i => turnD (dirN b i))
def sidR (ds : List Dr) (a b : List Pt) : Nat → List Ed
 | 0 => []
 | i + 1 => sidR ds a b i ++ if (ds.take i).all (fun d => neD d (ds.getD i (0, 0, 0))) then [(ds.getD i (0, 0, 0), mostP a (ds.getD i (0, 0, 0)) + mostP b (turnD (ds.getD i (0, 0, 0))))] else []
def sidesR (a b : List Pt) : List Ed := sidR (dirsR a b) a b (dirsR a b).length
theorem sidR_len (ds : List Dr) (a b : List Pt) : ∀ i, (sidR ds a b i).length ≤ i
 | 0 => Nat.le_refl _
 | i + 1 => by
  have := sidR_len ds a b i
  unfold sidR
  rw [List.length_append]
  split <;> simp <;> omega
theorem dirsR_ok {a b : List Pt} (ha : ∀ p ∈ a, okp p) (hb : ∀ p ∈ b, okp p) (i : Nat) : okd3 ((dirsR a b).getD i (0, 0, 0)) := by
 have h0 : okd3 (0, 0, 0) := ⟨⟨by decide, by decide⟩, by decide, by decide⟩
 rw [List.getD_eq_getElem?_getD]
 by_cases h : i < (dirsR a b).length
 ·rw [List.getElem?_eq_getElem h]
  have hm := List.getElem_mem h
  show okd3 (dirsR a b)[i]
  generalize (dirsR a b)[i] = d at *
  unfold dirsR at hm
  rcases List.mem_append.1 hm with hm | hm
  ·obtain ⟨j, _, rfl⟩ := List.mem_map.1 hm; exact dirN_ok ha j
  ·obtain ⟨j, _, rfl⟩ := List.mem_map.1 hm; exact turn_ok (dirN_ok hb j)
 ·rw [List.getElem?_eq_none (by omega)]; exact h0
structure OkRope (m : MdlR) (N : Nat) (r : RopeR) : Prop where
 a : 0 ≤ r.a ∧ r.a < m.parts.length
 b : -1 ≤ r.b ∧ r.b < m.parts.length
 fx : RS r.fx N
 fy : RS r.fy N
 tx : RS r.tx N
 ty : RS r.ty N
 len : RS r.len N
 dl : r.dirs.length < 2 ^ 10
 dirs : ∀ d ∈ r.dirs, okd3 d ∧ ok64 d.2.2
structure OkPart (n N : Nat) (p : PartR) : Prop where
 cols : okCols n N p.cols
 hx : RS p.hx N
 hy : RS p.hy N
 s0 : 0 < p.shape.length
 sl : p.shape.length < 2 ^ 10
 pts : ∀ q ∈ p.shape, okp q
structure GoodM (m : MdlR) (N : Nat) : Prop where
 dl : m.dofs.length < 2 ^ 10
 pl : m.parts.length < 2 ^ 10
 rl : m.ropes.length < 2 ^ 10
 sl : m.skip.length < 2 ^ 10
 part : ∀ p ∈ m.parts, OkPart m.dofs.length N p
 dof : ∀ d ∈ m.dofs, RS d.lo N ∧ RS d.hi N
 rope : ∀ r ∈ m.ropes, OkRope m N r
structure GoodS (m : MdlR) (s : StaR) (N : Nat) : Prop where
 tick : ok64 s.tick
 ql : s.q.length = m.dofs.length
 vl : s.v.length = m.dofs.length
 hl : s.here.length = m.parts.length
 q : ∀ x ∈ s.q, RS x N
 v : ∀ x ∈ s.v, RS x N
theorem GoodM.live {m : MdlR} {N : Nat} (h : GoodM m N) : okLive m := by
 have h1 := h.dl
 have h2 := h.pl
 refine ⟨by omega, by omega, fun p hp => ?_⟩
 obtain ⟨c1, c2⟩ := (h.part p hp).cols
 exact ⟨by omega, fun c hc => (c2 c hc).1⟩
def posV (m : MdlR) (q : List Rat) (i : Int) : Rat × Rat := atV q (m.parts.getD i.toNat part0)
theorem posV_rs {m : MdlR} {s : StaR} {N : Nat} (hg : GoodM m N) (hs : GoodS m s N) (hN : N < 2 ^ 10) {i : Int} (hi : 0 ≤ i ∧ i < m.parts.length) : RS (posV m s.q i).1 (2 ^ 16) ∧ RS (posV m s.q i).2 (2 ^ 16) := by
 have h := getD_some (l := m.parts) (i := i.toNat) (by omega) part0
 have hp := hg.part _ (List.mem_of_getElem? h)
 exact at_rs hs.q (by rw [hs.ql]; exact hp.cols) hp.hx hp.hy hN
def hereB (s : StaR) (i : Int) : Bool := s.here.getD i.toNat false
def endsV (m : MdlR) (s : StaR) (r : RopeR) : Option (Rat × Rat × Rat × Rat) :=
 if hereB s r.a = false then none
 else if 0 ≤ r.b then (if hereB s r.b = false then none else some (r.fx + (posV m s.q r.a).1, r.fy + (posV m s.q r.a).2, r.tx + (posV m s.q r.b).1, r.ty + (posV m s.q r.b).2))
 else some (r.fx + (posV m s.q r.a).1, r.fy + (posV m s.q r.a).2, r.tx, r.ty)
def dof0 : DofR := ⟨0, .bad, false, 0, 0⟩
def velBad (m : MdlR) (s : StaR) (i : Nat) : Bool := !(liveV m s.here).getD i false && !decide (cmpQ (s.v.getD i 0) 0 = 0)
def shapeAt (m : MdlR) (i : Int) : List Pt := (m.parts.getD i.toNat part0).shape
def meetV (m : MdlR) (s : StaR) (x : Pt) : Bool := !(sidesR (shapeAt m x.1) (shapeAt m x.2)).any (opens ((posV m s.q x.2).1 - (posV m s.q x.1).1) ((posV m s.q x.2).2 - (posV m s.q x.1).2))
def dofBad (m : MdlR) (s : StaR) (i : Nat) : Bool := ((liveV m s.here).getD i false && (m.dofs.getD i dof0).bd) && (decide (cmpQ (s.q.getD i 0) (m.dofs.getD i dof0).lo < 0) || decide (0 < cmpQ (s.q.getD i 0) (m.dofs.getD i dof0).hi))
def dirBad (e : Rat × Rat × Rat × Rat) (len : Rat) (d : Dr) : Bool := decide (0 < cmpQ (dotQ d (e.2.2.1 - e.1) (e.2.2.2 - e.2.1) / Rat.divInt d.2.2 1) len)
def ropeBad (m : MdlR) (s : StaR) (r : RopeR) : Bool := match endsV m s r with
 | none => false
 | some e => r.dirs.any (dirBad e r.len)
def fitV (m : MdlR) (s : StaR) : Int :=
 if (List.range m.dofs.length).any (velBad m s) then 1
 else if (pairsV m s.here).any (meetV m s) then 14
 else if (List.range m.dofs.length).any (dofBad m s) then 5
 else if m.ropes.any (ropeBad m s) then 5 else 0
theorem anyR_succ (P : Nat → Bool) (k : Nat) : (List.range (k + 1)).any P = ((List.range k).any P || P k) := by rw [List.range_succ, List.any_append]; simp
theorem anyR_hit {P : Nat → Bool} {k n : Nat} (hk : k < n) (h : P k = true) : (List.range n).any P = true := List.any_eq_true.2 ⟨k, List.mem_range.2 hk, h⟩
theorem any_take_succ {α : Type} (f : α → Bool) {l : List α} {i : Nat} {x : α} (h : l[i]? = some x) : (l.take (i + 1)).any f = ((l.take i).any f || f x) := by
 obtain ⟨hi, rfl⟩ := List.getElem?_eq_some_iff.1 h
 rw [List.take_succ_eq_append_getElem hi, List.any_append]; simp
theorem any_hit {α : Type} {f : α → Bool} {l : List α} {i : Nat} {x : α} (h : l[i]? = some x) (hf : f x = true) : l.any f = true := List.any_eq_true.2 ⟨x, List.mem_of_getElem? h, hf⟩
theorem rowV_mem (m : MdlR) (here : List Bool) (a : Nat) : ∀ k, ∀ x ∈ rowV m here a k, x.1 = a ∧ (a : Int) < x.2 ∧ x.2 < ((a + 1 + k : Nat) : Int)
 | 0 => by intro x hx; simp [rowV] at hx
 | k + 1 => by
  intro x hx
  unfold rowV at hx
  rcases List.mem_append.1 hx with hx | hx
  ·obtain ⟨h1, h2, h3⟩ := rowV_mem m here a k x hx; exact ⟨h1, h2, by omega⟩
  ·split at hx
   ·simp only [List.mem_cons, List.not_mem_nil, or_false] at hx
    subst hx
    exact ⟨rfl, by dsimp only; omega, by dsimp only; omega⟩
   ·simp at hx
theorem pairsK_mem (m : MdlR) (here : List Bool) : ∀ a, a ≤ m.parts.length → ∀ x ∈ pairsK m here a, 0 ≤ x.1 ∧ x.1 < x.2 ∧ x.2 < m.parts.length
 | 0, _ => by intro x hx; simp [pairsK] at hx
 | a + 1, ha => by
  intro x hx
  unfold pairsK at hx
  rcases List.mem_append.1 hx with hx | hx
  ·exact pairsK_mem m here a (by omega) x hx
  ·obtain ⟨h1, h2, h3⟩ := rowV_mem m here a _ x hx
   omega
theorem pairsV_mem {m : MdlR} {here : List Bool} {x : Pt} (hx : x ∈ pairsV m here) : 0 ≤ x.1 ∧ x.1 < x.2 ∧ x.2 < m.parts.length := pairsK_mem m here _ (Nat.le_refl _) x hx
theorem isqGo_le (k n : Nat) : isqGo k n ≤ k := by
 induction k with
 | zero => exact Nat.le_refl _
 | succ k ih => unfold isqGo; split <;> omega
theorem normV_h {x y : Int} (hx : -2097152 ≤ x ∧ x ≤ 2097152) (hy : -2097152 ≤ y ∧ y ≤ 2097152) : 0 ≤ (normV x y).2.2 ∧ (normV x y).2.2 ≤ 4194304 := by
 unfold normV
 split
 ·have h1 := isqGo_le (x.natAbs + y.natAbs) (sq2 x y)
  have h2 : normH x y = isqGo (x.natAbs + y.natAbs) (sq2 x y) := rfl
  have h3 := Int.ediv_nonneg (show (0 : Int) ≤ normH x y by omega) (show (0 : Int) ≤ normG x y by omega)
  have h4 : (normH x y : Int) / normG x y ≤ normH x y := Int.ediv_le_self _ (by omega)
  dsimp only
  omega
 ·dsimp only; omega
theorem dirN_h {l : List Pt} (hp : ∀ p ∈ l, okp p) (i : Nat) : ok64 (dirN l i).2.2 := by
 obtain ⟨⟨a1, a2⟩, a3, a4⟩ := okp_getD hp i
 obtain ⟨⟨b1, b2⟩, b3, b4⟩ := okp_getD hp ((i + 1) % l.length)
 have := normV_h (x := (ptA l ((i + 1) % l.length)).1 - (ptA l i).1) (y := (ptA l ((i + 1) % l.length)).2 - (ptA l i).2) (by omega) (by omega)
 unfold dirN
 exact ⟨by omega, by omega⟩
theorem dirsR_h {a b : List Pt} (ha : ∀ p ∈ a, okp p) (hb : ∀ p ∈ b, okp p) (i : Nat) : ok64 ((dirsR a b).getD i (0, 0, 0)).2.2 := by
 rw [List.getD_eq_getElem?_getD]
 by_cases h : i < (dirsR a b).length
 ·rw [List.getElem?_eq_getElem h]
  have hm := List.getElem_mem h
  show ok64 ((dirsR a b)[i]).2.2
  generalize (dirsR a b)[i] = d at *
  unfold dirsR at hm
  rcases List.mem_append.1 hm with hm | hm
  ·obtain ⟨j, _, rfl⟩ := List.mem_map.1 hm; exact dirN_h ha j
  ·obtain ⟨j, _, rfl⟩ := List.mem_map.1 hm; exact dirN_h hb j
 ·rw [List.getElem?_eq_none (by omega)]; exact ⟨by decide, by decide⟩
theorem sidR_okE {a b : List Pt} (ha : ∀ p ∈ a, okp p) (hb : ∀ p ∈ b, okp p) : ∀ i, ∀ e ∈ sidR (dirsR a b) a b i, okE e
 | 0 => by intro e he; simp [sidR] at he
 | i + 1 => by
  intro e he
  unfold sidR at he
  rcases List.mem_append.1 he with he | he
  ·exact sidR_okE ha hb i e he
  ·split at he
   ·simp only [List.mem_cons, List.not_mem_nil, or_false] at he
    subst he
    have h1 := dirsR_ok ha hb i
    have h2 := mostP_bd (d := (dirsR a b).getD i (0, 0, 0)) h1 ha
    have h3 := mostP_bd (d := turnD ((dirsR a b).getD i (0, 0, 0))) (turn_ok h1) hb
    exact ⟨h1, dirsR_h ha hb i, ⟨by dsimp only; omega, by dsimp only; omega⟩⟩
   ·simp at he
theorem sidesR_okE {a b : List Pt} (ha : ∀ p ∈ a, okp p) (hb : ∀ p ∈ b, okp p) : ∀ e ∈ sidesR a b, okE e := sidR_okE ha hb _
theorem sidesR_len (a b : List Pt) : (sidesR a b).length ≤ a.length + b.length := by
 have h := sidR_len (dirsR a b) a b (dirsR a b).length
 have h2 : (dirsR a b).length = a.length + b.length := by unfold dirsR; simp
 unfold sidesR; omega
end Go.Proofs.YtenhjccadhlgoaaGreat.Abs
section
namespace Go.Proofs.YtenhjccadhlgoaaGreat.Abs
def okb (l : List Int) : Prop := ∀ d ∈ l, 0 ≤ d ∧ d < 256
end Go.Proofs.YtenhjccadhlgoaaGreat.Abs
end
namespace Go.Proofs.YtenhjccadhlgoaaGreat.Abs
open Go
section
def byt (l : List Int) : List AV := l.map (.int .u8)
def bsl (l : List Int) : AV := .ro (byt l) l.length false
section
variable (Y : Ctx)
end
end
theorem M_88 [SpC] (l : List Int) (hl : l.length < 2 ^ 40) : M X 88 [isl l, isl l] = some (.bool true) := by
 refine M_of X (fn := Tryz.f88) Tryz.func88 rfl ok_88 mode_88 res_88 _ rfl _ ?_
 intro r hr
 simp (maxSteps := 4000000) (disch := first | omega | (simp only [LL]; omega)) only [go_sem]
 refine W_loop X (fun (k : Nat) s => k ≤ l.length ∧ s.env 0 = isl l ∧ s.env 1 = isl l ∧ s.env 12 = .int .i64 l.length ∧ s.env 13 = .int .i64 k) (fun k => l.length - k) ?_ 0 _ ?_
 ·rintro k ⟨env, heap, nx⟩ ⟨hk, g0, g1, g12, g13⟩
  simp only at g0 g1 g12 g13
  by_cases h1 : k < l.length
  ·generalize hx : l.getD k 0 = x
   simp (maxSteps := 4000000) (disch := first | omega | (simp only [LL]; omega)) only [go_sem, g0, g1, g12, g13, hx]
   exact ⟨k + 1, ⟨by omega, rfl⟩, by omega⟩
  ·obtain rfl : k = l.length := by omega
   simp (maxSteps := 4000000) (disch := first | omega | (simp only [LL]; omega)) only [go_sem, g0, g1, g12, g13]
   rw [hr]
 ·simp (maxSteps := 4000000) (disch := first | omega | (simp only [LL]; omega)) only [go_sem]
theorem M_86 [SpC] (b : Bool) (l : List Int) (hl : l.length < 2 ^ 40) : M X 86 [.agg [.bool b, isl l], .agg [.bool b, isl l]] = some (.bool true) := by
 refine M_of X (fn := Tryz.f86) Tryz.func86 rfl ok_86 mode_86 res_86 _ rfl _ ?_
 intro r hr
 have hbb : (b == b) = true := by simp
 simp (maxSteps := 4000000) (disch := first | omega | (simp only [LL]; omega)) only [go_sem, hbb]
 refine W_loop X (fun (k : Nat) s => k ≤ l.length ∧ s.env 2 = .ptr 0 0 ∧ s.env 3 = .ptr 8 0 ∧ s.env 5 = .int .i64 k ∧ s.heap 0 = some (.cells [.bool b, isl l] false false) ∧ s.heap 8 = some (.cells [.bool b, isl l] false false)) (fun k => l.length - k) ?_ 0 _ ?_
 ·rintro k ⟨env, heap, nx⟩ ⟨hk, g2, g3, g5, e0, e8⟩
  simp only at g2 g3 g5 e0 e8
  by_cases h1 : k < l.length
  ·generalize hx : l.getD k 0 = x
   simp (maxSteps := 4000000) (disch := first | omega | (simp only [LL]; omega)) only [go_sem, g2, g3, g5, e0, e8, hx]
   exact ⟨k + 1, ⟨by omega, rfl⟩, by omega⟩
  ·obtain rfl : k = l.length := by omega
   simp (maxSteps := 4000000) (disch := first | omega | (simp only [LL]; omega)) only [go_sem, g2, g3, g5, e0, e8]
   rw [hr]
 ·simp (maxSteps := 4000000) (disch := first | omega | (simp only [LL]; omega)) only [go_sem]
theorem same4 [SpC] (p : Int) (h : nd p < 2 ^ 30) : M X 86 [.agg [zS p, zD p], .agg [zS p, zD p]] = some (.bool true) := M_86 (decide (p < 0)) (digs p.natAbs) (by rw [nd] at h; omega)
theorem nd_dz {x : Rat} {n : Nat} (h : RS x n) (hn : 1 ≤ n) : nd (dz x) ≤ n := by
 have h2 := h.den
 by_cases hd : x.den = 1
 ·rw [dz_one hd, nd_zero 0 rfl]; omega
 ·rw [dz_ne hd]; omega
theorem M_25 [SpC] {x : Rat} {n : Nat} [h : RS x n] (hn : n < 2 ^ 28) : M X 25 [.agg [zS (Rat.num (x)), zD (Rat.num (x)), zS (dz (x)), zD (dz (x))], .agg [zS (Rat.num (x)), zD (Rat.num (x)), zS (dz (x)), zD (dz (x))]] = some (.bool true) := by
 refine M_of X (fn := Tryz.f25) Tryz.func25 rfl ok_25 mode_25 res_25 _ rfl _ ?_
 intro r hr
 have w1 := same4 x.num (by have := h.num; omega)
 have w2 := same4 (dz x) (by have := nd_dz (h.mono (show n ≤ n + 1 by omega)) (by omega); omega)
 simp (maxSteps := 4000000) (disch := first | omega | (simp only [LL]; omega)) only [go_sem, w1, w2]
 rw [hr]
theorem M_24 [SpC] {x y : Rat} {n k : Nat} [RS x n] [RS y k] (hn : n < 2 ^ 28) (hk : k < 2 ^ 28) : M X 24 [.agg [zS (Rat.num (x)), zD (Rat.num (x)), zS (dz (x)), zD (dz (x)), zS (Rat.num (y)), zD (Rat.num (y)), zS (dz (y)), zD (dz (y))], .agg [zS (Rat.num (x)), zD (Rat.num (x)), zS (dz (x)), zD (dz (x))], .agg [zS (Rat.num (y)), zD (Rat.num (y)), zS (dz (y)), zD (dz (y))]] = some (.bool true) := by
 refine M_of X (fn := Tryz.f24) Tryz.func24 rfl ok_24 mode_24 res_24 _ rfl _ ?_
 intro r hr
 have w1 := M_25 (x := x) hn
 have w2 := M_25 (x := y) hk
 simp (maxSteps := 4000000) (disch := first | omega | (simp only [LL]; omega)) only [go_sem, w1, w2]
 rw [hr]
theorem M_68 [SpC] (n : Int) (hn : -1000 < n ∧ n < 1000) : M X 68 [.int .i64 n] = some (.agg [zS (Rat.num (Rat.divInt n 1)), zD (Rat.num (Rat.divInt n 1)), zS (dz (Rat.divInt n 1)), zD (dz (Rat.divInt n 1))]) := by
 refine M_of X (fn := Tryz.f68) Tryz.func68 rfl ok_68 mode_68 res_68 _ rfl _ ?_
 intro r hr
 have o := M_44 n 1 (by omega) (by omega)
 simp (maxSteps := 4000000) (disch := first | omega | (simp only [LL]; omega)) only [go_sem, o]
 rw [hr]
end Go.Proofs.YtenhjccadhlgoaaGreat.Abs
