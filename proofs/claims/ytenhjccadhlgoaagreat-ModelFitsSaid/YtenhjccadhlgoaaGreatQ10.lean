/-
  Package gantryref15: train, walked within the memory of Model. No conditions. Package gantryref15: Model. No conditions. Package gantryref15: State. No conditions.
-/
import Derived.Test.YtenhjccadhlgoaaGreatQ07
import Derived.Test.YtenhjccadhlgoaaGreatQ08
import Derived.Test.YtenhjccadhlgoaaGreatQ09
set_option linter.unusedSimpArgs false
set_option linter.unusedVariables false
set_option maxRecDepth 100000
set_option maxHeartbeats 16000000
namespace Go.Proofs.YtenhjccadhlgoaaGreat.Abs
open Go
theorem mheld_next2 {h h' : Heap} {nx nx' lo : Nat} {S : List Nat} {ws : List PW} {m m' : MdlR} {vd vp : AV} (p q : PartR) (C E Bp Bd : Nat) {nd np nc ne : Nat} {cap cap' : Option Nat} {g z g' z' : Bool}
  (hS : ∀ b ∈ S, lo ≤ b ∧ b < nx) (hP : PartsH h S ws) (hws : ws.map (fun w => w.2.2) = m.parts) (hlo : lo ≤ nx) (hC : nx ≤ C ∧ C < nx') (hE : nx ≤ E ∧ E < nx')
  (hkeep : ∀ b ∈ S, h' b = h b) (hm : m'.parts = m.parts ++ [p, q]) (hBp : nx ≤ Bp ∧ Bp < nx' ∧ Bp ≠ C ∧ Bp ≠ E) (hBd : nx ≤ Bd ∧ Bd < nx' ∧ Bd ≠ C ∧ Bd ≠ E ∧ Bd ≠ Bp)
  (evp : vp = .sl Bp 0 np none 18) (evd : vd = .sl Bd 0 nd none 17) (enp : np = m'.parts.length) (edn : nd = m'.dofs.length) (enc : nc = p.cols.length) (ene : ne = q.cols.length)
  (hc : h' C = some (.cells (cat colA p.cols) g z)) (hc' : h' E = some (.cells (cat colA q.cols) g' z'))
  (hp : h' Bp = some (.cells (cat pwA ws ++ (pwA (.ro (ptC p.shape) p.shape.length false, .sl C 0 nc cap 13, p) ++ pwA (.ro (ptC q.shape) q.shape.length false, .sl E 0 ne cap' 13, q))) true false))
  (hd : h' Bd = some (.cells (cat dofA m'.dofs) true false)) : MHeld h' nx' lo vd vp m' := by
 subst evp enp evd edn enc ene
 refine ⟨C :: E :: S, ws ++ [(.ro (ptC p.shape) p.shape.length false, .sl C 0 p.cols.length cap 13, p), (.ro (ptC q.shape) q.shape.length false, .sl E 0 q.cols.length cap' 13, q)], Bp, ?_, ?_, ?_, by omega, ?_, .inr ⟨rfl, by rw [hp, cat_append, cat_cons, cat_cons, cat_nil, List.append_nil], Bd, by omega, ?_, hBd.2.2.2.2, rfl, hd⟩⟩
 ·intro b hb
  rcases List.mem_cons.1 hb with rfl | hb
  ·omega
  rcases List.mem_cons.1 hb with rfl | hb
  ·omega
  ·have := hS b hb; omega
 ·intro w hw
  rcases List.mem_append.1 hw with hw | hw
  ·exact ⟨(hP w hw).1.keep (fun b hb => by simp [hb]) hkeep, (hP w hw).2.keep (fun b hb => by simp [hb]) hkeep⟩
  ·simp only [List.mem_cons, List.not_mem_nil, or_false] at hw
   rcases hw with rfl | rfl
   ·exact ⟨.inl ⟨_, rfl⟩, .inr ⟨C, cap, g, z, by simp, rfl, hc, cat_length _⟩⟩
   ·exact ⟨.inl ⟨_, rfl⟩, .inr ⟨E, cap', g', z', by simp, rfl, hc', cat_length _⟩⟩
 ·rw [List.map_append, hws, hm]; rfl
 ·intro hb
  rcases List.mem_cons.1 hb with hb | hb
  ·exact hBp.2.2.1 hb
  rcases List.mem_cons.1 hb with hb | hb
  ·exact hBp.2.2.2 hb
  ·have := hS _ hb; omega
 ·intro hb
  rcases List.mem_cons.1 hb with hb | hb
  ·exact hBd.2.2.1 hb
  rcases List.mem_cons.1 hb with hb | hb
  ·exact hBd.2.2.2.1 hb
  ·have := hS _ hb; omega
theorem train_call [SpC] (m : MdlR) (n : Int) (hn : 0 ≤ n ∧ n ≤ 1000) (heap : Heap) (nx lo : Nat) (vd vp vr vs : AV) (hlo : lo ≤ nx) (hdl : m.dofs.length < 100) (hpl : m.parts.length < 100) (hd0 : m.dofs ≠ []) (H : MHeld heap nx lo vd vp m) :
  ∃ vd' vp' h' nx', callI X 48 [.agg [vd, vp, vr, vs], .int .i64 n] heap nx = some (.agg [vd', vp', vr, vs], h', nx') ∧ nx ≤ nx' ∧ (∀ b, b < lo → h' b = heap b) ∧ MHeld h' nx' lo vd' vp' (trainV m n) := by
 suffices hs : ∀ Φ : AV × Heap × Nat → Prop, (∀ vd' vp' h' nx', nx ≤ nx' → (∀ b, b < lo → h' b = heap b) → MHeld h' nx' lo vd' vp' (trainV m n) → Φ (.agg [vd', vp', vr, vs], h', nx')) →
   ∃ q, callI X 48 [.agg [vd, vp, vr, vs], .int .i64 n] heap nx = some q ∧ Φ q by
  obtain ⟨q, k1, vd', vp', h', nx', k2, k3, k4, k5⟩ := hs (fun q => ∃ vd' vp' h' nx', q = (.agg [vd', vp', vr, vs], h', nx') ∧ nx ≤ nx' ∧ (∀ b, b < lo → h' b = heap b) ∧ MHeld h' nx' lo vd' vp' (trainV m n)) (fun vd' vp' h' nx' a b c => ⟨vd', vp', h', nx', rfl, a, b, c⟩)
  subst k2
  exact ⟨vd', vp', h', nx', k1, k3, k4, k5⟩
 intro Φ hΦ
 refine callI_of (fn := Tryz.f48) Tryz.func48 rfl ok_48 res_48 _ rfl heap nx _ ?_
 have o1 := M_44 1 2 (by omega) (by omega)
 have o2 := M_44 (n % 3) 2 (by omega) (by omega)
 have o3 := M_44 (1 + n % 2) 2 (by omega) (by omega)
 have o4 := M_44 (n % 4) 2 (by omega) (by omega)
 have n1 := M_50 (-1) ⟨by omega, by omega⟩
 have n2 := M_50 3 ⟨by omega, by omega⟩
 have n3 := M_50 22 ⟨by omega, by omega⟩
 have n4 := M_50 1 ⟨by omega, by omega⟩
 have n5 := M_50 32 ⟨by omega, by omega⟩
 have n6 := M_50 2 ⟨by omega, by omega⟩
 have s1 := M_46 1 ⟨by omega, by omega⟩
 have s2 := M_46 5 ⟨by omega, by omega⟩
 rw [show arnd 1 6 = 1 by decide] at s1
 rw [show arnd 5 6 = 5 by decide] at s2
 have hel := cat_length (f := dofA) m.dofs
 have hp1 := ptC_length (shp 1)
 have hp2 := ptC_length (shp 5)
 obtain ⟨S, ws, Bp, hS, hP, hws, hBp, hnp, H⟩ := H
 have hwl := pw_length ws
 have hwn : ws.length = m.parts.length := by rw [← hws, List.length_map]
 unfold trainV at hΦ
 generalize Rat.divInt 1 2 = qh at *
 generalize Rat.divInt (n % 3) 2 = r1 at *
 generalize Rat.divInt (1 + n % 2) 2 = r2 at *
 generalize Rat.divInt (n % 4) 2 = r3 at *
 generalize Rat.divInt (-1) 1 = qm at *
 generalize Rat.divInt 3 1 = q3 at *
 generalize Rat.divInt 22 1 = q22 at *
 generalize Rat.divInt 1 1 = q1 at *
 generalize Rat.divInt 32 1 = q32 at *
 generalize Rat.divInt 2 1 = q2 at *
 generalize shp 1 = sh1 at *
 generalize shp 5 = sh5 at *
 generalize hgt 1 = g1 at *
 generalize hgt 5 = g5 at *
 have hkp : ∀ b ∈ S, b ≠ Bp := fun b hb h => hnp (h ▸ hb)
 rcases H with ⟨e1, e2, e3, e4⟩ | ⟨e1, e2, Bd, hBd, hnd, hne, e3, e4⟩
 ·exact absurd e4 hd0
 ·subst e1 e3
  have hkd : ∀ b ∈ S, b ≠ Bd := fun b hb h => hnd (h ▸ hb)
  simp (maxSteps := 4000000) (disch := first | omega | (simp only [LL]; omega)) only [go_sem, outC_ret, outC_normal, e2, e4, hel, hwl, hp1, hp2, replA_1, replA_2, weaks_ptC, o1, o2, o3, o4, n1, n2, n3, n4, n5, n6, s1, s2]
  refine hΦ _ _ _ _ (by omega) (fun b hb => ?_) (mheld_next2 (m := m) (cap := some 1) (g := false) (z := false) (cap' := some 1) (g' := false) (z' := false) (p := ⟨sh1, q22, 0, [⟨m.dofs.length, q1, 0, 0⟩], r1, 0⟩) (q := ⟨sh5, q32, q2, [⟨m.dofs.length, 0, r2, 0⟩], r3, r1⟩) (nx + 16 + 32 + 80 + 48 + 48 + 64) (nx + 16 + 32 + 80 + 48 + 48 + 136 + 96) (nx + 16 + 32 + 80 + 48 + 48 + 136 + 168) (nx + 16 + 32 + 56)
   hS hP hws hlo (by omega) (by omega) (fun b hb => ?_) (by simp) (by omega) (by omega) rfl rfl (by simp) (by simp) rfl rfl ?_ ?_ ?_ ?_)
  ·simp only [upd_apply]
   repeat rw [if_neg (by omega)]
  ·have := hS b hb
   have := hkp b hb
   have := hkd b hb
   simp only [upd_apply]
   repeat rw [if_neg (by omega)]
  ·repeat first | refine Eq.trans (upd_hit (by omega)) ?_ | refine upd_miss (by omega) ?_
   simp only [cat_cons, cat_nil, colA_eq, q0a, q0b, q0c, q0d, List.cons_append, List.nil_append, List.append_nil]
  ·repeat first | refine Eq.trans (upd_hit (by omega)) ?_ | refine upd_miss (by omega) ?_
   simp only [cat_cons, cat_nil, colA_eq, q0a, q0b, q0c, q0d, List.cons_append, List.nil_append, List.append_nil]
  ·repeat first | refine Eq.trans (upd_hit (by omega)) ?_ | refine upd_miss (by omega) ?_
   simp only [pwA_eq, q0a, q0b, q0c, q0d, List.cons_append, List.nil_append, List.append_nil, List.append_assoc, List.length_cons, List.length_nil]
  ·repeat first | refine Eq.trans (upd_hit (by omega)) ?_ | refine upd_miss (by omega) ?_
   simp only [cat_append, cat_cons, cat_nil, dofA_eq, c1_q, c2_q, c3_q, c4_q, q0a, q0b, q0c, q0d, List.cons_append, List.nil_append, List.append_nil, List.append_assoc]
theorem block_step [SpC] (m : MdlR) (s : List Pt) (hsl : s.length < 2 ^ 20) (x y n : Int) (hx : -1000 ≤ x ∧ x ≤ 1000) (hy : -1000 ≤ y ∧ y ≤ 1000) (hn : 0 ≤ n ∧ n ≤ 1000) (wheel : Bool) (heap : Heap) (nx lo : Nat) (vd vp vr vs : AV) (hlo : lo ≤ nx) (hdl : m.dofs.length < 100) (hpl : m.parts.length < 100) (H : MHeld heap nx lo vd vp m) (Φ : AV × Heap × Nat → Prop)
  (hΦ : ∀ vd' vp' h' nx', nx ≤ nx' → (∀ b, b < lo → h' b = heap b) → MHeld h' nx' lo vd' vp' (blockV m s x y n wheel) → Φ (.agg [vd', vp', vr, vs], h', nx')) : PN (callI X 47 [.agg [vd, vp, vr, vs], .ro (ptC s) s.length false, .int .i64 x, .int .i64 y, .int .i64 n, .bool wheel] heap nx) Φ := by
 obtain ⟨vd', vp', h', nx', k1, k2, k3, k4⟩ := block_call m s hsl x y n hx hy hn wheel heap nx lo vd vp vr vs hlo hdl hpl H
 exact ⟨_, k1, hΦ vd' vp' h' nx' k2 k3 k4⟩
theorem train_step [SpC] (m : MdlR) (n : Int) (hn : 0 ≤ n ∧ n ≤ 1000) (heap : Heap) (nx lo : Nat) (vd vp vr vs : AV) (hlo : lo ≤ nx) (hdl : m.dofs.length < 100) (hpl : m.parts.length < 100) (hd0 : m.dofs ≠ []) (H : MHeld heap nx lo vd vp m) (Φ : AV × Heap × Nat → Prop)
  (hΦ : ∀ vd' vp' h' nx', nx ≤ nx' → (∀ b, b < lo → h' b = heap b) → MHeld h' nx' lo vd' vp' (trainV m n) → Φ (.agg [vd', vp', vr, vs], h', nx')) : PN (callI X 48 [.agg [vd, vp, vr, vs], .int .i64 n] heap nx) Φ := by
 obtain ⟨vd', vp', h', nx', k1, k2, k3, k4⟩ := train_call m n hn heap nx lo vd vp vr vs hlo hdl hpl hd0 H
 exact ⟨_, k1, hΦ vd' vp' h' nx' k2 k3 k4⟩
theorem blockV_len (m : MdlR) (s : List Pt) (x y n : Int) (wheel : Bool) : (blockV m s x y n wheel).dofs.length = m.dofs.length + (if wheel = true then 3 else 2) ∧ (blockV m s x y n wheel).parts.length = m.parts.length + 1 ∧ (blockV m s x y n wheel).ropes = m.ropes ∧ (blockV m s x y n wheel).skip = m.skip := by
 unfold blockV
 cases wheel <;> simp
theorem trainV_len (m : MdlR) (n : Int) : (trainV m n).dofs.length = m.dofs.length + 1 ∧ (trainV m n).parts.length = m.parts.length + 2 ∧ (trainV m n).ropes = m.ropes ∧ (trainV m n).skip = m.skip := by
 unfold trainV
 simp
theorem mheld_len {h : Heap} {nx lo : Nat} {vd vp : AV} {m : MdlR} (H : MHeld h nx lo vd vp m) : lenS vd = some (.int .i64 m.dofs.length) ∧ lenS vp = some (.int .i64 m.parts.length) := by
 obtain ⟨S, ws, Bp, _, _, _, _, _, H⟩ := H
 rcases H with ⟨e1, _, e3, e4⟩ | ⟨e1, _, Bd, _, _, _, e3, _⟩
 ·subst e1 e3; rw [e4]; exact ⟨rfl, rfl⟩
 ·subst e1 e3; exact ⟨rfl, rfl⟩
theorem mheld_tup {h : Heap} {nx lo : Nat} {vd vp : AV} {m : MdlR} (H : MHeld h nx lo vd vp m) : vd.tupleB = false ∧ vp.tupleB = false ∧ vd.cells = [vd] ∧ vp.cells = [vp] := by
 obtain ⟨S, ws, Bp, _, _, _, _, _, H⟩ := H
 rcases H with ⟨e1, _, e3, e4⟩ | ⟨e1, _, Bd, _, _, _, e3, _⟩
 ·subst e1 e3; exact ⟨rfl, rfl, rfl, rfl⟩
 ·subst e1 e3; exact ⟨rfl, rfl, rfl, rfl⟩
theorem MHeld.keep {h h' : Heap} {nx nx' lo : Nat} {vd vp : AV} {m : MdlR} (H : MHeld h nx lo vd vp m) (hh : ∀ b, lo ≤ b → b < nx → h' b = h b) (hn : nx ≤ nx') : MHeld h' nx' lo vd vp m := by
 obtain ⟨S, ws, Bp, hS, hP, hws, hBp, hnp, H⟩ := H
 refine ⟨S, ws, Bp, fun b hb => by have := hS b hb; omega, hP.keep (fun _ h => h) (fun b hb => hh b (hS b hb).1 (hS b hb).2), hws, by omega, hnp, ?_⟩
 rcases H with ⟨e1, e2, e3, e4⟩ | ⟨e1, e2, Bd, hBd, hnd, hne, e3, e4⟩
 ·exact .inl ⟨e1, by rw [hh _ hBp.1 hBp.2]; exact e2, e3, e4⟩
 ·exact .inr ⟨e1, by rw [hh _ hBp.1 hBp.2]; exact e2, Bd, by omega, hnd, hne, e3, by rw [hh _ hBd.1 hBd.2]; exact e4⟩
theorem blockV_hy {m : MdlR} (h : ∀ p ∈ m.parts, RS p.hy 1) {s : List Pt} {x y n : Int} {w : Bool} (hy : -1000 < y ∧ y < 1000) : ∀ p ∈ (blockV m s x y n w).parts, RS p.hy 1 := by
 intro p hp
 simp only [blockV, List.mem_append, List.mem_cons, List.not_mem_nil, or_false] at hp
 rcases hp with hp | rfl
 ·exact h p hp
 ·show RS (Rat.divInt y 1) 1
  exact rs_small (by omega) (by decide)
theorem trainV_hy {m : MdlR} (h : ∀ p ∈ m.parts, RS p.hy 1) (n : Int) : ∀ p ∈ (trainV m n).parts, RS p.hy 1 := by
 intro p hp
 simp only [trainV, List.mem_append, List.mem_cons, List.not_mem_nil, or_false] at hp
 rcases hp with (hp | rfl) | rfl
 ·exact h p hp
 ·exact rs_zero
 ·show RS (Rat.divInt 2 1) 1
  exact rs_small (by decide) (by decide)
def RHeld (h : Heap) (nx lo : Nat) (vr : AV) (l : List RopeR) : Prop :=
 (vr = .ro [] 0 true ∧ l = []) ∨ ∃ B D r, (lo ≤ B ∧ B < nx) ∧ (lo ≤ D ∧ D < nx) ∧ l = [r] ∧ r.dirs.length = 3 ∧ vr = .sl B 0 1 none 23 ∧ h D = some (.cells (cat dirA r.dirs) false false) ∧
  h B = some (.cells [.int .i64 r.a, .int .i64 r.b, zS (Rat.num (r.fx)), zD (Rat.num (r.fx)), zS (dz (r.fx)), zD (dz (r.fx)), zS (Rat.num (r.fy)), zD (Rat.num (r.fy)), zS (dz (r.fy)), zD (dz (r.fy)), zS (Rat.num (r.tx)), zD (Rat.num (r.tx)), zS (dz (r.tx)), zD (dz (r.tx)), zS (Rat.num (r.ty)), zD (Rat.num (r.ty)), zS (dz (r.ty)), zD (dz (r.ty)), .sl D 0 3 (some 3) 3, zS (Rat.num (r.len)), zD (Rat.num (r.len)), zS (dz (r.len)), zD (dz (r.len))] true false)
theorem RHeld.keep {h h' : Heap} {nx nx' lo : Nat} {vr : AV} {l : List RopeR} (H : RHeld h nx lo vr l) (hh : ∀ b, lo ≤ b → b < nx → h' b = h b) (hn : nx ≤ nx') : RHeld h' nx' lo vr l := by
 rcases H with H | ⟨B, D, r, h1, h2, h3, h4, h5, h6, h7⟩
 ·exact .inl H
 ·exact .inr ⟨B, D, r, by omega, by omega, h3, h4, h5, by rw [hh _ h2.1 h2.2]; exact h6, by rw [hh _ h1.1 h1.2]; exact h7⟩
theorem rheld_snap {h : Heap} {nx lo : Nat} {vr : AV} {l : List RopeR} (H : RHeld h nx lo vr l) (d : Nat) : ∃ v' ids, snap h (d + 4) vr = some (v', ids) ∧ v'.weak = .ro (cat ropeA l) l.length false := by
 rcases H with ⟨rfl, rfl⟩ | ⟨B, D, r, _, _, rfl, h4, rfl, h6, h7⟩
 ·exact ⟨_, _, rfl, rfl⟩
 ·have hc : snaps (snap h (d + 3)) [AV.int .i64 r.a, .int .i64 r.b, zS (Rat.num (r.fx)), zD (Rat.num (r.fx)), zS (dz (r.fx)), zD (dz (r.fx)), zS (Rat.num (r.fy)), zD (Rat.num (r.fy)), zS (dz (r.fy)), zD (dz (r.fy)), zS (Rat.num (r.tx)), zD (Rat.num (r.tx)), zS (dz (r.tx)), zD (dz (r.tx)), zS (Rat.num (r.ty)), zD (Rat.num (r.ty)), zS (dz (r.ty)), zD (dz (r.ty)), .sl D 0 3 (some 3) 3, zS (Rat.num (r.len)), zD (Rat.num (r.len)), zS (dz (r.len)), zD (dz (r.len))] = some ([AV.int .i64 r.a, .int .i64 r.b, zS (Rat.num (r.fx)), zD (Rat.num (r.fx)), zS (dz (r.fx)), zD (dz (r.fx)), zS (Rat.num (r.fy)), zD (Rat.num (r.fy)), zS (dz (r.fy)), zD (dz (r.fy)), zS (Rat.num (r.tx)), zD (Rat.num (r.tx)), zS (dz (r.tx)), zD (dz (r.tx)), zS (Rat.num (r.ty)), zD (Rat.num (r.ty)), zS (dz (r.ty)), zD (dz (r.ty)), .ro (cat dirA r.dirs) 3 false, zS (Rat.num (r.len)), zD (Rat.num (r.len)), zS (dz (r.len)), zD (dz (r.len))], [D]) := by
   have hd : snap h (d + 3) (.sl D 0 3 (some 3) 3) = some (.ro (cat dirA r.dirs) 3 false, [D]) := by
    rw [snap_sl, h6]
    have hl := cat_length (f := dirA) r.dirs
    simp only [Nat.zero_add, hl, h4, Nat.le_refl, if_true, List.drop_zero]
    rw [List.take_of_length_le (by omega), snaps_cat]
    rfl
   simp only [snaps_cons, snaps_nil, snap_zS, snap_zD, snap_int, hd, nx_some, mp_some, List.nil_append, List.append_nil]
  refine ⟨_, _, by rw [snap_sl, h7]; simp only [List.length_cons, List.length_nil, Nat.zero_add, Nat.one_mul, Nat.reduceAdd, Nat.le_refl, if_true, List.drop_zero, List.take_succ_cons, List.take_zero, hc, mp_some]; rfl, ?_⟩
  rw [weak_ro, cat_cons, cat_nil, List.append_nil, ropeA_eq, h4]
  simp only [weakgo_cons, weakgo_nil, weak_int, weak_zS, weak_zD, weak_roE, List.length_cons, List.length_nil]
def SHeld (h : Heap) (nx lo : Nat) (vs : AV) (l : List Pt) : Prop :=
 (vs = .ro [] 0 true ∧ l = []) ∨ ∃ B, (lo ≤ B ∧ B < nx) ∧ l.length = 1 ∧ vs = .sl B 0 1 (some 1) 2 ∧ h B = some (.cells (ptC l) false false)
theorem SHeld.keep {h h' : Heap} {nx nx' lo : Nat} {vr : AV} {l : List Pt} (H : SHeld h nx lo vr l) (hh : ∀ b, lo ≤ b → b < nx → h' b = h b) (hn : nx ≤ nx') : SHeld h' nx' lo vr l := by
 rcases H with H | ⟨B, h1, h2, h3, h4⟩
 ·exact .inl H
 ·exact .inr ⟨B, by omega, h2, h3, by rw [hh _ h1.1 h1.2]; exact h4⟩
theorem sheld_snap {h : Heap} {nx lo : Nat} {vs : AV} {l : List Pt} (H : SHeld h nx lo vs l) (d : Nat) : ∃ v' ids, snap h (d + 4) vs = some (v', ids) ∧ v'.weak = .ro (ptC l) l.length false := by
 rcases H with ⟨rfl, rfl⟩ | ⟨B, _, h2, rfl, h4⟩
 ·exact ⟨_, _, rfl, rfl⟩
 ·have hl := ptC_length l
  refine ⟨.ro (ptC l) 1 false, [B], ?_, by rw [weak_ro, weaks_ptC, h2]⟩
  rw [snap_sl, h4]
  simp only [Nat.zero_add, hl, h2, Nat.one_mul, Nat.mul_one, Nat.le_refl, if_true, List.drop_zero]
  rw [List.take_of_length_le (by omega), snaps_ptC]
  rfl
theorem mheld_snap {h : Heap} {nx lo : Nat} {vd vp : AV} {m : MdlR} (H : MHeld h nx lo vd vp m) (d : Nat) : (∃ v' ids, snap h (d + 4) vd = some (v', ids) ∧ v'.weak = .ro (cat dofA m.dofs) m.dofs.length false) ∧ ∃ v' ids, snap h (d + 4) vp = some (v', ids) ∧ v'.weak = .ro (cat partA m.parts) m.parts.length false := by
 obtain ⟨S, ws, Bp, hS, hP, hws, hBp, hnp, H⟩ := H
 have key : ∀ cap g, h Bp = some (.cells (cat pwA ws) g false) → ∃ v' ids, snap h (d + 4) (.sl Bp 0 m.parts.length cap 18) = some (v', ids) ∧ v'.weak = .ro (cat partA m.parts) m.parts.length false := by
  intro cap g hg
  obtain ⟨cs', ids, e1, e2⟩ := parts_snap hP (d + 1)
  have hl := pw_length ws
  have hwn : ws.length = m.parts.length := by rw [← hws, List.length_map]
  refine ⟨.ro cs' m.parts.length false, Bp :: ids, ?_, by rw [weak_ro, e2, hws]⟩
  rw [snap_sl, hg]
  simp only [Nat.zero_add, hl, hwn, Nat.le_refl, if_true, List.drop_zero]
  rw [List.take_of_length_le (by omega), e1]
  rfl
 rcases H with ⟨rfl, e2, rfl, e4⟩ | ⟨rfl, e2, Bd, hBd, hnd, hne, rfl, e4⟩
 ·exact ⟨⟨_, _, rfl, by rw [e4]; rfl⟩, key _ _ e2⟩
 ·refine ⟨⟨.ro (cat dofA m.dofs) m.dofs.length false, [Bd], ?_, by rw [weak_ro, weaks_cat]⟩, key _ _ e2⟩
  have hl := cat_length (f := dofA) m.dofs
  rw [snap_sl, e4]
  simp only [Nat.zero_add, hl, Nat.le_refl, if_true, List.drop_zero]
  rw [List.take_of_length_le (by omega), snaps_cat]
  rfl
theorem M_8 [SpC] (l : List Int) (hl : okI l) (hlen : l.length < 2 ^ 60) : M X 8 [isl l] = some (.agg (mdlA (modelV l))) := by
 refine M_of X (fn := Tryz.f8) Tryz.func8 rfl ok_8 mode_8 res_8 _ rfl _ ?_
 intro r hr
 have t0 := M_45 l 0 4 hl (by omega) (by omega)
 have t1 := M_45 l 1 3 hl (by omega) (by omega)
 have t2 := M_45 l 2 3 hl (by omega) (by omega)
 have t3 := M_45 l 3 8 hl (by omega) (by omega)
 have b0 := atN_bd l 0 4 (by omega)
 have b1 := atN_bd l 1 3 (by omega)
 have b2 := atN_bd l 2 3 (by omega)
 have b3 := atN_bd l 3 8 (by omega)
 rw [show (0 : Int).toNat = 0 from rfl] at t0
 rw [show (1 : Int).toNat = 1 from rfl] at t1
 rw [show (2 : Int).toNat = 2 from rfl] at t2
 rw [show (3 : Int).toNat = 3 from rfl] at t3
 have o1 := M_44 (atN l 0 4) 2 (by omega) (by omega)
 have o2 := M_44 (atN l 1 3) 2 (by omega) (by omega)
 simp (maxSteps := 4000000) (disch := first | omega | (simp only [LL]; omega)) only [go_sem, replA_1, replA_4, t0, t1, t2, o1, o2]
 generalize hK : @seqQ X ⟨_⟩ (outR X _ _ _) = K
 have hJ : ∀ (g : GenS) (env : Nat → AV) (heap : Heap) (nx : Nat) (vd vp : AV), g = genV l → env 0 = isl l → env 2 = .ptr 0 0 → env 3 = .ptr 8 0 → 16 ≤ nx → heap 0 = some (.cells [.ro [] 0 true, .ro [] 0 true, .ro [] 0 true, .ro [] 0 true] false false) →
   heap 8 = some (.cells [vd, vp, .ro [] 0 true, .ro [] 0 true] false false) → MHeld heap nx 16 vd vp g.m → g.m.dofs.length ≤ 9 → 1 ≤ g.m.dofs.length → g.m.parts.length ≤ 4 → 2 ≤ g.m.parts.length → g.m.ropes = [] → g.m.skip = [] → (∀ p ∈ g.m.parts, RS p.hy 1) → K .normal ⟨env, heap, nx⟩ := by
  intro g env heap nx vd vp hg g0 g2 g3 hnx h0 h8 H d1 d2 p1 p2 r0 s0 hhy
  obtain ⟨L1, L2⟩ := mheld_len H
  obtain ⟨T1, T2, T3, T4⟩ := mheld_tup H
  have hM : modelV l = (let m1 := if atN l 3 8 % 2 = 1 ∧ g.m.dofs.length < 6 then trainV g.m (atN l 3 8) else g.m
   let m2 := if atN l 3 8 / 2 % 2 = 1 then { m1 with ropes := [⟨0, 1, (m1.parts.getD 1 part0).hx, 0, 0, 0, [(0, 1, 1), (3, 4, 5), (1, 0, 1)], (m1.parts.getD 1 part0).hy + Rat.divInt (atN l 3 8 / 4) 1⟩] } else m1
   if atN l 3 8 = 7 ∧ 2 < m2.parts.length then { m2 with skip := [(1, 2)] } else m2) := by rw [hg]; rfl
  rw [hM] at hr
  clear hM hg
  have n1 := M_50 (atN l 3 8 / 4) ⟨by omega, by omega⟩
  have rn : RS (Rat.divInt (atN l 3 8 / 4) 1) 1 := rs_small (by omega) (by decide)
  generalize atN l 3 8 = more at *
  subst hK
  rw [seqQ_normal, W_seq]
  generalize hK1 : @seqQ X ⟨_⟩ (outR X _ _ _) = K1
  simp (maxSteps := 4000000) (disch := first | omega | (simp only [LL]; omega)) only [go_sem, g0, t3]
  rw [← hK1, seqQ_normal, W_seq]
  generalize hK2 : @seqQ X ⟨_⟩ (outR X _ _ _) = K2
  have hJ2 : ∀ (m : MdlR) (env : Nat → AV) (heap : Heap) (nx : Nat) (vd vp : AV), m = (if more % 2 = 1 ∧ g.m.dofs.length < 6 then trainV g.m more else g.m) → env 2 = .ptr 0 0 → env 3 = .ptr 8 0 → env 14 = .int .i64 more → 16 ≤ nx → heap 0 = some (.cells [.ro [] 0 true, .ro [] 0 true, .ro [] 0 true, .ro [] 0 true] false false) →
    heap 8 = some (.cells [vd, vp, .ro [] 0 true, .ro [] 0 true] false false) → MHeld heap nx 16 vd vp m → m.dofs.length ≤ 20 → m.dofs ≠ [] → m.parts.length ≤ 20 → 2 ≤ m.parts.length → m.ropes = [] → m.skip = [] → (∀ p ∈ m.parts, RS p.hy 1) → K2 .normal ⟨env, heap, nx⟩ := by
   clear g0 g2 g3 hnx h0 h8 H L1 L2 T1 T2 T3 T4 hK1
   intro m env heap nx vd vp hm g2 g3 g14 hnx h0 h8 H d1 d2 p1 p2 r0 s0 hhy
   rw [← hm] at hr
   clear hm
   obtain ⟨L1, L2⟩ := mheld_len H
   obtain ⟨T1, T2, T3, T4⟩ := mheld_tup H
   subst hK2
   rw [seqQ_normal, W_seq]
   generalize hK3 : @seqQ X ⟨_⟩ (outR X _ _ _) = K3
   have hJ3 : ∀ (m' : MdlR) (env : Nat → AV) (heap : Heap) (nx : Nat) (vr : AV), m' = (if more / 2 % 2 = 1 then { m with ropes := [⟨0, 1, (m.parts.getD 1 part0).hx, 0, 0, 0, [(0, 1, 1), (3, 4, 5), (1, 0, 1)], (m.parts.getD 1 part0).hy + Rat.divInt (more / 4) 1⟩] } else m) → env 2 = .ptr 0 0 → env 3 = .ptr 8 0 → env 14 = .int .i64 more → 16 ≤ nx → heap 0 = some (.cells [.ro [] 0 true, .ro [] 0 true, .ro [] 0 true, .ro [] 0 true] false false) →
     heap 8 = some (.cells [vd, vp, vr, .ro [] 0 true] false false) → MHeld heap nx 16 vd vp m' → RHeld heap nx 16 vr m'.ropes → K3 .normal ⟨env, heap, nx⟩ := by
    clear g2 g3 g14 hnx h0 h8 H T1 T2 T3 T4
    intro m' env heap nx vr hm g2 g3 g14 hnx h0 h8 H R
    have hp' : m'.parts = m.parts := by rw [hm]; split <;> rfl
    have hs' : m'.skip = [] := by rw [hm]; split <;> exact s0
    simp only at hr
    rw [← hm] at hr
    clear hm
    subst hK3
    rw [seqQ_normal, W_seq]
    generalize hK4 : @seqQ X ⟨_⟩ (outR X _ _ _) = K4
    have hJ4 : ∀ (m2 : MdlR) (env : Nat → AV) (heap : Heap) (nx : Nat) (vs : AV), m2 = (if more = 7 ∧ 2 < m'.parts.length then { m' with skip := [(1, 2)] } else m') → env 2 = .ptr 0 0 → env 3 = .ptr 8 0 → 16 ≤ nx → heap 0 = some (.cells [.ro [] 0 true, .ro [] 0 true, .ro [] 0 true, .ro [] 0 true] false false) →
      heap 8 = some (.cells [vd, vp, vr, vs] false false) → MHeld heap nx 16 vd vp m2 → RHeld heap nx 16 vr m2.ropes → SHeld heap nx 16 vs m2.skip → K4 .normal ⟨env, heap, nx⟩ := by
     clear g2 g3 g14 hnx h0 h8 H R
     intro m2 env heap nx vs hm g2 g3 hnx h0 h8 H R S
     rw [← hm] at hr
     subst hK4
     rw [seqQ_normal]
     simp (maxSteps := 4000000) (disch := first | omega | (simp only [LL]; omega)) only [go_sem, g2, g3, h0, h8]
     have hk : ∀ (o : Option Obj) (b : Nat), 16 ≤ b → b < nx → upd heap 0 o b = heap b := fun o b hb _ => by simp only [upd_apply]; rw [if_neg (by omega)]
     obtain ⟨⟨a1, i1, e1, w1⟩, a2, i2, e2, w2⟩ := mheld_snap (H.keep (hk _) (Nat.le_refl _)) 7
     obtain ⟨a3, i3, e3, w3⟩ := rheld_snap (R.keep (hk _) (Nat.le_refl _)) 7
     obtain ⟨a4, i4, e4, w4⟩ := sheld_snap (S.keep (hk _) (Nat.le_refl _)) 7
     refine ⟨_, e1, _, e2, _, e3, _, e4, ?_⟩
     show AV.agg [a1.weak, a2.weak, a3.weak, a4.weak] = r
     rw [w1, w2, w3, w4, hr, mdlA_eq]
    obtain ⟨L1', L2'⟩ := mheld_len H
    by_cases c7 : more = 7
    ·by_cases c2 : 2 < m'.parts.length
     ·simp (maxSteps := 4000000) (disch := first | omega | (simp only [LL]; omega)) only [go_sem, g2, g3, g14, h0, h8, L2', replA_1]
      refine hJ4 { m' with skip := [(1, 2)] } _ _ _ (.sl (nx + 64 + 8) 0 1 (some 1) 2) (by rw [if_pos ⟨c7, c2⟩]) (by simp (maxSteps := 4000000) (disch := first | omega | (simp only [LL]; omega)) only [go_sem, g2]) (by simp (maxSteps := 4000000) (disch := first | omega | (simp only [LL]; omega)) only [go_sem, g3]) (by omega) ?_ ?_ (H.keep (fun b hb hb2 => ?_) (by omega)) (R.keep (fun b hb hb2 => ?_) (by omega)) (.inr ⟨nx + 64 + 8, by omega, rfl, rfl, ?_⟩)
      ·repeat first | refine Eq.trans (upd_hit (by omega)) ?_ | refine upd_miss (by omega) ?_
       exact h0
      ·repeat first | refine Eq.trans (upd_hit (by omega)) ?_ | refine upd_miss (by omega) ?_
       rfl
      ·repeat first | refine Eq.trans (upd_hit (by omega)) ?_ | refine upd_miss (by omega) ?_
       rfl
      ·repeat first | refine Eq.trans (upd_hit (by omega)) ?_ | refine upd_miss (by omega) ?_
       rfl
      ·repeat first | refine Eq.trans (upd_hit (by omega)) ?_ | refine upd_miss (by omega) ?_
       rfl
     ·simp (maxSteps := 4000000) (disch := first | omega | (simp only [LL]; omega)) only [go_sem, g2, g3, g14, h0, h8, L2']
      exact hJ4 m' _ _ _ _ (by rw [if_neg (by omega)]) (by simp (maxSteps := 4000000) (disch := first | omega | (simp only [LL]; omega)) only [go_sem, g2]) (by simp (maxSteps := 4000000) (disch := first | omega | (simp only [LL]; omega)) only [go_sem, g3]) (by omega) h0 h8 (H.keep (fun _ _ _ => rfl) (by omega)) (R.keep (fun _ _ _ => rfl) (by omega)) (.inl ⟨rfl, hs'⟩)
    ·simp (maxSteps := 4000000) (disch := first | omega | (simp only [LL]; omega)) only [go_sem, g2, g3, g14, h0, h8, L2']
     exact hJ4 m' _ _ _ _ (by rw [if_neg (by omega)]) (by simp (maxSteps := 4000000) (disch := first | omega | (simp only [LL]; omega)) only [go_sem, g2]) (by simp (maxSteps := 4000000) (disch := first | omega | (simp only [LL]; omega)) only [go_sem, g3]) (by omega) h0 h8 (H.keep (fun _ _ _ => rfl) (by omega)) (R.keep (fun _ _ _ => rfl) (by omega)) (.inl ⟨rfl, hs'⟩)
   by_cases c1 : more / 2 % 2 = 1
   ·obtain ⟨S, ws, Bp, hS, hP, hws, hBp, hnp, H'⟩ := H
    have hwl := pw_length ws
    have hwn : ws.length = m.parts.length := by rw [← hws, List.length_map]
    rcases H' with ⟨e1, e2, e3, e4⟩ | ⟨e1, e2, Bd, hBd, hnd, hne, e3, e4⟩
    ·exact absurd e4 d2
    obtain ⟨w, hw⟩ : ∃ w, ws[1]? = some w := ⟨_, List.getElem?_eq_getElem (by omega)⟩
    have hwp : m.parts.getD 1 part0 = w.2.2 := by rw [← hws, List.getD_eq_getElem?_getD, List.getElem?_map, hw]; rfl
    have hwm : w.2.2 ∈ m.parts := by rw [← hws]; exact List.mem_map.2 ⟨w, List.mem_of_getElem? hw, rfl⟩
    have rhy := hhy _ hwm
    have hd := pw_drop hw
    rw [pwA_eq] at hd
    simp only [Nat.one_mul, Nat.reduceAdd] at hd
    have ta := M_49 (x := w.2.2.hy) (y := Rat.divInt (more / 4) 1) (by omega)
    rw [hwp] at hJ3
    have H0 : MHeld heap nx 16 vd vp m := ⟨S, ws, Bp, hS, hP, hws, hBp, hnp, .inr ⟨e1, e2, Bd, hBd, hnd, hne, e3, e4⟩⟩
    generalize w.2.2.hy + Rat.divInt (more / 4) 1 = len at *
    subst e1
    simp (maxSteps := 4000000) (disch := first | omega | (simp only [LL]; omega)) only [go_sem, g2, g3, g14, h0, h8, e2, hwl, hwn, hd, n1, ta, replA_1, replA_3]
    refine hJ3 { m with ropes := [⟨0, 1, w.2.2.hx, 0, 0, 0, [(0, 1, 1), (3, 4, 5), (1, 0, 1)], len⟩] } _ _ _ (.sl (nx + 32 + 48 + 152) 0 1 none 23) (by rw [if_pos c1]) (by simp (maxSteps := 4000000) (disch := first | omega | (simp only [LL]; omega)) only [go_sem, g2]) (by simp (maxSteps := 4000000) (disch := first | omega | (simp only [LL]; omega)) only [go_sem, g3]) (by simp (maxSteps := 4000000) (disch := first | omega | (simp only [LL]; omega)) only [go_sem, g14]) (by omega) ?_ ?_ (H0.keep (fun b hb hb2 => ?_) (by omega))
     (.inr ⟨nx + 32 + 48 + 152, nx + 32 + 48 + 72, ⟨0, 1, w.2.2.hx, 0, 0, 0, [(0, 1, 1), (3, 4, 5), (1, 0, 1)], len⟩, by omega, by omega, rfl, rfl, rfl, ?_, ?_⟩)
    ·repeat first | refine Eq.trans (upd_hit (by omega)) ?_ | refine upd_miss (by omega) ?_
     exact h0
    ·repeat first | refine Eq.trans (upd_hit (by omega)) ?_ | refine upd_miss (by omega) ?_
     rfl
    ·repeat first | refine Eq.trans (upd_hit (by omega)) ?_ | refine upd_miss (by omega) ?_
     rfl
    ·repeat first | refine Eq.trans (upd_hit (by omega)) ?_ | refine upd_miss (by omega) ?_
     rfl
    ·repeat first | refine Eq.trans (upd_hit (by omega)) ?_ | refine upd_miss (by omega) ?_
     simp only [q0a, q0b, q0c, q0d]
   ·simp (maxSteps := 4000000) (disch := first | omega | (simp only [LL]; omega)) only [go_sem, g2, g3, g14, h0, h8]
    exact hJ3 m _ _ _ _ (by rw [if_neg c1]) (by simp (maxSteps := 4000000) (disch := first | omega | (simp only [LL]; omega)) only [go_sem, g2]) (by simp (maxSteps := 4000000) (disch := first | omega | (simp only [LL]; omega)) only [go_sem, g3]) (by simp (maxSteps := 4000000) (disch := first | omega | (simp only [LL]; omega)) only [go_sem, g14]) (by omega) h0 h8 (H.keep (fun _ _ _ => rfl) (by omega)) (.inl ⟨rfl, r0⟩)
  by_cases c1 : more % 2 = 1
  ·by_cases c2 : g.m.dofs.length < 6
   ·simp (maxSteps := 4000000) (disch := first | omega | (simp only [LL]; omega)) only [go_sem, g2, g3, h0, h8, L1, T1, T2]
    refine train_step g.m more ⟨by omega, by omega⟩ heap _ 16 vd vp _ _ (by omega) (by omega) (by omega) (by intro h; rw [h] at d2; simp at d2) (H.keep (fun _ _ _ => rfl) (by omega)) _ ?_
    intro vd' vp' h' nx' k2 k3 k4
    have h0' := k3 0 (by omega)
    have h8' := k3 8 (by omega)
    rw [h0] at h0'
    rw [h8] at h8'
    obtain ⟨q1, q2, q3, q4⟩ := trainV_len g.m more
    simp (maxSteps := 4000000) (disch := first | omega | (simp only [LL]; omega)) only [go_sem, g2, g3, h0', h8']
    refine hJ2 (trainV g.m more) _ _ _ vd' vp' (by rw [if_pos ⟨c1, c2⟩]) (by simp (maxSteps := 4000000) (disch := first | omega | (simp only [LL]; omega)) only [go_sem, g2]) (by simp (maxSteps := 4000000) (disch := first | omega | (simp only [LL]; omega)) only [go_sem, g3]) (by simp (maxSteps := 4000000) (disch := first | omega | (simp only [LL]; omega)) only [go_sem]) (by omega) ?_ ?_ (k4.keep (fun b hb hb2 => ?_) (by omega)) (by omega) (by intro h; rw [h] at q1; simp at q1) (by omega) (by omega) (by rw [q3]; exact r0) (by rw [q4]; exact s0) (trainV_hy hhy more)
    ·repeat first | refine Eq.trans (upd_hit (by omega)) ?_ | refine upd_miss (by omega) ?_
     exact h0'
    ·repeat first | refine Eq.trans (upd_hit (by omega)) ?_ | refine upd_miss (by omega) ?_
     rfl
    ·repeat first | refine Eq.trans (upd_hit (by omega)) ?_ | refine upd_miss (by omega) ?_
     rfl
   ·simp (maxSteps := 4000000) (disch := first | omega | (simp only [LL]; omega)) only [go_sem, g2, g3, h0, h8, L1]
    exact hJ2 g.m _ _ _ _ _ (by rw [if_neg (by omega)]) (by simp (maxSteps := 4000000) (disch := first | omega | (simp only [LL]; omega)) only [go_sem, g2]) (by simp (maxSteps := 4000000) (disch := first | omega | (simp only [LL]; omega)) only [go_sem, g3]) (by simp (maxSteps := 4000000) (disch := first | omega | (simp only [LL]; omega)) only [go_sem]) (by omega) h0 h8 (H.keep (fun _ _ _ => rfl) (by omega)) (by omega) (by intro h; rw [h] at d2; simp at d2) (by omega) (by omega) r0 s0 hhy
  ·simp (maxSteps := 4000000) (disch := first | omega | (simp only [LL]; omega)) only [go_sem, g2, g3, h0, h8, L1]
   exact hJ2 g.m _ _ _ _ _ (by rw [if_neg (by omega)]) (by simp (maxSteps := 4000000) (disch := first | omega | (simp only [LL]; omega)) only [go_sem, g2]) (by simp (maxSteps := 4000000) (disch := first | omega | (simp only [LL]; omega)) only [go_sem, g3]) (by simp (maxSteps := 4000000) (disch := first | omega | (simp only [LL]; omega)) only [go_sem]) (by omega) h0 h8 (H.keep (fun _ _ _ => rfl) (by omega)) (by omega) (by intro h; rw [h] at d2; simp at d2) (by omega) (by omega) r0 s0 hhy
 have hgr : gen0 l = ⟨⟨[], [⟨groundP, 0, 0, [], Rat.divInt (atN l 0 4) 2, Rat.divInt (atN l 1 3) 2⟩], [], []⟩, -18, 0, 0⟩ := rfl
 have hgen : genGo l (1 + atN l 2 3).toNat 0 (gen0 l) = genV l := rfl
 generalize atN l 2 3 = nb at *
 refine W_loop X (fun (q : Nat × Nat × GenS) s => genGo l q.1 q.2.1 q.2.2 = genV l ∧ (q.2.1 + q.1 : Int) = 1 + nb ∧ s.env 0 = isl l ∧ s.env 2 = .ptr 0 0 ∧ s.env 3 = .ptr 8 0 ∧ s.env 5 = .int .i64 (1 + nb) ∧ s.env 6 = .int .i64 q.2.2.x ∧ s.env 7 = .int .i64 q.2.2.y ∧ s.env 8 = .int .i64 q.2.2.top ∧ s.env 9 = .int .i64 q.2.1 ∧ 16 ≤ s.next ∧
  s.heap 0 = some (.cells [.ro [] 0 true, .ro [] 0 true, .ro [] 0 true, .ro [] 0 true] false false) ∧ (∃ vd vp, s.heap 8 = some (.cells [vd, vp, .ro [] 0 true, .ro [] 0 true] false false) ∧ MHeld s.heap s.next 16 vd vp q.2.2.m) ∧
  q.2.2.m.dofs.length ≤ 3 * q.2.1 ∧ 2 * q.2.1 ≤ q.2.2.m.dofs.length ∧ q.2.2.m.parts.length = 1 + q.2.1 ∧ q.2.2.m.ropes = [] ∧ q.2.2.m.skip = [] ∧ (-18 ≤ q.2.2.x ∧ q.2.2.x ≤ 10 * q.2.1 - 18) ∧ (0 ≤ q.2.2.top ∧ q.2.2.top ≤ 6 * q.2.1) ∧ (∀ p ∈ q.2.2.m.parts, RS p.hy 1)) (fun q => q.1) ?_ ((1 + nb).toNat, 0, gen0 l) _ ?_
 ·clear o1 o2 t0 t1 t2 hgr hgen
  rintro ⟨k, i, g⟩ ⟨env, heap, nx⟩ ⟨hG, hik, g0, g2, g3, g5, g6, g7, g8, g9, hnx, h0, ⟨vd, vp, h8, H⟩, d1, d2, d3, d4, d5, ⟨x1, x2⟩, ⟨y1, y2⟩, hhy⟩
  simp only at hG hik g0 g2 g3 g5 g6 g7 g8 g9 hnx h0 h8 H d1 d2 d3 d4 d5 x1 x2 y1 y2 hhy
  obtain ⟨L1, L2⟩ := mheld_len H
  obtain ⟨T1, T2, T3, T4⟩ := mheld_tup H
  by_cases hk : k = 0
  ·subst hk
   have : (i : Int) = 1 + nb := by omega
   simp (maxSteps := 4000000) (disch := first | omega | (simp only [LL]; omega)) only [go_sem, g0, g2, g3, g5, g6, g7, g8, g9, h0, h8, L1, L2]
   exact hJ g _ _ _ vd vp hG (by simp (maxSteps := 4000000) (disch := first | omega | (simp only [LL]; omega)) only [go_sem, g0]) (by simp (maxSteps := 4000000) (disch := first | omega | (simp only [LL]; omega)) only [go_sem, g2]) (by simp (maxSteps := 4000000) (disch := first | omega | (simp only [LL]; omega)) only [go_sem, g3]) (by omega) h0 h8 (H.keep (fun _ _ _ => rfl) (by omega)) (by omega) (by omega) (by omega) (by omega) d4 d5 hhy
  ·obtain ⟨k, rfl⟩ : ∃ k', k = k' + 1 := ⟨k - 1, by omega⟩
   have hi : (i : Int) < 1 + nb := by omega
   by_cases h5 : g.m.dofs.length < 5
   ·have hG' : genGo l k (i + 1) (stepV g (atN l (4 + 2 * i) 432) (atN l (5 + 2 * i) 7)) = genV l := by
     rw [← hG, genGo, if_pos h5]
    have a1 := M_45 l ((4 + 2 * i : Nat) : Int) 432 hl (by omega) (by omega)
    have a2 := M_45 l ((5 + 2 * i : Nat) : Int) 7 hl (by omega) (by omega)
    rw [Int.toNat_natCast] at a1 a2
    have c1 := atN_bd l (4 + 2 * i) 432 (by omega)
    have c2 := atN_bd l (5 + 2 * i) 7 (by omega)
    have u1 : (4 : Int) + 2 * (i : Int) = ((4 + 2 * i : Nat) : Int) := by omega
    have u2 : (5 : Int) + 2 * (i : Int) = ((5 + 2 * i : Nat) : Int) := by omega
    generalize atN l (4 + 2 * i) 432 = n at *
    generalize atN l (5 + 2 * i) 7 = how at *
    have v1 := M_46 n ⟨by omega, by omega⟩
    have hgt1 := hgt_bd (arnd n 6)
    have shl := shp_len (arnd n 6)
    have hptl := ptC_length (shp (arnd n 6))
    unfold stepV at hG'
    simp only at hG'
    generalize arnd n 6 = sk at *
    by_cases cA : 0 < g.top ∧ how < 3
    ·rw [if_pos cA, if_pos cA] at hG'
     rw [show decide (how = 6 ∧ g.m.dofs.length < 4) = false from decide_eq_false (by omega)] at hG'
     simp (maxSteps := 4000000) (disch := first | omega | (simp only [LL]; omega)) only [go_sem, g0, g2, g3, g5, g6, g7, g8, g9, h0, h8, L1, L2, T1, T2, u1, u2, a1, a2, v1, hptl, weaks_ptC]
     refine block_step g.m (shp sk) (by omega) _ _ _ ⟨by omega, by omega⟩ ⟨by omega, by omega⟩ ⟨by omega, by omega⟩ _ heap _ 16 vd vp _ _ (by omega) (by omega) (by omega) (H.keep (fun _ _ _ => rfl) (by omega)) _ ?_
     intro vd' vp' h' nx' k2 k3 k4
     have h0' := k3 0 (by omega)
     have h8' := k3 8 (by omega)
     rw [h0] at h0'
     rw [h8] at h8'
     obtain ⟨q1, q2, q3, q4⟩ := blockV_len g.m (shp sk) (g.x) (g.top) (n / 6) false
     have q5 := blockV_hy hhy (s := shp sk) (x := g.x) (y := g.top) (n := n / 6) (w := false) ⟨by omega, by omega⟩
     simp only [Bool.false_eq_true, if_false, if_true] at q1
     generalize blockV g.m (shp sk) (g.x) (g.top) (n / 6) false = M' at *
     by_cases hz : 0 < hgt sk
     ·rw [if_pos hz] at hG'
      simp (maxSteps := 4000000) (disch := first | omega | (simp only [LL]; omega)) only [go_sem, g0, g2, g3, g5, g6, g7, g8, g9, h0', h8', outC_ret]
      refine ⟨(k, i + 1, _), ⟨hG', ?_⟩, by omega⟩
      repeat' apply And.intro
      all_goals try dsimp only
      all_goals first | omega | rfl | (congr 1; omega) | exact h0' | exact ⟨vd', vp', rfl, k4.keep (fun b hb _ => by simp only [upd_apply]; rw [if_neg (by omega)]) (by omega)⟩ | (rw [q3]; exact d4) | (rw [q4]; exact d5) | exact q5
     ·rw [if_neg hz] at hG'
      simp (maxSteps := 4000000) (disch := first | omega | (simp only [LL]; omega)) only [go_sem, g0, g2, g3, g5, g6, g7, g8, g9, h0', h8', outC_ret]
      refine ⟨(k, i + 1, _), ⟨hG', ?_⟩, by omega⟩
      repeat' apply And.intro
      all_goals try dsimp only
      all_goals first | omega | rfl | (congr 1; omega) | exact h0' | exact ⟨vd', vp', rfl, k4.keep (fun b hb _ => by simp only [upd_apply]; rw [if_neg (by omega)]) (by omega)⟩ | (rw [q3]; exact d4) | (rw [q4]; exact d5) | exact q5
    ·rw [if_neg cA, if_neg cA] at hG'
     have cA' : ¬ (0 < g.top) ∨ ¬ (how < 3) := by omega
     by_cases ct : 0 < g.top
     ·have ch : ¬ how < 3 := by omega
      by_cases cB : 4 < how
      ·rw [if_pos cB] at hG'
       by_cases c6 : how = 6
       ·by_cases c4 : g.m.dofs.length < 4
        ·rw [show decide (how = 6 ∧ g.m.dofs.length < 4) = true from decide_eq_true ⟨by omega, by omega⟩] at hG'
         simp (maxSteps := 4000000) (disch := first | omega | (simp only [LL]; omega)) only [go_sem, g0, g2, g3, g5, g6, g7, g8, g9, h0, h8, L1, L2, T1, T2, u1, u2, a1, a2, v1, hptl, weaks_ptC]
         refine block_step g.m (shp sk) (by omega) _ _ _ ⟨by omega, by omega⟩ ⟨by omega, by omega⟩ ⟨by omega, by omega⟩ _ heap _ 16 vd vp _ _ (by omega) (by omega) (by omega) (H.keep (fun _ _ _ => rfl) (by omega)) _ ?_
         intro vd' vp' h' nx' k2 k3 k4
         have h0' := k3 0 (by omega)
         have h8' := k3 8 (by omega)
         rw [h0] at h0'
         rw [h8] at h8'
         obtain ⟨q1, q2, q3, q4⟩ := blockV_len g.m (shp sk) (g.x + 10) (1 + n % 4) (n / 6) true
         have q5 := blockV_hy hhy (s := shp sk) (x := g.x + 10) (y := 1 + n % 4) (n := n / 6) (w := true) ⟨by omega, by omega⟩
         simp only [Bool.false_eq_true, if_false, if_true] at q1
         generalize blockV g.m (shp sk) (g.x + 10) (1 + n % 4) (n / 6) true = M' at *
         by_cases hz : 0 < hgt sk
         ·rw [if_pos hz] at hG'
          simp (maxSteps := 4000000) (disch := first | omega | (simp only [LL]; omega)) only [go_sem, g0, g2, g3, g5, g6, g7, g8, g9, h0', h8', outC_ret]
          refine ⟨(k, i + 1, _), ⟨hG', ?_⟩, by omega⟩
          repeat' apply And.intro
          all_goals try dsimp only
          all_goals first | omega | rfl | (congr 1; omega) | exact h0' | exact ⟨vd', vp', rfl, k4.keep (fun b hb _ => by simp only [upd_apply]; rw [if_neg (by omega)]) (by omega)⟩ | (rw [q3]; exact d4) | (rw [q4]; exact d5) | exact q5
         ·rw [if_neg hz] at hG'
          simp (maxSteps := 4000000) (disch := first | omega | (simp only [LL]; omega)) only [go_sem, g0, g2, g3, g5, g6, g7, g8, g9, h0', h8', outC_ret]
          refine ⟨(k, i + 1, _), ⟨hG', ?_⟩, by omega⟩
          repeat' apply And.intro
          all_goals try dsimp only
          all_goals first | omega | rfl | (congr 1; omega) | exact h0' | exact ⟨vd', vp', rfl, k4.keep (fun b hb _ => by simp only [upd_apply]; rw [if_neg (by omega)]) (by omega)⟩ | (rw [q3]; exact d4) | (rw [q4]; exact d5) | exact q5
        ·rw [show decide (how = 6 ∧ g.m.dofs.length < 4) = false from decide_eq_false (by omega)] at hG'
         simp (maxSteps := 4000000) (disch := first | omega | (simp only [LL]; omega)) only [go_sem, g0, g2, g3, g5, g6, g7, g8, g9, h0, h8, L1, L2, T1, T2, u1, u2, a1, a2, v1, hptl, weaks_ptC]
         refine block_step g.m (shp sk) (by omega) _ _ _ ⟨by omega, by omega⟩ ⟨by omega, by omega⟩ ⟨by omega, by omega⟩ _ heap _ 16 vd vp _ _ (by omega) (by omega) (by omega) (H.keep (fun _ _ _ => rfl) (by omega)) _ ?_
         intro vd' vp' h' nx' k2 k3 k4
         have h0' := k3 0 (by omega)
         have h8' := k3 8 (by omega)
         rw [h0] at h0'
         rw [h8] at h8'
         obtain ⟨q1, q2, q3, q4⟩ := blockV_len g.m (shp sk) (g.x + 10) (1 + n % 4) (n / 6) false
         have q5 := blockV_hy hhy (s := shp sk) (x := g.x + 10) (y := 1 + n % 4) (n := n / 6) (w := false) ⟨by omega, by omega⟩
         simp only [Bool.false_eq_true, if_false, if_true] at q1
         generalize blockV g.m (shp sk) (g.x + 10) (1 + n % 4) (n / 6) false = M' at *
         by_cases hz : 0 < hgt sk
         ·rw [if_pos hz] at hG'
          simp (maxSteps := 4000000) (disch := first | omega | (simp only [LL]; omega)) only [go_sem, g0, g2, g3, g5, g6, g7, g8, g9, h0', h8', outC_ret]
          refine ⟨(k, i + 1, _), ⟨hG', ?_⟩, by omega⟩
          repeat' apply And.intro
          all_goals try dsimp only
          all_goals first | omega | rfl | (congr 1; omega) | exact h0' | exact ⟨vd', vp', rfl, k4.keep (fun b hb _ => by simp only [upd_apply]; rw [if_neg (by omega)]) (by omega)⟩ | (rw [q3]; exact d4) | (rw [q4]; exact d5) | exact q5
         ·rw [if_neg hz] at hG'
          simp (maxSteps := 4000000) (disch := first | omega | (simp only [LL]; omega)) only [go_sem, g0, g2, g3, g5, g6, g7, g8, g9, h0', h8', outC_ret]
          refine ⟨(k, i + 1, _), ⟨hG', ?_⟩, by omega⟩
          repeat' apply And.intro
          all_goals try dsimp only
          all_goals first | omega | rfl | (congr 1; omega) | exact h0' | exact ⟨vd', vp', rfl, k4.keep (fun b hb _ => by simp only [upd_apply]; rw [if_neg (by omega)]) (by omega)⟩ | (rw [q3]; exact d4) | (rw [q4]; exact d5) | exact q5
       ·rw [show decide (how = 6 ∧ g.m.dofs.length < 4) = false from decide_eq_false (by omega)] at hG'
        simp (maxSteps := 4000000) (disch := first | omega | (simp only [LL]; omega)) only [go_sem, g0, g2, g3, g5, g6, g7, g8, g9, h0, h8, L1, L2, T1, T2, u1, u2, a1, a2, v1, hptl, weaks_ptC]
        refine block_step g.m (shp sk) (by omega) _ _ _ ⟨by omega, by omega⟩ ⟨by omega, by omega⟩ ⟨by omega, by omega⟩ _ heap _ 16 vd vp _ _ (by omega) (by omega) (by omega) (H.keep (fun _ _ _ => rfl) (by omega)) _ ?_
        intro vd' vp' h' nx' k2 k3 k4
        have h0' := k3 0 (by omega)
        have h8' := k3 8 (by omega)
        rw [h0] at h0'
        rw [h8] at h8'
        obtain ⟨q1, q2, q3, q4⟩ := blockV_len g.m (shp sk) (g.x + 10) (1 + n % 4) (n / 6) false
        have q5 := blockV_hy hhy (s := shp sk) (x := g.x + 10) (y := 1 + n % 4) (n := n / 6) (w := false) ⟨by omega, by omega⟩
        simp only [Bool.false_eq_true, if_false, if_true] at q1
        generalize blockV g.m (shp sk) (g.x + 10) (1 + n % 4) (n / 6) false = M' at *
        by_cases hz : 0 < hgt sk
        ·rw [if_pos hz] at hG'
         simp (maxSteps := 4000000) (disch := first | omega | (simp only [LL]; omega)) only [go_sem, g0, g2, g3, g5, g6, g7, g8, g9, h0', h8', outC_ret]
         refine ⟨(k, i + 1, _), ⟨hG', ?_⟩, by omega⟩
         repeat' apply And.intro
         all_goals try dsimp only
         all_goals first | omega | rfl | (congr 1; omega) | exact h0' | exact ⟨vd', vp', rfl, k4.keep (fun b hb _ => by simp only [upd_apply]; rw [if_neg (by omega)]) (by omega)⟩ | (rw [q3]; exact d4) | (rw [q4]; exact d5) | exact q5
        ·rw [if_neg hz] at hG'
         simp (maxSteps := 4000000) (disch := first | omega | (simp only [LL]; omega)) only [go_sem, g0, g2, g3, g5, g6, g7, g8, g9, h0', h8', outC_ret]
         refine ⟨(k, i + 1, _), ⟨hG', ?_⟩, by omega⟩
         repeat' apply And.intro
         all_goals try dsimp only
         all_goals first | omega | rfl | (congr 1; omega) | exact h0' | exact ⟨vd', vp', rfl, k4.keep (fun b hb _ => by simp only [upd_apply]; rw [if_neg (by omega)]) (by omega)⟩ | (rw [q3]; exact d4) | (rw [q4]; exact d5) | exact q5
      ·rw [if_neg cB] at hG'
       rw [show decide (how = 6 ∧ g.m.dofs.length < 4) = false from decide_eq_false (by omega)] at hG'
       simp (maxSteps := 4000000) (disch := first | omega | (simp only [LL]; omega)) only [go_sem, g0, g2, g3, g5, g6, g7, g8, g9, h0, h8, L1, L2, T1, T2, u1, u2, a1, a2, v1, hptl, weaks_ptC]
       refine block_step g.m (shp sk) (by omega) _ _ _ ⟨by omega, by omega⟩ ⟨by omega, by omega⟩ ⟨by omega, by omega⟩ _ heap _ 16 vd vp _ _ (by omega) (by omega) (by omega) (H.keep (fun _ _ _ => rfl) (by omega)) _ ?_
       intro vd' vp' h' nx' k2 k3 k4
       have h0' := k3 0 (by omega)
       have h8' := k3 8 (by omega)
       rw [h0] at h0'
       rw [h8] at h8'
       obtain ⟨q1, q2, q3, q4⟩ := blockV_len g.m (shp sk) (g.x + 10) (0) (n / 6) false
       have q5 := blockV_hy hhy (s := shp sk) (x := g.x + 10) (y := 0) (n := n / 6) (w := false) ⟨by omega, by omega⟩
       simp only [Bool.false_eq_true, if_false, if_true] at q1
       generalize blockV g.m (shp sk) (g.x + 10) (0) (n / 6) false = M' at *
       by_cases hz : 0 < hgt sk
       ·rw [if_pos hz] at hG'
        simp (maxSteps := 4000000) (disch := first | omega | (simp only [LL]; omega)) only [go_sem, g0, g2, g3, g5, g6, g7, g8, g9, h0', h8', outC_ret]
        refine ⟨(k, i + 1, _), ⟨hG', ?_⟩, by omega⟩
        repeat' apply And.intro
        all_goals try dsimp only
        all_goals first | omega | rfl | (congr 1; omega) | exact h0' | exact ⟨vd', vp', rfl, k4.keep (fun b hb _ => by simp only [upd_apply]; rw [if_neg (by omega)]) (by omega)⟩ | (rw [q3]; exact d4) | (rw [q4]; exact d5) | exact q5
       ·rw [if_neg hz] at hG'
        simp (maxSteps := 4000000) (disch := first | omega | (simp only [LL]; omega)) only [go_sem, g0, g2, g3, g5, g6, g7, g8, g9, h0', h8', outC_ret]
        refine ⟨(k, i + 1, _), ⟨hG', ?_⟩, by omega⟩
        repeat' apply And.intro
        all_goals try dsimp only
        all_goals first | omega | rfl | (congr 1; omega) | exact h0' | exact ⟨vd', vp', rfl, k4.keep (fun b hb _ => by simp only [upd_apply]; rw [if_neg (by omega)]) (by omega)⟩ | (rw [q3]; exact d4) | (rw [q4]; exact d5) | exact q5
     ·by_cases cB : 4 < how
      ·rw [if_pos cB] at hG'
       by_cases c6 : how = 6
       ·by_cases c4 : g.m.dofs.length < 4
        ·rw [show decide (how = 6 ∧ g.m.dofs.length < 4) = true from decide_eq_true ⟨by omega, by omega⟩] at hG'
         simp (maxSteps := 4000000) (disch := first | omega | (simp only [LL]; omega)) only [go_sem, g0, g2, g3, g5, g6, g7, g8, g9, h0, h8, L1, L2, T1, T2, u1, u2, a1, a2, v1, hptl, weaks_ptC]
         refine block_step g.m (shp sk) (by omega) _ _ _ ⟨by omega, by omega⟩ ⟨by omega, by omega⟩ ⟨by omega, by omega⟩ _ heap _ 16 vd vp _ _ (by omega) (by omega) (by omega) (H.keep (fun _ _ _ => rfl) (by omega)) _ ?_
         intro vd' vp' h' nx' k2 k3 k4
         have h0' := k3 0 (by omega)
         have h8' := k3 8 (by omega)
         rw [h0] at h0'
         rw [h8] at h8'
         obtain ⟨q1, q2, q3, q4⟩ := blockV_len g.m (shp sk) (g.x + 10) (1 + n % 4) (n / 6) true
         have q5 := blockV_hy hhy (s := shp sk) (x := g.x + 10) (y := 1 + n % 4) (n := n / 6) (w := true) ⟨by omega, by omega⟩
         simp only [Bool.false_eq_true, if_false, if_true] at q1
         generalize blockV g.m (shp sk) (g.x + 10) (1 + n % 4) (n / 6) true = M' at *
         by_cases hz : 0 < hgt sk
         ·rw [if_pos hz] at hG'
          simp (maxSteps := 4000000) (disch := first | omega | (simp only [LL]; omega)) only [go_sem, g0, g2, g3, g5, g6, g7, g8, g9, h0', h8', outC_ret]
          refine ⟨(k, i + 1, _), ⟨hG', ?_⟩, by omega⟩
          repeat' apply And.intro
          all_goals try dsimp only
          all_goals first | omega | rfl | (congr 1; omega) | exact h0' | exact ⟨vd', vp', rfl, k4.keep (fun b hb _ => by simp only [upd_apply]; rw [if_neg (by omega)]) (by omega)⟩ | (rw [q3]; exact d4) | (rw [q4]; exact d5) | exact q5
         ·rw [if_neg hz] at hG'
          simp (maxSteps := 4000000) (disch := first | omega | (simp only [LL]; omega)) only [go_sem, g0, g2, g3, g5, g6, g7, g8, g9, h0', h8', outC_ret]
          refine ⟨(k, i + 1, _), ⟨hG', ?_⟩, by omega⟩
          repeat' apply And.intro
          all_goals try dsimp only
          all_goals first | omega | rfl | (congr 1; omega) | exact h0' | exact ⟨vd', vp', rfl, k4.keep (fun b hb _ => by simp only [upd_apply]; rw [if_neg (by omega)]) (by omega)⟩ | (rw [q3]; exact d4) | (rw [q4]; exact d5) | exact q5
        ·rw [show decide (how = 6 ∧ g.m.dofs.length < 4) = false from decide_eq_false (by omega)] at hG'
         simp (maxSteps := 4000000) (disch := first | omega | (simp only [LL]; omega)) only [go_sem, g0, g2, g3, g5, g6, g7, g8, g9, h0, h8, L1, L2, T1, T2, u1, u2, a1, a2, v1, hptl, weaks_ptC]
         refine block_step g.m (shp sk) (by omega) _ _ _ ⟨by omega, by omega⟩ ⟨by omega, by omega⟩ ⟨by omega, by omega⟩ _ heap _ 16 vd vp _ _ (by omega) (by omega) (by omega) (H.keep (fun _ _ _ => rfl) (by omega)) _ ?_
         intro vd' vp' h' nx' k2 k3 k4
         have h0' := k3 0 (by omega)
         have h8' := k3 8 (by omega)
         rw [h0] at h0'
         rw [h8] at h8'
         obtain ⟨q1, q2, q3, q4⟩ := blockV_len g.m (shp sk) (g.x + 10) (1 + n % 4) (n / 6) false
         have q5 := blockV_hy hhy (s := shp sk) (x := g.x + 10) (y := 1 + n % 4) (n := n / 6) (w := false) ⟨by omega, by omega⟩
         simp only [Bool.false_eq_true, if_false, if_true] at q1
         generalize blockV g.m (shp sk) (g.x + 10) (1 + n % 4) (n / 6) false = M' at *
         by_cases hz : 0 < hgt sk
         ·rw [if_pos hz] at hG'
          simp (maxSteps := 4000000) (disch := first | omega | (simp only [LL]; omega)) only [go_sem, g0, g2, g3, g5, g6, g7, g8, g9, h0', h8', outC_ret]
          refine ⟨(k, i + 1, _), ⟨hG', ?_⟩, by omega⟩
          repeat' apply And.intro
          all_goals try dsimp only
          all_goals first | omega | rfl | (congr 1; omega) | exact h0' | exact ⟨vd', vp', rfl, k4.keep (fun b hb _ => by simp only [upd_apply]; rw [if_neg (by omega)]) (by omega)⟩ | (rw [q3]; exact d4) | (rw [q4]; exact d5) | exact q5
         ·rw [if_neg hz] at hG'
          simp (maxSteps := 4000000) (disch := first | omega | (simp only [LL]; omega)) only [go_sem, g0, g2, g3, g5, g6, g7, g8, g9, h0', h8', outC_ret]
          refine ⟨(k, i + 1, _), ⟨hG', ?_⟩, by omega⟩
          repeat' apply And.intro
          all_goals try dsimp only
          all_goals first | omega | rfl | (congr 1; omega) | exact h0' | exact ⟨vd', vp', rfl, k4.keep (fun b hb _ => by simp only [upd_apply]; rw [if_neg (by omega)]) (by omega)⟩ | (rw [q3]; exact d4) | (rw [q4]; exact d5) | exact q5
       ·rw [show decide (how = 6 ∧ g.m.dofs.length < 4) = false from decide_eq_false (by omega)] at hG'
        simp (maxSteps := 4000000) (disch := first | omega | (simp only [LL]; omega)) only [go_sem, g0, g2, g3, g5, g6, g7, g8, g9, h0, h8, L1, L2, T1, T2, u1, u2, a1, a2, v1, hptl, weaks_ptC]
        refine block_step g.m (shp sk) (by omega) _ _ _ ⟨by omega, by omega⟩ ⟨by omega, by omega⟩ ⟨by omega, by omega⟩ _ heap _ 16 vd vp _ _ (by omega) (by omega) (by omega) (H.keep (fun _ _ _ => rfl) (by omega)) _ ?_
        intro vd' vp' h' nx' k2 k3 k4
        have h0' := k3 0 (by omega)
        have h8' := k3 8 (by omega)
        rw [h0] at h0'
        rw [h8] at h8'
        obtain ⟨q1, q2, q3, q4⟩ := blockV_len g.m (shp sk) (g.x + 10) (1 + n % 4) (n / 6) false
        have q5 := blockV_hy hhy (s := shp sk) (x := g.x + 10) (y := 1 + n % 4) (n := n / 6) (w := false) ⟨by omega, by omega⟩
        simp only [Bool.false_eq_true, if_false, if_true] at q1
        generalize blockV g.m (shp sk) (g.x + 10) (1 + n % 4) (n / 6) false = M' at *
        by_cases hz : 0 < hgt sk
        ·rw [if_pos hz] at hG'
         simp (maxSteps := 4000000) (disch := first | omega | (simp only [LL]; omega)) only [go_sem, g0, g2, g3, g5, g6, g7, g8, g9, h0', h8', outC_ret]
         refine ⟨(k, i + 1, _), ⟨hG', ?_⟩, by omega⟩
         repeat' apply And.intro
         all_goals try dsimp only
         all_goals first | omega | rfl | (congr 1; omega) | exact h0' | exact ⟨vd', vp', rfl, k4.keep (fun b hb _ => by simp only [upd_apply]; rw [if_neg (by omega)]) (by omega)⟩ | (rw [q3]; exact d4) | (rw [q4]; exact d5) | exact q5
        ·rw [if_neg hz] at hG'
         simp (maxSteps := 4000000) (disch := first | omega | (simp only [LL]; omega)) only [go_sem, g0, g2, g3, g5, g6, g7, g8, g9, h0', h8', outC_ret]
         refine ⟨(k, i + 1, _), ⟨hG', ?_⟩, by omega⟩
         repeat' apply And.intro
         all_goals try dsimp only
         all_goals first | omega | rfl | (congr 1; omega) | exact h0' | exact ⟨vd', vp', rfl, k4.keep (fun b hb _ => by simp only [upd_apply]; rw [if_neg (by omega)]) (by omega)⟩ | (rw [q3]; exact d4) | (rw [q4]; exact d5) | exact q5
      ·rw [if_neg cB] at hG'
       rw [show decide (how = 6 ∧ g.m.dofs.length < 4) = false from decide_eq_false (by omega)] at hG'
       simp (maxSteps := 4000000) (disch := first | omega | (simp only [LL]; omega)) only [go_sem, g0, g2, g3, g5, g6, g7, g8, g9, h0, h8, L1, L2, T1, T2, u1, u2, a1, a2, v1, hptl, weaks_ptC]
       refine block_step g.m (shp sk) (by omega) _ _ _ ⟨by omega, by omega⟩ ⟨by omega, by omega⟩ ⟨by omega, by omega⟩ _ heap _ 16 vd vp _ _ (by omega) (by omega) (by omega) (H.keep (fun _ _ _ => rfl) (by omega)) _ ?_
       intro vd' vp' h' nx' k2 k3 k4
       have h0' := k3 0 (by omega)
       have h8' := k3 8 (by omega)
       rw [h0] at h0'
       rw [h8] at h8'
       obtain ⟨q1, q2, q3, q4⟩ := blockV_len g.m (shp sk) (g.x + 10) (0) (n / 6) false
       have q5 := blockV_hy hhy (s := shp sk) (x := g.x + 10) (y := 0) (n := n / 6) (w := false) ⟨by omega, by omega⟩
       simp only [Bool.false_eq_true, if_false, if_true] at q1
       generalize blockV g.m (shp sk) (g.x + 10) (0) (n / 6) false = M' at *
       by_cases hz : 0 < hgt sk
       ·rw [if_pos hz] at hG'
        simp (maxSteps := 4000000) (disch := first | omega | (simp only [LL]; omega)) only [go_sem, g0, g2, g3, g5, g6, g7, g8, g9, h0', h8', outC_ret]
        refine ⟨(k, i + 1, _), ⟨hG', ?_⟩, by omega⟩
        repeat' apply And.intro
        all_goals try dsimp only
        all_goals first | omega | rfl | (congr 1; omega) | exact h0' | exact ⟨vd', vp', rfl, k4.keep (fun b hb _ => by simp only [upd_apply]; rw [if_neg (by omega)]) (by omega)⟩ | (rw [q3]; exact d4) | (rw [q4]; exact d5) | exact q5
       ·rw [if_neg hz] at hG'
        simp (maxSteps := 4000000) (disch := first | omega | (simp only [LL]; omega)) only [go_sem, g0, g2, g3, g5, g6, g7, g8, g9, h0', h8', outC_ret]
        refine ⟨(k, i + 1, _), ⟨hG', ?_⟩, by omega⟩
        repeat' apply And.intro
        all_goals try dsimp only
        all_goals first | omega | rfl | (congr 1; omega) | exact h0' | exact ⟨vd', vp', rfl, k4.keep (fun b hb _ => by simp only [upd_apply]; rw [if_neg (by omega)]) (by omega)⟩ | (rw [q3]; exact d4) | (rw [q4]; exact d5) | exact q5
   ·have hG' : g = genV l := by rw [← hG, genGo, if_neg h5]
    simp (maxSteps := 4000000) (disch := first | omega | (simp only [LL]; omega)) only [go_sem, g0, g2, g3, g5, g6, g7, g8, g9, h0, h8, L1, L2]
    exact hJ g _ _ _ vd vp hG' (by simp (maxSteps := 4000000) (disch := first | omega | (simp only [LL]; omega)) only [go_sem, g0]) (by simp (maxSteps := 4000000) (disch := first | omega | (simp only [LL]; omega)) only [go_sem, g2]) (by simp (maxSteps := 4000000) (disch := first | omega | (simp only [LL]; omega)) only [go_sem, g3]) (by omega) h0 h8 (H.keep (fun _ _ _ => rfl) (by omega)) (by omega) (by omega) (by omega) (by omega) d4 d5 hhy
 ·simp (maxSteps := 4000000) (disch := first | omega | (simp only [LL]; omega)) only [go_sem]
  refine ⟨hgen, by omega, rfl, rfl, rfl, ⟨_, _, rfl, ?_⟩, ?_⟩
  ·refine ⟨[48], [(.sl 48 0 4 (some 4) 2, .ro [] 0 false, ⟨groundP, 0, 0, [], Rat.divInt (atN l 0 4) 2, Rat.divInt (atN l 1 3) 2⟩)], 128, by intro b hb; simp at hb; omega, ?_, rfl, by omega, by simp, .inl ⟨rfl, ?_, rfl, rfl⟩⟩
   ·intro w hw
    simp only [List.mem_cons, List.not_mem_nil, or_false] at hw
    subst hw
    exact ⟨.inr ⟨48, _, false, false, by simp, rfl, rfl, rfl⟩, .inl ⟨_, rfl⟩⟩
   ·simp only [cat_cons, cat_nil, pwA_eq, q0a, q0b, q0c, q0d, List.append_nil]
    rfl
  ·refine ⟨by simp [gen0], by simp [gen0], by simp [gen0], by simp [gen0], by simp [gen0], by simp [gen0], ?_⟩
   intro p hp
   simp only [gen0, List.mem_cons, List.not_mem_nil, or_false] at hp
   subst hp
   exact rs_zero
def st0 (m : MdlR) (l : List Int) : StaR := { startV m with tick := atN l 0 9, here := if atN l 1 5 = 0 ∧ 2 < m.parts.length then (List.replicate m.parts.length true).set (m.parts.length - 1) false else List.replicate m.parts.length true }
def mvQ (n : Int) : Rat := Rat.divInt (2 * n - 3) (2 + n % 2)
def moveT (s : StaR) (i : Nat) (n : Int) : StaR := { s with q := s.q.set i (mvQ n) }
def moveS (m : MdlR) (l : List Int) (i : Nat) (s : StaR) : StaR :=
 if atN l (2 + 2 * i) 12 < 4 then (if fitV m (moveT s i (atN l (2 + 2 * i) 12)) = 0 then moveT s i (atN l (2 + 2 * i) 12) else s) else s
def movesK (m : MdlR) (l : List Int) : Nat → StaR
 | 0 => st0 m l
 | i + 1 => moveS m l i (movesK m l i)
def velS (live : List Bool) (l : List Int) (i : Nat) (s : StaR) : StaR :=
 if live.getD i false = true ∧ atN l (3 + 2 * i) 20 < 12 then { s with v := s.v.set i (Rat.divInt (atN l (3 + 2 * i) 20 - 5) 4) } else s
def velsK (m : MdlR) (l : List Int) (s : StaR) : Nat → StaR
 | 0 => s
 | i + 1 => velS (liveV m s.here) l i (velsK m l s i)
def stateV (m : MdlR) (l : List Int) : StaR := velsK m l (movesK m l m.dofs.length) m.dofs.length
theorem set_rs {l : List Rat} {N : Nat} (h : ∀ x ∈ l, RS x N) (i : Nat) {y : Rat} (hy : RS y N) : ∀ x ∈ l.set i y, RS x N := by
 intro x hx
 rcases List.mem_or_eq_of_mem_set hx with hx | rfl
 ·exact h x hx
 ·exact hy
theorem mvQ_rs {n : Int} (h : 0 ≤ n ∧ n < 12) : RS (mvQ n) 1 := rs_small (by omega) (by omega)
theorem good_st0 {m : MdlR} {l : List Int} {N : Nat} (hN : 1 ≤ N) : GoodS m (st0 m l) N where
 tick := by have := atN_bd l 0 9 (by omega); exact ⟨by show _ ≤ atN l 0 9; omega, by show atN l 0 9 ≤ _; omega⟩
 ql := List.length_replicate
 vl := List.length_replicate
 hl := by show (if _ then _ else _ : List Bool).length = _; split <;> simp
 q := fun x hx => by rw [List.eq_of_mem_replicate hx]; exact rs_zero.mono hN
 v := fun x hx => by rw [List.eq_of_mem_replicate hx]; exact rs_zero.mono hN
theorem good_move {m : MdlR} {s : StaR} {N : Nat} (hN : 1 ≤ N) (h : GoodS m s N) (i : Nat) {n : Int} (hn : 0 ≤ n ∧ n < 12) : GoodS m (moveT s i n) N where
 tick := h.tick
 ql := by show (s.q.set i _).length = _; rw [List.length_set]; exact h.ql
 vl := h.vl
 hl := h.hl
 q := set_rs h.q i ((mvQ_rs hn).mono hN)
 v := h.v
theorem good_moveS {m : MdlR} {l : List Int} {s : StaR} {N : Nat} (hN : 1 ≤ N) (h : GoodS m s N) (i : Nat) : GoodS m (moveS m l i s) N := by
 have := atN_bd l (2 + 2 * i) 12 (by omega)
 unfold moveS
 split
 ·split
  ·exact good_move hN h i ⟨by omega, by omega⟩
  ·exact h
 ·exact h
theorem good_moves {m : MdlR} {l : List Int} {N : Nat} (hN : 1 ≤ N) : ∀ i, GoodS m (movesK m l i) N
 | 0 => good_st0 hN
 | i + 1 => good_moveS hN (good_moves hN i) i
theorem moves_tick (m : MdlR) (l : List Int) : ∀ i, (movesK m l i).tick = atN l 0 9
 | 0 => rfl
 | i + 1 => by
  have := moves_tick m l i
  show (moveS m l i _).tick = _
  unfold moveS
  split
  ·split
   ·exact this
   ·exact this
  ·exact this
theorem good_vels {m : MdlR} {l : List Int} {s : StaR} {N : Nat} (hN : 1 ≤ N) (h : GoodS m s N) : ∀ i, GoodS m (velsK m l s i) N ∧ (velsK m l s i).here = s.here ∧ (velsK m l s i).tick = s.tick ∧ (velsK m l s i).q = s.q
 | 0 => ⟨h, rfl, rfl, rfl⟩
 | i + 1 => by
  obtain ⟨g, h1, h2, h3⟩ := good_vels (l := l) hN h i
  have b := atN_bd l (3 + 2 * i) 20 (by omega)
  show GoodS m (velS _ l i _) N ∧ (velS _ l i _).here = _ ∧ (velS _ l i _).tick = _ ∧ (velS _ l i _).q = _
  unfold velS
  split
  ·refine ⟨⟨g.tick, g.ql, ?_, g.hl, g.q, ?_⟩, h1, h2, h3⟩
   ·show (List.set _ _ _).length = _; rw [List.length_set]; exact g.vl
   ·exact set_rs g.v i ((rs_small (by omega) (by decide)).mono hN)
  ·exact ⟨g, h1, h2, h3⟩
theorem sta_snap {h : Heap} {lo nx ne : Nat} {vq vv vh : AV} {s : StaR} (H : StaH h lo nx ne vq vv vh s) (d : Nat) :
  (∃ ids, snap h (d + 2) vq = some (.ro (cat ratA s.q) s.q.length false, ids)) ∧ (∃ ids, snap h (d + 2) vv = some (.ro (cat ratA s.v) s.v.length false, ids)) ∧ ∃ ids, snap h (d + 2) vh = some (.ro (cat boolA s.here) s.here.length false, ids) := by
 obtain ⟨A, B, C, _, _, _, _, _, _, rfl, rfl, rfl, hA, hB, hC⟩ := H
 have l1 := cat_length (f := ratA) s.q
 have l2 := cat_length (f := ratA) s.v
 have l3 := cat_length (f := boolA) s.here
 refine ⟨⟨[A], ?_⟩, ⟨[B], ?_⟩, ⟨[C], ?_⟩⟩
 ·rw [snap_sl, hA]; simp only [Nat.zero_add, l1, Nat.le_refl, if_true, List.drop_zero]; rw [List.take_of_length_le (by omega), snaps_cat]; rfl
 ·rw [snap_sl, hB]; simp only [Nat.zero_add, l2, Nat.le_refl, if_true, List.drop_zero]; rw [List.take_of_length_le (by omega), snaps_cat]; rfl
 ·rw [snap_sl, hC]; simp only [Nat.zero_add, l3, Nat.le_refl, if_true, List.drop_zero]; rw [List.take_of_length_le (by omega), snaps_cat]; rfl
theorem M_13 [SpC] (m : MdlR) (l : List Int) (N : Nat) (hg : GoodM m N) (h0 : 1 ≤ N) (hN : N < 2 ^ 10) (hd0 : 0 < m.dofs.length) (hp0 : 0 < m.parts.length) (hl : okI l) (hlen : l.length < 2 ^ 60) :
  M X 13 [.agg (mdlA m), isl l] = some (.agg (staA (stateV m l))) := by
 refine M_of X (fn := Tryz.f13) Tryz.func13 rfl ok_13 mode_13 res_13 _ rfl _ ?_
 intro r hr
 have d1 := hg.dl
 have d2 := hg.pl
 have cd := cat_length (f := dofA) m.dofs
 have cp := cat_length (f := partA) m.parts
 have sv := M_33 m ⟨hd0, by omega⟩ ⟨hp0, by omega⟩
 have a0 := M_45 l 0 9 hl (by omega) (by omega)
 have a1 := M_45 l 1 5 hl (by omega) (by omega)
 have b0 := atN_bd l 0 9 (by omega)
 have b1 := atN_bd l 1 5 (by omega)
 rw [show (0 : Int).toNat = 0 from rfl] at a0
 rw [show (1 : Int).toNat = 1 from rfl] at a1
 rw [mdlA_eq] at sv
 unfold staF startV at sv
 simp only [List.length_replicate] at sv
 have hst : stateV m l = velsK m l (movesK m l m.dofs.length) m.dofs.length := rfl
 rw [hst] at hr
 have z0 : (movesK m l 0).q = List.replicate m.dofs.length 0 := rfl
 have z1 : (movesK m l 0).v = List.replicate m.dofs.length 0 := rfl
 have z2 : (movesK m l 0).here = (if atN l 1 5 = 0 ∧ 2 < m.parts.length then (List.replicate m.parts.length true).set (m.parts.length - 1) false else List.replicate m.parts.length true) := rfl
 have z3 : (movesK m l 0).tick = atN l 0 9 := rfl
 have hsp := cat_splice (f := boolA) (l := List.replicate m.parts.length true) (i := m.parts.length - 1) (o := 0) (a := true) (a' := false) (vs := [.bool false]) (by rw [List.getElem?_replicate, if_pos (by omega)]) (by simp) (by simp [splice, boolA_eq])
 simp only [Nat.mul_one, Nat.add_zero] at hsp
 have hbl := cat_length (f := boolA) (List.replicate m.parts.length true)
 rw [List.length_replicate, Nat.mul_one] at hbl
 rw [W_seq]
 generalize hK : @seqQ X ⟨_⟩ (outR X _ _ _) = K
 simp (maxSteps := 4000000) (disch := first | omega | (simp only [LL]; omega)) only [go_sem, mdlA_eq, cd, cp, weaks_cat, weaks_ptC, sv, a0, a1]
 rw [← hK, seqQ_normal]
 clear hK K
 rw [W_seq]
 generalize hK : @seqQ X ⟨_⟩ (outR X _ _ _) = K
 simp (maxSteps := 4000000) (disch := first | omega | (simp only [LL]; omega)) only [go_sem, mdlA_eq, cd, cp, weaks_cat, weaks_ptC, sv, a0, a1]
 rw [← hK, seqQ_normal]
 clear hK K
 rw [W_seq]
 generalize hK : @seqQ X ⟨_⟩ (outR X _ _ _) = K
 simp (maxSteps := 4000000) (disch := first | omega | (simp only [LL]; omega)) only [go_sem, mdlA_eq, cd, cp, weaks_cat, weaks_ptC, sv, a0, a1]
 rw [← hK, seqQ_normal]
 clear hK K
 rw [W_seq]
 generalize hK : @seqQ X ⟨_⟩ (outR X _ _ _) = K
 have hJ : ∀ (env : Nat → AV) (heap : Heap) (nx : Nat) (vq vv vh : AV), env 1 = isl l → env 2 = .ptr 0 0 → env 4 = .ptr 8 0 → env 5 = .ptr 32 0 → 40 ≤ nx → heap 0 = some (.cells (mdlA m) false false) → heap 8 = some (.cells [.int .i64 0, .ro [] 0 true, .ro [] 0 true, .ro [] 0 true] false false) →
   heap 32 = some (.cells [.int .i64 (movesK m l 0).tick, vq, vv, vh] false false) → StaH heap 16 nx 32 vq vv vh (movesK m l 0) → K .normal ⟨env, heap, nx⟩ := by
  intro env heap nx vq vv vh g1 g2 g4 g5 hnx e0 e8 e32 H0
  subst hK
  rw [seqQ_normal]
  clear z0 z1 z2 z3 hsp hbl sv a0 a1 hst
  simp (maxSteps := 4000000) (disch := first | omega | (simp only [LL]; omega)) only [go_sem, g1, g2, g4, g5]
  refine W_loop X (fun (i : Nat) t => i ≤ m.dofs.length ∧ t.env 1 = isl l ∧ t.env 2 = .ptr 0 0 ∧ t.env 4 = .ptr 8 0 ∧ t.env 5 = .ptr 32 0 ∧ t.env 6 = .int .i64 i ∧ 40 ≤ t.next ∧ t.heap 0 = some (.cells (mdlA m) false false) ∧ t.heap 8 = some (.cells [.int .i64 0, .ro [] 0 true, .ro [] 0 true, .ro [] 0 true] false false) ∧
   ∃ vq vv vh, t.heap 32 = some (.cells [.int .i64 (movesK m l i).tick, vq, vv, vh] false false) ∧ StaH t.heap 16 t.next 32 vq vv vh (movesK m l i)) (fun i => m.dofs.length - i) ?_ 0 _ ?_
  ·clear g1 g2 g4 g5 hnx e0 e8 e32 H0
   rintro i ⟨env, heap, nx⟩ ⟨hi, g1, g2, g4, g5, g6, hnx, e0, e8, vq, vv, vh, e32, H⟩
   simp only at g1 g2 g4 g5 g6 hnx e0 e8 e32 H
   rw [mdlA_eq] at e0
   by_cases hlt : i < m.dofs.length
   ·have c1 := M_45 l ((2 + 2 * i : Nat) : Int) 12 hl (by omega) (by omega)
    rw [Int.toNat_natCast] at c1
    have c2 := atN_bd l (2 + 2 * i) 12 (by omega)
    have u1 : (2 : Int) + 2 * (i : Int) = ((2 + 2 * i : Nat) : Int) := by omega
    have gs := good_moves (l := l) (m := m) (N := N) h0 i
    have htk := moves_tick m l i
    have hsucc : movesK m l (i + 1) = if atN l (2 + 2 * i) 12 < 4 then (if fitV m (moveT (movesK m l i) i (atN l (2 + 2 * i) 12)) = 0 then moveT (movesK m l i) i (atN l (2 + 2 * i) 12) else movesK m l i) else movesK m l i := rfl
    have gt := good_move h0 gs i (n := atN l (2 + 2 * i) 12) c2
    generalize movesK m l i = s at *
    generalize atN l (2 + 2 * i) 12 = n at *
    have hq := gs.ql
    have hv := gs.vl
    have hh := gs.hl
    by_cases hn : n < 4
    ·rw [if_pos hn] at hsucc
     simp (maxSteps := 4000000) (disch := first | omega | (simp only [LL]; omega)) only [go_sem, g1, g2, g4, g5, g6, e0, e8, e32, cd, u1, c1]
     refine copy_step s (by omega) (by omega) (by omega) vq vv vh heap 16 _ 32 (by omega) (.inr (H.keep (fun _ _ _ _ => rfl) (by omega) (by omega))) _ ?_
     intro vq' vv' vh' h' nx' k2 k3 k4
     have e0' := k3 0 (by omega)
     have e8' := k3 8 (by omega)
     have e32' := k3 32 (by omega)
     rw [e0] at e0'
     rw [e8] at e8'
     rw [e32] at e32'
     obtain ⟨A, B, C, a1, a2, a3, a4, a5, a6, rfl, rfl, rfl, a7, a8, a9⟩ := k4
     have lq := cat_length (f := ratA) s.q
     have lv := cat_length (f := ratA) s.v
     have lh := cat_length (f := boolA) s.here
     have hsp := cat_splice (f := ratA) (l := s.q) (i := i) (o := 0) (a' := mvQ n) (vs := ratA (mvQ n)) (getD_some (by omega) 0) (by simp [ratA]) (by simp [splice, ratA])
     rw [ratA_eq] at hsp
     simp only [Nat.add_zero] at hsp
     have o1 := M_44 (2 * n - 3) (2 + n % 2) (by omega) (by omega)
     rw [show Rat.divInt (2 * n - 3) (2 + n % 2) = mvQ n from rfl] at o1
     have ft := M_34 m (moveT s i n) N hg gt hN (by have := atN_bd l 0 9 (by omega); exact ⟨by show 0 ≤ s.tick; omega, by show s.tick ≤ _; omega⟩)
     rw [mdlA_eq, staA_eq] at ft
     have lq2 := cat_length (f := ratA) (s.q.set i (mvQ n))
     rw [List.length_set] at lq2
     unfold moveT at ft hsucc gt
     simp only [List.length_set] at ft
     generalize mvQ n = y at *
     generalize hfv : fitV m { tick := s.tick, q := s.q.set i y, v := s.v, here := s.here } = fv at *
     by_cases hf : fv = 0
     ·rw [if_pos hf] at hsucc
      simp (maxSteps := 4000000) (disch := first | omega | (simp only [LL]; omega)) only [go_sem, g1, g2, g4, g5, g6, e0', e8', e32', a7, a8, a9, lq, lv, lh, lq2, hsp, o1, weaks_cat, weaks_ptC, snaps_cat, ft]
      refine ⟨i + 1, ?_, by omega⟩
      rw [hsucc]
      repeat' apply And.intro
      all_goals first | omega | rfl | (rw [mdlA_eq]; done) | skip
      refine ⟨_, _, _, rfl, A, B, C, by omega, by omega, by omega, by omega, by omega, by omega, by rw [List.length_set], rfl, rfl, ?_, ?_, ?_⟩
      ·repeat first | refine Eq.trans (upd_hit (by omega)) ?_ | refine upd_miss (by omega) ?_
       rfl
      ·repeat first | refine Eq.trans (upd_hit (by omega)) ?_ | refine upd_miss (by omega) ?_
       exact a8
      ·repeat first | refine Eq.trans (upd_hit (by omega)) ?_ | refine upd_miss (by omega) ?_
       exact a9
     ·rw [if_neg hf] at hsucc
      simp (maxSteps := 4000000) (disch := first | omega | (simp only [LL]; omega)) only [go_sem, g1, g2, g4, g5, g6, e0', e8', e32', a7, a8, a9, lq, lv, lh, lq2, hsp, o1, weaks_cat, weaks_ptC, snaps_cat, ft]
      refine ⟨i + 1, ?_, by omega⟩
      rw [hsucc]
      repeat' apply And.intro
      all_goals first | omega | rfl | (rw [mdlA_eq]; done) | skip
      refine ⟨vq, vv, vh, rfl, H.keep (fun b hb hb2 hb3 => ?_) (by omega) (by omega)⟩
      repeat first | refine Eq.trans (upd_hit (by omega)) ?_ | refine upd_miss (by omega) ?_
      exact k3 b (by omega)
    ·rw [if_neg hn] at hsucc
     simp (maxSteps := 4000000) (disch := first | omega | (simp only [LL]; omega)) only [go_sem, g1, g2, g4, g5, g6, e0, e8, e32, cd, u1, c1]
     refine ⟨i + 1, ?_, by omega⟩
     repeat' apply And.intro
     all_goals first | omega | rfl | (rw [mdlA_eq]; done) | (rw [hsucc]; exact ⟨vq, vv, vh, rfl, H.keep (fun _ _ _ _ => rfl) (by omega) (by omega)⟩)
   ·obtain rfl : i = m.dofs.length := by omega
    have gs := good_moves (l := l) (m := m) (N := N) h0 m.dofs.length
    generalize movesK m l m.dofs.length = s at *
    have hq := gs.ql
    have hv := gs.vl
    have hh := gs.hl
    have H' := H
    obtain ⟨A, B, C, a1, a2, a3, a4, a5, a6, rfl, rfl, rfl, a7, a8, a9⟩ := H'
    have ll := liveV_len m s.here
    have cl := cat_length (f := boolA) (liveV m s.here)
    have lq := cat_length (f := ratA) s.q
    have lv := cat_length (f := ratA) s.v
    have lh := cat_length (f := boolA) s.here
    have lw := M_29 m s.here s.tick (.ro (cat ratA s.q) s.q.length false) (.ro (cat ratA s.v) s.v.length false) false hg.live hh
    rw [mdlA_eq] at lw
    simp (maxSteps := 4000000) (disch := first | omega | (simp only [LL]; omega)) only [go_sem, g1, g2, g4, g5, g6, e0, e8, e32, cd, a7, a8, a9, lq, lv, lh, snaps_cat, weaks_cat, weaks_ptC, mode_29, lw]
    obtain ⟨L, hL⟩ : ∃ L, L = nx + 40 + 16 := ⟨_, rfl⟩
    refine W_loop X (fun (i : Nat) t => i ≤ m.dofs.length ∧ t.env 1 = isl l ∧ t.env 2 = .ptr 0 0 ∧ t.env 4 = .ptr 8 0 ∧ t.env 5 = .ptr 32 0 ∧ t.env 9 = .sl L 0 m.dofs.length none 1 ∧ t.env 10 = .int .i64 i ∧ L < t.next ∧ t.heap 0 = some (.cells (mdlA m) false false) ∧ t.heap 8 = some (.cells [.int .i64 0, .ro [] 0 true, .ro [] 0 true, .ro [] 0 true] false false) ∧ t.heap L = some (.cells (cat boolA (liveV m s.here)) true false) ∧
     t.heap 32 = some (.cells [.int .i64 s.tick, .sl A 0 s.q.length none 4, .sl B 0 s.v.length none 4, .sl C 0 s.here.length none 1] false false) ∧ t.heap A = some (.cells (cat ratA s.q) true false) ∧ t.heap B = some (.cells (cat ratA (velsK m l s i).v) true false) ∧ t.heap C = some (.cells (cat boolA s.here) true false)) (fun i => m.dofs.length - i) ?_ 0 _ ?_
    ·clear g1 g2 g4 g5 g6 hnx e0 e8 e32 H hi a7 a8 a9 lw
     rintro i ⟨env, heap, nx⟩ ⟨hi, g1, g2, g4, g5, g9, g10, hnx, e0, e8, eL, e32, eA, eB, eC⟩
     simp only at g1 g2 g4 g5 g9 g10 hnx e0 e8 eL e32 eA eB eC
     rw [mdlA_eq] at e0
     obtain ⟨gv, w1, w2, w3⟩ := good_vels (l := l) h0 gs i
     by_cases hlt : i < m.dofs.length
     ·have c1 := M_45 l ((3 + 2 * i : Nat) : Int) 20 hl (by omega) (by omega)
      rw [Int.toNat_natCast] at c1
      have c2 := atN_bd l (3 + 2 * i) 20 (by omega)
      have u1 : (3 : Int) + 2 * (i : Int) = ((3 + 2 * i : Nat) : Int) := by omega
      have hsucc : velsK m l s (i + 1) = velS (liveV m s.here) l i (velsK m l s i) := rfl
      unfold velS at hsucc
      have hld := cat_drop (f := boolA) (getD_some (l := liveV m s.here) (i := i) (by omega) false)
      rw [boolA_eq] at hld
      simp only [Nat.mul_one] at hld
      have hvl := gv.vl
      generalize velsK m l s i = z at *
      generalize atN l (3 + 2 * i) 20 = n at *
      have lz := cat_length (f := ratA) z.v
      have hsp := cat_splice (f := ratA) (l := z.v) (i := i) (o := 0) (a' := Rat.divInt (n - 5) 4) (vs := ratA (Rat.divInt (n - 5) 4)) (getD_some (by omega) 0) (by simp [ratA]) (by simp [splice, ratA])
      rw [ratA_eq] at hsp
      simp only [Nat.add_zero] at hsp
      have o1 := M_44 (n - 5) 4 (by omega) (by omega)
      have lz2 := cat_length (f := ratA) (z.v.set i (Rat.divInt (n - 5) 4))
      rw [List.length_set] at lz2
      generalize hy : Rat.divInt (n - 5) 4 = y at *
      generalize hlb : (liveV m s.here).getD i false = lb at *
      by_cases hb : lb = true
      ·subst hb
       by_cases hn : n < 12
       ·rw [if_pos ⟨rfl, hn⟩] at hsucc
        simp (maxSteps := 4000000) (disch := first | omega | (simp only [LL]; omega)) only [go_sem, g1, g2, g4, g5, g9, g10, e0, e8, eL, e32, eA, eB, eC, cd, ll, cl, u1, c1, hld, lz, lz2, o1, hsp, hvl]
        refine ⟨i + 1, ?_, by omega⟩
        rw [hsucc]
        repeat' apply And.intro
        all_goals first | omega | rfl | (rw [mdlA_eq]; done) | skip
       ·rw [if_neg (by omega)] at hsucc
        simp (maxSteps := 4000000) (disch := first | omega | (simp only [LL]; omega)) only [go_sem, g1, g2, g4, g5, g9, g10, e0, e8, eL, e32, eA, eB, eC, cd, ll, cl, u1, c1, hld]
        refine ⟨i + 1, ?_, by omega⟩
        rw [hsucc]
        repeat' apply And.intro
        all_goals first | omega | rfl | (rw [mdlA_eq]; done) | assumption
      ·have hb' : lb = false := by simpa using hb
       subst hb'
       rw [if_neg (by simp)] at hsucc
       simp (maxSteps := 4000000) (disch := first | omega | (simp only [LL]; omega)) only [go_sem, g1, g2, g4, g5, g9, g10, e0, e8, eL, e32, eA, eB, eC, cd, ll, cl, u1, c1, hld]
       refine ⟨i + 1, ?_, by omega⟩
       rw [hsucc]
       repeat' apply And.intro
       all_goals first | omega | rfl | (rw [mdlA_eq]; done) | assumption
     ·obtain rfl : i = m.dofs.length := by omega
      generalize velsK m l s m.dofs.length = z at *
      have lq := cat_length (f := ratA) s.q
      have lz := cat_length (f := ratA) z.v
      have lh := cat_length (f := boolA) s.here
      have hvl := gv.vl
      rw [staA_eq, w1, w2, w3] at hr
      simp (maxSteps := 4000000) (disch := first | omega | (simp only [LL]; omega)) only [go_sem, g1, g2, g4, g5, g9, g10, e0, e8, eL, e32, eA, eB, eC, cd, ll, cl, lq, lz, lh, snaps_cat, weaks_cat]
      rw [hr]; simp only [hq, hvl, hv, hh]
    ·subst hL
     simp (maxSteps := 4000000) (disch := first | omega | (simp only [LL]; omega)) only [go_sem, g1, g2, g4, g5, g6, e0, e8, e32, a7, a8, a9]
     repeat' apply And.intro
     all_goals first | omega | rfl | (rw [mdlA_eq]; done) | trace_state
  ·simp (maxSteps := 4000000) (disch := first | omega | (simp only [LL]; omega)) only [go_sem, g1, g2, g4, g5]
   repeat' apply And.intro
   all_goals first | omega | rfl | exact e0 | exact e8 | exact ⟨vq, vv, vh, e32, H0.keep (fun _ _ _ _ => rfl) (by omega) (by omega)⟩
 have hini : ∀ (h : Heap) (nx : Nat), 32 ≤ nx → h 24 = some (.cells (cat ratA (List.replicate m.dofs.length 0)) true false) → h 25 = some (.cells (cat ratA (List.replicate m.dofs.length 0)) true false) → h 26 = some (.cells (cat boolA (movesK m l 0).here) true false) →
   StaH h 16 nx 32 (.sl 24 0 m.dofs.length none 4) (.sl 25 0 m.dofs.length none 4) (.sl 26 0 m.parts.length none 1) (movesK m l 0) := by
  intro h nx hn h1 h2 h3
  have g := good_moves (l := l) (m := m) (N := 1) (by omega) 0
  refine ⟨24, 25, 26, by omega, by omega, by omega, by decide, by decide, by decide, ?_, ?_, ?_, ?_, ?_, h3⟩
  ·rw [g.ql]
  ·rw [g.vl]
  ·rw [g.hl]
  ·rw [z0]; exact h1
  ·rw [z1]; exact h2
 by_cases c5 : atN l 1 5 = 0
 ·by_cases c2 : 2 < m.parts.length
  ·rw [if_pos ⟨c5, c2⟩] at z2
   have ucl : ((m.parts.length : Int) - 1).toNat = m.parts.length - 1 := by omega
   simp (maxSteps := 4000000) (disch := first | omega | (simp only [LL]; omega)) only [go_sem, mdlA_eq, cd, cp, a1, c5, hbl, ucl, hsp]
   exact hJ _ _ _ _ _ _ (by simp (maxSteps := 4000000) (disch := first | omega | (simp only [LL]; omega)) only [go_sem]) (by simp (maxSteps := 4000000) (disch := first | omega | (simp only [LL]; omega)) only [go_sem]) (by simp (maxSteps := 4000000) (disch := first | omega | (simp only [LL]; omega)) only [go_sem]) (by simp (maxSteps := 4000000) (disch := first | omega | (simp only [LL]; omega)) only [go_sem]) (by omega) (by rw [mdlA_eq]; simp (maxSteps := 4000000) (disch := first | omega | (simp only [LL]; omega)) only [go_sem]) (by simp (maxSteps := 4000000) (disch := first | omega | (simp only [LL]; omega)) only [go_sem]) (by rw [z3]; simp (maxSteps := 4000000) (disch := first | omega | (simp only [LL]; omega)) only [go_sem]) (hini _ _ (by omega) (by simp (maxSteps := 4000000) (disch := first | omega | (simp only [LL]; omega)) only [go_sem]) (by simp (maxSteps := 4000000) (disch := first | omega | (simp only [LL]; omega)) only [go_sem]) (by rw [z2]; simp (maxSteps := 4000000) (disch := first | omega | (simp only [LL]; omega)) only [go_sem]))
  ·rw [if_neg (by omega)] at z2
   simp (maxSteps := 4000000) (disch := first | omega | (simp only [LL]; omega)) only [go_sem, mdlA_eq, cd, cp, a1, c5]
   exact hJ _ _ _ _ _ _ (by simp (maxSteps := 4000000) (disch := first | omega | (simp only [LL]; omega)) only [go_sem]) (by simp (maxSteps := 4000000) (disch := first | omega | (simp only [LL]; omega)) only [go_sem]) (by simp (maxSteps := 4000000) (disch := first | omega | (simp only [LL]; omega)) only [go_sem]) (by simp (maxSteps := 4000000) (disch := first | omega | (simp only [LL]; omega)) only [go_sem]) (by omega) (by rw [mdlA_eq]; simp (maxSteps := 4000000) (disch := first | omega | (simp only [LL]; omega)) only [go_sem]) (by simp (maxSteps := 4000000) (disch := first | omega | (simp only [LL]; omega)) only [go_sem]) (by rw [z3]; simp (maxSteps := 4000000) (disch := first | omega | (simp only [LL]; omega)) only [go_sem]) (hini _ _ (by omega) (by simp (maxSteps := 4000000) (disch := first | omega | (simp only [LL]; omega)) only [go_sem]) (by simp (maxSteps := 4000000) (disch := first | omega | (simp only [LL]; omega)) only [go_sem]) (by rw [z2]; simp (maxSteps := 4000000) (disch := first | omega | (simp only [LL]; omega)) only [go_sem]))
 ·rw [if_neg (by omega)] at z2
  simp (maxSteps := 4000000) (disch := first | omega | (simp only [LL]; omega)) only [go_sem, mdlA_eq, cd, cp, a1, c5]
  exact hJ _ _ _ _ _ _ (by simp (maxSteps := 4000000) (disch := first | omega | (simp only [LL]; omega)) only [go_sem]) (by simp (maxSteps := 4000000) (disch := first | omega | (simp only [LL]; omega)) only [go_sem]) (by simp (maxSteps := 4000000) (disch := first | omega | (simp only [LL]; omega)) only [go_sem]) (by simp (maxSteps := 4000000) (disch := first | omega | (simp only [LL]; omega)) only [go_sem]) (by omega) (by rw [mdlA_eq]; simp (maxSteps := 4000000) (disch := first | omega | (simp only [LL]; omega)) only [go_sem]) (by simp (maxSteps := 4000000) (disch := first | omega | (simp only [LL]; omega)) only [go_sem]) (by rw [z3]; simp (maxSteps := 4000000) (disch := first | omega | (simp only [LL]; omega)) only [go_sem]) (hini _ _ (by omega) (by simp (maxSteps := 4000000) (disch := first | omega | (simp only [LL]; omega)) only [go_sem]) (by simp (maxSteps := 4000000) (disch := first | omega | (simp only [LL]; omega)) only [go_sem]) (by rw [z2]; simp (maxSteps := 4000000) (disch := first | omega | (simp only [LL]; omega)) only [go_sem]))
end Go.Proofs.YtenhjccadhlgoaaGreat.Abs
