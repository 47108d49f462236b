/-
  Package gantryref15: Copy, Start. No conditions. Package model: Start. No conditions. Package gantryref15: train, walked within the memory of Model. No conditions. Package gantryref15: Model. No conditions. Package gantryref12: Move and Bent. No conditions. Package gantryref12: Bent. No conditions.
-/
import Derived.Test.YtenhjccadhlgoaaGreatQ07
import Derived.Test.YtenhjccadhlgoaaGreatQ08
set_option linter.unusedSimpArgs false
set_option linter.unusedVariables false
set_option maxRecDepth 100000
set_option maxHeartbeats 16000000
namespace Go.Proofs.YtenhjccadhlgoaaGreat.Abs
open Go
theorem replA_rat (n : Nat) : replA n [.bool false, .ro [] 0 false, .bool false, .ro [] 0 false] = cat ratA (List.replicate n 0) := by
 unfold replA
 induction n with
 | zero => rfl
 | succ n ih => rw [List.replicate_succ, List.flatten_cons, ih, List.replicate_succ, cat_cons, ratA_eq, q0a, q0b, q0c, q0d]
def StaH (h : Heap) (lo nx ne : Nat) (vq vv vh : AV) (s : StaR) : Prop :=
 ∃ A B C, (lo ≤ A ∧ A < nx ∧ A ≠ ne) ∧ (lo ≤ B ∧ B < nx ∧ B ≠ ne) ∧ (lo ≤ C ∧ C < nx ∧ C ≠ ne) ∧ A ≠ B ∧ A ≠ C ∧ B ≠ C ∧ vq = .sl A 0 s.q.length none 4 ∧ vv = .sl B 0 s.v.length none 4 ∧ vh = .sl C 0 s.here.length none 1 ∧
  h A = some (.cells (cat ratA s.q) true false) ∧ h B = some (.cells (cat ratA s.v) true false) ∧ h C = some (.cells (cat boolA s.here) true false)
theorem StaH.keep {h h' : Heap} {lo lo' nx nx' ne : Nat} {vq vv vh : AV} {s : StaR} (H : StaH h lo nx ne vq vv vh s) (hh : ∀ b, lo ≤ b → b < nx → b ≠ ne → h' b = h b) (hl : lo' ≤ lo) (hn : nx ≤ nx') : StaH h' lo' nx' ne vq vv vh s := by
 obtain ⟨A, B, C, ⟨h1, i1, j1⟩, ⟨h2, i2, j2⟩, ⟨h3, i3, j3⟩, h4, h5, h6, h7, h8, h9, h10, h11, h12⟩ := H
 exact ⟨A, B, C, by omega, by omega, by omega, h4, h5, h6, h7, h8, h9, by rw [hh _ h1 i1 j1]; exact h10, by rw [hh _ h2 i2 j2]; exact h11, by rw [hh _ h3 i3 j3]; exact h12⟩
theorem StaH.ne {h : Heap} {lo nx ne ne' : Nat} {vq vv vh : AV} {s : StaR} (H : StaH h lo nx ne vq vv vh s) (hn : ne' < lo) : StaH h lo nx ne' vq vv vh s := by
 obtain ⟨A, B, C, h1, h2, h3, H⟩ := H
 exact ⟨A, B, C, by omega, by omega, by omega, H⟩
theorem copy_call [SpC] (s : StaR) (h1 : 0 < s.q.length ∧ s.q.length < 2 ^ 20) (h2 : 0 < s.v.length ∧ s.v.length < 2 ^ 20) (h3 : 0 < s.here.length ∧ s.here.length < 2 ^ 20) (vq vv vh : AV) (heap : Heap) (lo nx ne : Nat) (hlo : lo ≤ nx)
  (H : (vq = .ro (cat ratA s.q) s.q.length false ∧ vv = .ro (cat ratA s.v) s.v.length false ∧ vh = .ro (cat boolA s.here) s.here.length false) ∨ StaH heap lo nx ne vq vv vh s) :
  ∃ vq' vv' vh' h' nx', callI X 14 [.agg [.int .i64 s.tick, vq, vv, vh]] heap nx = some (.agg [.int .i64 s.tick, vq', vv', vh'], h', nx') ∧ nx ≤ nx' ∧ (∀ b, b < nx → h' b = heap b) ∧ StaH h' nx nx' nx' vq' vv' vh' s := by
 suffices hs : ∀ Φ : AV × Heap × Nat → Prop, (∀ vq' vv' vh' h' nx', nx ≤ nx' → (∀ b, b < nx → h' b = heap b) → StaH h' nx nx' nx' vq' vv' vh' s → Φ (.agg [.int .i64 s.tick, vq', vv', vh'], h', nx')) →
   ∃ q, callI X 14 [.agg [.int .i64 s.tick, vq, vv, vh]] heap nx = some q ∧ Φ q by
  obtain ⟨q, k1, vq', vv', vh', h', nx', k2, k3, k4, k5⟩ := hs (fun q => ∃ vq' vv' vh' h' nx', q = (.agg [.int .i64 s.tick, vq', vv', vh'], h', nx') ∧ nx ≤ nx' ∧ (∀ b, b < nx → h' b = heap b) ∧ StaH h' nx nx' nx' vq' vv' vh' s) (fun vq' vv' vh' h' nx' a b c => ⟨vq', vv', vh', h', nx', rfl, a, b, c⟩)
  subst k2
  exact ⟨vq', vv', vh', h', nx', k1, k3, k4, k5⟩
 intro Φ hΦ
 refine callI_of (fn := Tryz.f14) Tryz.func14 rfl ok_14 res_14 _ rfl heap nx _ ?_
 have l1 := cat_length (f := ratA) s.q
 have l2 := cat_length (f := ratA) s.v
 have l3 := cat_length (f := boolA) s.here
 rcases H with ⟨rfl, rfl, rfl⟩ | ⟨A, B, C, a1, a2, a3, _, _, _, rfl, rfl, rfl, a7, a8, a9⟩
 ·simp (maxSteps := 4000000) (disch := first | omega | (simp only [LL]; omega)) only [go_sem, outC_ret, outC_normal, l1, l2, l3]
  refine hΦ _ _ _ _ _ (by omega) (fun b hb => ?_) ⟨nx + 16 + 40 + 32, nx + 16 + 40 + 56 + 32, nx + 16 + 40 + 56 + 56 + 32, by omega, by omega, by omega, by omega, by omega, by omega, rfl, rfl, rfl, ?_, ?_, ?_⟩
  ·simp only [upd_apply]
   repeat rw [if_neg (by omega)]
  ·repeat first | refine Eq.trans (upd_hit (by omega)) ?_ | refine upd_miss (by omega) ?_
   rfl
  ·repeat first | refine Eq.trans (upd_hit (by omega)) ?_ | refine upd_miss (by omega) ?_
   rfl
  ·repeat first | refine Eq.trans (upd_hit (by omega)) ?_ | refine upd_miss (by omega) ?_
   rfl
 ·simp (maxSteps := 4000000) (disch := first | omega | (simp only [LL]; omega)) only [go_sem, outC_ret, outC_normal, l1, l2, l3, a7, a8, a9]
  refine hΦ _ _ _ _ _ (by omega) (fun b hb => ?_) ⟨nx + 16 + 40 + 32, nx + 16 + 40 + 56 + 32, nx + 16 + 40 + 56 + 56 + 32, by omega, by omega, by omega, by omega, by omega, by omega, rfl, rfl, rfl, ?_, ?_, ?_⟩
  ·simp only [upd_apply]
   repeat rw [if_neg (by omega)]
  ·repeat first | refine Eq.trans (upd_hit (by omega)) ?_ | refine upd_miss (by omega) ?_
   rfl
  ·repeat first | refine Eq.trans (upd_hit (by omega)) ?_ | refine upd_miss (by omega) ?_
   rfl
  ·repeat first | refine Eq.trans (upd_hit (by omega)) ?_ | refine upd_miss (by omega) ?_
   rfl
theorem copy_step [SpC] (s : StaR) (h1 : 0 < s.q.length ∧ s.q.length < 2 ^ 20) (h2 : 0 < s.v.length ∧ s.v.length < 2 ^ 20) (h3 : 0 < s.here.length ∧ s.here.length < 2 ^ 20) (vq vv vh : AV) (heap : Heap) (lo nx ne : Nat) (hlo : lo ≤ nx)
  (H : (vq = .ro (cat ratA s.q) s.q.length false ∧ vv = .ro (cat ratA s.v) s.v.length false ∧ vh = .ro (cat boolA s.here) s.here.length false) ∨ StaH heap lo nx ne vq vv vh s) (Φ : AV × Heap × Nat → Prop)
  (hΦ : ∀ vq' vv' vh' h' nx', nx ≤ nx' → (∀ b, b < nx → h' b = heap b) → StaH h' nx nx' nx' vq' vv' vh' s → Φ (.agg [.int .i64 s.tick, vq', vv', vh'], h', nx')) : PN (callI X 14 [.agg [.int .i64 s.tick, vq, vv, vh]] heap nx) Φ := by
 obtain ⟨vq', vv', vh', h', nx', k1, k2, k3, k4⟩ := copy_call s h1 h2 h3 vq vv vh heap lo nx ne hlo H
 exact ⟨_, k1, hΦ vq' vv' vh' h' nx' k2 k3 k4⟩
def startV (m : MdlR) : StaR := ⟨0, List.replicate m.dofs.length 0, List.replicate m.dofs.length 0, List.replicate m.parts.length true⟩
theorem mask32 [SpC] (t : TypeId) {a : Int} (h : 0 ≤ a ∧ a < 2 ^ 32) : binA X .and t (.int .u64 a) (.int .u64 4294967295) = some (.int .u64 a) := by
 obtain ⟨n, rfl⟩ := Int.eq_ofNat_of_zero_le h.1
 have hn : n < 2 ^ 32 := by omega
 have e : (BitVec.ofInt 64 ((n : Nat) : Int) &&& BitVec.ofInt 64 4294967295).toNat = n := by
  rw [BitVec.toNat_and]
  have e1 : (BitVec.ofInt 64 ((n : Nat) : Int)).toNat = n := by
   rw [BitVec.toNat_ofInt]; omega
  have e2 : (BitVec.ofInt 64 4294967295).toNat = 2 ^ 32 - 1 := by decide
  rw [e1, e2, Nat.and_two_pow_sub_one_eq_mod, Nat.mod_eq_of_lt hn]
 show some (AV.int .u64 (IntKind.u64.wrap ((BitVec.ofInt 64 ((n : Nat) : Int) &&& BitVec.ofInt 64 4294967295).toNat : Int))) = _
 rw [e]
 have hw : IntKind.u64.wrap ((n : Nat) : Int) = n := by simp [IntKind.wrap, IntKind.bits, IntKind.signed]; omega
 rw [hw]
theorem M_226_1 [SpC] (n : Int) (h : 0 ≤ n ∧ n < 2 ^ 20) : M X 226 [.int .u64 1, .int .u64 n] = some (.tuple [.int .u64 0, .int .u64 n]) := by
 refine M_of X (fn := Tryz.f226) Tryz.func226 rfl ok_226 mode_226 res_226 _ rfl _ ?_
 intro r hr
 have m0 := fun t => mask32 t (a := 0) (by omega)
 have m1 := fun t => mask32 t (a := 1) (by omega)
 have mn := fun t => mask32 t (a := n) (by omega)
 have f0 : Int.fdiv 0 (2 ^ min 32 64) = 0 := by decide
 have f1 : Int.fdiv 1 (2 ^ min 32 64) = 0 := by decide
 have fn : Int.fdiv n (2 ^ min 32 64) = 0 := by
  rw [show (2 : Int) ^ min 32 64 = 4294967296 from by decide, Int.fdiv_eq_ediv_of_nonneg _ (by decide)]
  omega
 simp (maxSteps := 4000000) (disch := first | omega | (simp only [LL]; omega)) only [go_sem, m0, m1, mn, f0, f1, fn, Int.one_mul, Int.zero_mul, Int.mul_zero, Int.add_zero, Int.zero_add]
 rw [hr]
theorem M_172_1 [SpC] (n : Int) (h : 0 ≤ n ∧ n < 2 ^ 20) : M X 172 [.int .u64 1, .int .u64 n] = some (.tuple [.int .u64 0, .int .u64 n]) := by
 refine M_of X (fn := Tryz.f172) Tryz.func172 rfl ok_172 mode_172 res_172 _ rfl _ ?_
 intro r hr
 have m := M_226_1 n h
 simp (maxSteps := 4000000) (disch := first | omega | (simp only [LL]; omega)) only [go_sem, m]
 rw [hr]
def bk (n k : Nat) : List Bool := List.replicate k true ++ List.replicate (n - k) false
theorem bk_len {n k : Nat} (h : k ≤ n) : (bk n k).length = n := by unfold bk; simp; omega
theorem bk_one {n : Nat} (h : 0 < n) : splice (cat boolA (List.replicate n false)) 0 [.bool true] = cat boolA (bk n 1) := by
 obtain ⟨m, rfl⟩ : ∃ m, n = m + 1 := ⟨n - 1, by omega⟩
 rfl
theorem cat_bool (l : List Bool) : cat boolA l = l.map AV.bool := by
 induction l with
 | nil => rfl
 | cons x l ih => rw [cat_cons, ih]; rfl
theorem bk_step {n k : Nat} (hk : k ≤ n) : splice (cat boolA (bk n k)) k (List.take (min k (n - k)) (List.take k (cat boolA (bk n k)))) = cat boolA (bk n (k + min k (n - k))) := by
 rw [cat_bool, cat_bool]
 unfold splice bk
 generalize hj : min k (n - k) = j
 have h1 : j ≤ k := by omega
 have h2 : k + j ≤ n := by omega
 simp only [List.map_append, List.map_replicate]
 have e1 : (List.replicate k (AV.bool true) ++ List.replicate (n - k) (AV.bool false)).take k = List.replicate k (AV.bool true) := by
  rw [List.take_append_of_le_length (by simp), List.take_of_length_le (by simp)]
 rw [e1, List.take_replicate, Nat.min_eq_left h1, List.length_replicate, List.drop_append, List.drop_of_length_le (by simp), List.nil_append, List.drop_replicate, List.length_replicate, List.append_assoc]
 rw [show n - k - (k + j - k) = n - (k + j) by omega, ← List.append_assoc, List.replicate_append_replicate]
theorem repeat_true [SpC] (n : Nat) (h : n < 2 ^ 10) (h0 : 0 < n) : M X 99 [.ro [.bool true] 1 false, .int .i64 n] = some (.ro (cat boolA (List.replicate n true)) n false) := by
 refine M_of X (fn := Tryz.f99) Tryz.func99 rfl ok_99 mode_99 res_99 _ rfl _ ?_
 intro r hr
 have m := M_172_1 n (by omega)
 have cl := cat_length (f := boolA) (List.replicate n false)
 simp only [List.length_replicate, Nat.mul_one] at cl
 have mn : min 1 n = 1 := by omega
 simp (maxSteps := 4000000) (disch := first | omega | (simp only [LL]; omega)) only [go_sem, m, Int.natCast_one, replA_bool, cl, mn, bk_one h0]
 refine W_loop X (fun (k : Nat) t => 1 ≤ k ∧ k ≤ n ∧ t.env 7 = .sl 176 0 n (some n) 1 ∧ t.env 8 = .int .i64 k ∧ t.heap 176 = some (.cells (cat boolA (bk n k)) false false) ∧ 177 ≤ t.next) (fun k => n - k) ?_ 1 _ ?_
 ·rintro k ⟨env, heap, nx⟩ ⟨hk1, hk, g7, g8, e0, hnx⟩
  simp only at g7 g8 e0 hnx
  have bl := cat_length (f := boolA) (bk n k)
  rw [bk_len hk, Nat.mul_one] at bl
  by_cases h1 : k < n
  ·simp (maxSteps := 4000000) (disch := first | omega | (simp only [LL]; omega)) only [go_sem, g7, g8, e0, bl]
   exact ⟨k + min k (n - k), ⟨by omega, by omega, rfl, by rw [bk_step hk], by omega⟩, by omega⟩
  ·obtain rfl : k = n := by omega
   simp (maxSteps := 4000000) (disch := first | omega | (simp only [LL]; omega)) only [go_sem, g7, g8, e0, bl, snaps_cat, weaks_cat]
   rw [hr]
   have e : bk k k = List.replicate k true := by unfold bk; rw [Nat.sub_self]; simp
   rw [e]
 ·simp (maxSteps := 4000000) (disch := first | omega | (simp only [LL]; omega)) only [go_sem, Int.natCast_one]
  repeat' apply And.intro
  all_goals first | omega | rfl | trace_state
theorem pstart [SpC] (m : MdlR) (h1 : 0 < m.dofs.length ∧ m.dofs.length < 2 ^ 10) (h2 : 0 < m.parts.length ∧ m.parts.length < 2 ^ 10) : M X 36 [.agg (mdlA m)] = some (.agg (staA (startV m))) := by
 refine M_of X (fn := Tryz.f36) Tryz.func36 rfl ok_36 mode_36 res_36 _ rfl _ ?_
 intro r hr
 have hdl := cat_length (f := dofA) m.dofs
 have hpl := cat_length (f := partA) m.parts
 have rp := repeat_true m.parts.length h2.2 h2.1
 have e1 := cat_length (f := ratA) (List.replicate m.dofs.length 0)
 have e3 := cat_length (f := boolA) (List.replicate m.parts.length true)
 rw [List.length_replicate] at e1 e3
 simp (maxSteps := 4000000) (disch := first | omega | (simp only [LL]; omega)) only [go_sem, mdlA_eq, hdl, hpl, replA_1, replA_rat, rp, e1, e3, snaps_cat, weaks_cat]
 rw [hr, staA_eq]
 unfold startV
 simp only [List.length_replicate]
theorem mheld_next2 {h h' : Heap} {nx nx' lo : Nat} {S : List Nat} {ws : List PW} {m m' : MdlR} {vd vp : AV} (p q : PartR) (C E Bp Bd : Nat) {nd np nc ne : Nat} {cap cap' : Option Nat} {g z g' z' : Bool}
  (hS : ∀ b ∈ S, lo ≤ b ∧ b < nx) (hP : PartsH h S ws) (hws : ws.map (fun w => w.2.2) = m.parts) (hlo : lo ≤ nx) (hC : nx ≤ C ∧ C < nx') (hE : nx ≤ E ∧ E < nx')
  (hkeep : ∀ b ∈ S, h' b = h b) (hm : m'.parts = m.parts ++ [p, q]) (hBp : nx ≤ Bp ∧ Bp < nx' ∧ Bp ≠ C ∧ Bp ≠ E) (hBd : nx ≤ Bd ∧ Bd < nx' ∧ Bd ≠ C ∧ Bd ≠ E ∧ Bd ≠ Bp)
  (evp : vp = .sl Bp 0 np none 18) (evd : vd = .sl Bd 0 nd none 17) (enp : np = m'.parts.length) (edn : nd = m'.dofs.length) (enc : nc = p.cols.length) (ene : ne = q.cols.length)
  (hc : h' C = some (.cells (cat colA p.cols) g z)) (hc' : h' E = some (.cells (cat colA q.cols) g' z'))
  (hp : h' Bp = some (.cells (cat pwA ws ++ (pwA (.ro (ptC p.shape) p.shape.length false, .sl C 0 nc cap 13, p) ++ pwA (.ro (ptC q.shape) q.shape.length false, .sl E 0 ne cap' 13, q))) true false))
  (hd : h' Bd = some (.cells (cat dofA m'.dofs) true false)) : MHeld h' nx' lo vd vp m' := by
 subst evp enp evd edn enc ene
 refine ⟨C :: E :: S, ws ++ [(.ro (ptC p.shape) p.shape.length false, .sl C 0 p.cols.length cap 13, p), (.ro (ptC q.shape) q.shape.length false, .sl E 0 q.cols.length cap' 13, q)], Bp, ?_, ?_, ?_, by omega, ?_, .inr ⟨rfl, by rw [hp, cat_append, cat_cons, cat_cons, cat_nil, List.append_nil], Bd, by omega, ?_, hBd.2.2.2.2, rfl, hd⟩⟩
 ·intro b hb
  rcases List.mem_cons.1 hb with rfl | hb
  ·omega
  rcases List.mem_cons.1 hb with rfl | hb
  ·omega
  ·have := hS b hb; omega
 ·intro w hw
  rcases List.mem_append.1 hw with hw | hw
  ·exact ⟨(hP w hw).1.keep (fun b hb => by simp [hb]) hkeep, (hP w hw).2.keep (fun b hb => by simp [hb]) hkeep⟩
  ·simp only [List.mem_cons, List.not_mem_nil, or_false] at hw
   rcases hw with rfl | rfl
   ·exact ⟨.inl ⟨_, rfl⟩, .inr ⟨C, cap, g, z, by simp, rfl, hc, cat_length _⟩⟩
   ·exact ⟨.inl ⟨_, rfl⟩, .inr ⟨E, cap', g', z', by simp, rfl, hc', cat_length _⟩⟩
 ·rw [List.map_append, hws, hm]; rfl
 ·intro hb
  rcases List.mem_cons.1 hb with hb | hb
  ·exact hBp.2.2.1 hb
  rcases List.mem_cons.1 hb with hb | hb
  ·exact hBp.2.2.2 hb
  ·have := hS _ hb; omega
 ·intro hb
  rcases List.mem_cons.1 hb with hb | hb
  ·exact hBd.2.2.1 hb
  rcases List.mem_cons.1 hb with hb | hb
  ·exact hBd.2.2.2.1 hb
  ·have := hS _ hb; omega
theorem train_call [SpC] (m : MdlR) (n : Int) (hn : 0 ≤ n ∧ n ≤ 1000) (heap : Heap) (nx lo : Nat) (vd vp vr vs : AV) (hlo : lo ≤ nx) (hdl : m.dofs.length < 100) (hpl : m.parts.length < 100) (hd0 : m.dofs ≠ []) (H : MHeld heap nx lo vd vp m) :
  ∃ vd' vp' h' nx', callI X 48 [.agg [vd, vp, vr, vs], .int .i64 n] heap nx = some (.agg [vd', vp', vr, vs], h', nx') ∧ nx ≤ nx' ∧ (∀ b, b < lo → h' b = heap b) ∧ MHeld h' nx' lo vd' vp' (trainV m n) := by
 suffices hs : ∀ Φ : AV × Heap × Nat → Prop, (∀ vd' vp' h' nx', nx ≤ nx' → (∀ b, b < lo → h' b = heap b) → MHeld h' nx' lo vd' vp' (trainV m n) → Φ (.agg [vd', vp', vr, vs], h', nx')) →
   ∃ q, callI X 48 [.agg [vd, vp, vr, vs], .int .i64 n] heap nx = some q ∧ Φ q by
  obtain ⟨q, k1, vd', vp', h', nx', k2, k3, k4, k5⟩ := hs (fun q => ∃ vd' vp' h' nx', q = (.agg [vd', vp', vr, vs], h', nx') ∧ nx ≤ nx' ∧ (∀ b, b < lo → h' b = heap b) ∧ MHeld h' nx' lo vd' vp' (trainV m n)) (fun vd' vp' h' nx' a b c => ⟨vd', vp', h', nx', rfl, a, b, c⟩)
  subst k2
  exact ⟨vd', vp', h', nx', k1, k3, k4, k5⟩
 intro Φ hΦ
 refine callI_of (fn := Tryz.f48) Tryz.func48 rfl ok_48 res_48 _ rfl heap nx _ ?_
 have o1 := M_44 1 2 (by omega) (by omega)
 have o2 := M_44 (n % 3) 2 (by omega) (by omega)
 have o3 := M_44 (1 + n % 2) 2 (by omega) (by omega)
 have o4 := M_44 (n % 4) 2 (by omega) (by omega)
 have n1 := M_50 (-1) ⟨by omega, by omega⟩
 have n2 := M_50 3 ⟨by omega, by omega⟩
 have n3 := M_50 22 ⟨by omega, by omega⟩
 have n4 := M_50 1 ⟨by omega, by omega⟩
 have n5 := M_50 32 ⟨by omega, by omega⟩
 have n6 := M_50 2 ⟨by omega, by omega⟩
 have s1 := M_46 1 ⟨by omega, by omega⟩
 have s2 := M_46 5 ⟨by omega, by omega⟩
 rw [show arnd 1 6 = 1 by decide] at s1
 rw [show arnd 5 6 = 5 by decide] at s2
 have hel := cat_length (f := dofA) m.dofs
 have hp1 := ptC_length (shp 1)
 have hp2 := ptC_length (shp 5)
 obtain ⟨S, ws, Bp, hS, hP, hws, hBp, hnp, H⟩ := H
 have hwl := pw_length ws
 have hwn : ws.length = m.parts.length := by rw [← hws, List.length_map]
 unfold trainV at hΦ
 generalize Rat.divInt 1 2 = qh at *
 generalize Rat.divInt (n % 3) 2 = r1 at *
 generalize Rat.divInt (1 + n % 2) 2 = r2 at *
 generalize Rat.divInt (n % 4) 2 = r3 at *
 generalize Rat.divInt (-1) 1 = qm at *
 generalize Rat.divInt 3 1 = q3 at *
 generalize Rat.divInt 22 1 = q22 at *
 generalize Rat.divInt 1 1 = q1 at *
 generalize Rat.divInt 32 1 = q32 at *
 generalize Rat.divInt 2 1 = q2 at *
 generalize shp 1 = sh1 at *
 generalize shp 5 = sh5 at *
 generalize hgt 1 = g1 at *
 generalize hgt 5 = g5 at *
 have hkp : ∀ b ∈ S, b ≠ Bp := fun b hb h => hnp (h ▸ hb)
 rcases H with ⟨e1, e2, e3, e4⟩ | ⟨e1, e2, Bd, hBd, hnd, hne, e3, e4⟩
 ·exact absurd e4 hd0
 ·subst e1 e3
  have hkd : ∀ b ∈ S, b ≠ Bd := fun b hb h => hnd (h ▸ hb)
  simp (maxSteps := 4000000) (disch := first | omega | (simp only [LL]; omega)) only [go_sem, outC_ret, outC_normal, e2, e4, hel, hwl, hp1, hp2, replA_1, replA_2, weaks_ptC, o1, o2, o3, o4, n1, n2, n3, n4, n5, n6, s1, s2]
  refine hΦ _ _ _ _ (by omega) (fun b hb => ?_) (mheld_next2 (m := m) (cap := some 1) (g := false) (z := false) (cap' := some 1) (g' := false) (z' := false) (p := ⟨sh1, q22, 0, [⟨m.dofs.length, q1, 0, 0⟩], r1, 0⟩) (q := ⟨sh5, q32, q2, [⟨m.dofs.length, 0, r2, 0⟩], r3, r1⟩) (nx + 16 + 32 + 80 + 48 + 48 + 64) (nx + 16 + 32 + 80 + 48 + 48 + 136 + 96) (nx + 16 + 32 + 80 + 48 + 48 + 136 + 168) (nx + 16 + 32 + 56)
   hS hP hws hlo (by omega) (by omega) (fun b hb => ?_) (by simp) (by omega) (by omega) rfl rfl (by simp) (by simp) rfl rfl ?_ ?_ ?_ ?_)
  ·simp only [upd_apply]
   repeat rw [if_neg (by omega)]
  ·have := hS b hb
   have := hkp b hb
   have := hkd b hb
   simp only [upd_apply]
   repeat rw [if_neg (by omega)]
  ·repeat first | refine Eq.trans (upd_hit (by omega)) ?_ | refine upd_miss (by omega) ?_
   simp only [cat_cons, cat_nil, colA_eq, q0a, q0b, q0c, q0d, List.cons_append, List.nil_append, List.append_nil]
  ·repeat first | refine Eq.trans (upd_hit (by omega)) ?_ | refine upd_miss (by omega) ?_
   simp only [cat_cons, cat_nil, colA_eq, q0a, q0b, q0c, q0d, List.cons_append, List.nil_append, List.append_nil]
  ·repeat first | refine Eq.trans (upd_hit (by omega)) ?_ | refine upd_miss (by omega) ?_
   simp only [pwA_eq, q0a, q0b, q0c, q0d, List.cons_append, List.nil_append, List.append_nil, List.append_assoc, List.length_cons, List.length_nil]
  ·repeat first | refine Eq.trans (upd_hit (by omega)) ?_ | refine upd_miss (by omega) ?_
   simp only [cat_append, cat_cons, cat_nil, dofA_eq, c1_q, c2_q, c3_q, c4_q, q0a, q0b, q0c, q0d, List.cons_append, List.nil_append, List.append_nil, List.append_assoc]
theorem block_step [SpC] (m : MdlR) (s : List Pt) (hsl : s.length < 2 ^ 20) (x y n : Int) (hx : -1000 ≤ x ∧ x ≤ 1000) (hy : -1000 ≤ y ∧ y ≤ 1000) (hn : 0 ≤ n ∧ n ≤ 1000) (wheel : Bool) (heap : Heap) (nx lo : Nat) (vd vp vr vs : AV) (hlo : lo ≤ nx) (hdl : m.dofs.length < 100) (hpl : m.parts.length < 100) (H : MHeld heap nx lo vd vp m) (Φ : AV × Heap × Nat → Prop)
  (hΦ : ∀ vd' vp' h' nx', nx ≤ nx' → (∀ b, b < lo → h' b = heap b) → MHeld h' nx' lo vd' vp' (blockV m s x y n wheel) → Φ (.agg [vd', vp', vr, vs], h', nx')) : PN (callI X 47 [.agg [vd, vp, vr, vs], .ro (ptC s) s.length false, .int .i64 x, .int .i64 y, .int .i64 n, .bool wheel] heap nx) Φ := by
 obtain ⟨vd', vp', h', nx', k1, k2, k3, k4⟩ := block_call m s hsl x y n hx hy hn wheel heap nx lo vd vp vr vs hlo hdl hpl H
 exact ⟨_, k1, hΦ vd' vp' h' nx' k2 k3 k4⟩
theorem train_step [SpC] (m : MdlR) (n : Int) (hn : 0 ≤ n ∧ n ≤ 1000) (heap : Heap) (nx lo : Nat) (vd vp vr vs : AV) (hlo : lo ≤ nx) (hdl : m.dofs.length < 100) (hpl : m.parts.length < 100) (hd0 : m.dofs ≠ []) (H : MHeld heap nx lo vd vp m) (Φ : AV × Heap × Nat → Prop)
  (hΦ : ∀ vd' vp' h' nx', nx ≤ nx' → (∀ b, b < lo → h' b = heap b) → MHeld h' nx' lo vd' vp' (trainV m n) → Φ (.agg [vd', vp', vr, vs], h', nx')) : PN (callI X 48 [.agg [vd, vp, vr, vs], .int .i64 n] heap nx) Φ := by
 obtain ⟨vd', vp', h', nx', k1, k2, k3, k4⟩ := train_call m n hn heap nx lo vd vp vr vs hlo hdl hpl hd0 H
 exact ⟨_, k1, hΦ vd' vp' h' nx' k2 k3 k4⟩
theorem blockV_len (m : MdlR) (s : List Pt) (x y n : Int) (wheel : Bool) : (blockV m s x y n wheel).dofs.length = m.dofs.length + (if wheel = true then 3 else 2) ∧ (blockV m s x y n wheel).parts.length = m.parts.length + 1 ∧ (blockV m s x y n wheel).ropes = m.ropes ∧ (blockV m s x y n wheel).skip = m.skip := by
 unfold blockV
 cases wheel <;> simp
theorem trainV_len (m : MdlR) (n : Int) : (trainV m n).dofs.length = m.dofs.length + 1 ∧ (trainV m n).parts.length = m.parts.length + 2 ∧ (trainV m n).ropes = m.ropes ∧ (trainV m n).skip = m.skip := by
 unfold trainV
 simp
theorem mheld_len {h : Heap} {nx lo : Nat} {vd vp : AV} {m : MdlR} (H : MHeld h nx lo vd vp m) : lenS vd = some (.int .i64 m.dofs.length) ∧ lenS vp = some (.int .i64 m.parts.length) := by
 obtain ⟨S, ws, Bp, _, _, _, _, _, H⟩ := H
 rcases H with ⟨e1, _, e3, e4⟩ | ⟨e1, _, Bd, _, _, _, e3, _⟩
 ·subst e1 e3; rw [e4]; exact ⟨rfl, rfl⟩
 ·subst e1 e3; exact ⟨rfl, rfl⟩
theorem mheld_tup {h : Heap} {nx lo : Nat} {vd vp : AV} {m : MdlR} (H : MHeld h nx lo vd vp m) : vd.tupleB = false ∧ vp.tupleB = false ∧ vd.cells = [vd] ∧ vp.cells = [vp] := by
 obtain ⟨S, ws, Bp, _, _, _, _, _, H⟩ := H
 rcases H with ⟨e1, _, e3, e4⟩ | ⟨e1, _, Bd, _, _, _, e3, _⟩
 ·subst e1 e3; exact ⟨rfl, rfl, rfl, rfl⟩
 ·subst e1 e3; exact ⟨rfl, rfl, rfl, rfl⟩
theorem MHeld.keep {h h' : Heap} {nx nx' lo : Nat} {vd vp : AV} {m : MdlR} (H : MHeld h nx lo vd vp m) (hh : ∀ b, lo ≤ b → b < nx → h' b = h b) (hn : nx ≤ nx') : MHeld h' nx' lo vd vp m := by
 obtain ⟨S, ws, Bp, hS, hP, hws, hBp, hnp, H⟩ := H
 refine ⟨S, ws, Bp, fun b hb => by have := hS b hb; omega, hP.keep (fun _ h => h) (fun b hb => hh b (hS b hb).1 (hS b hb).2), hws, by omega, hnp, ?_⟩
 rcases H with ⟨e1, e2, e3, e4⟩ | ⟨e1, e2, Bd, hBd, hnd, hne, e3, e4⟩
 ·exact .inl ⟨e1, by rw [hh _ hBp.1 hBp.2]; exact e2, e3, e4⟩
 ·exact .inr ⟨e1, by rw [hh _ hBp.1 hBp.2]; exact e2, Bd, by omega, hnd, hne, e3, by rw [hh _ hBd.1 hBd.2]; exact e4⟩
theorem blockV_hy {m : MdlR} (h : ∀ p ∈ m.parts, RS p.hy 1) {s : List Pt} {x y n : Int} {w : Bool} (hy : -1000 < y ∧ y < 1000) : ∀ p ∈ (blockV m s x y n w).parts, RS p.hy 1 := by
 intro p hp
 simp only [blockV, List.mem_append, List.mem_cons, List.not_mem_nil, or_false] at hp
 rcases hp with hp | rfl
 ·exact h p hp
 ·show RS (Rat.divInt y 1) 1
  exact rs_small (by omega) (by decide)
theorem trainV_hy {m : MdlR} (h : ∀ p ∈ m.parts, RS p.hy 1) (n : Int) : ∀ p ∈ (trainV m n).parts, RS p.hy 1 := by
 intro p hp
 simp only [trainV, List.mem_append, List.mem_cons, List.not_mem_nil, or_false] at hp
 rcases hp with (hp | rfl) | rfl
 ·exact h p hp
 ·exact rs_zero
 ·show RS (Rat.divInt 2 1) 1
  exact rs_small (by decide) (by decide)
def RHeld (h : Heap) (nx lo : Nat) (vr : AV) (l : List RopeR) : Prop :=
 (vr = .ro [] 0 true ∧ l = []) ∨ ∃ B D r, (lo ≤ B ∧ B < nx) ∧ (lo ≤ D ∧ D < nx) ∧ l = [r] ∧ r.dirs.length = 3 ∧ vr = .sl B 0 1 none 23 ∧ h D = some (.cells (cat dirA r.dirs) false false) ∧
  h B = some (.cells [.int .i64 r.a, .int .i64 r.b, zS (Rat.num (r.fx)), zD (Rat.num (r.fx)), zS (dz (r.fx)), zD (dz (r.fx)), zS (Rat.num (r.fy)), zD (Rat.num (r.fy)), zS (dz (r.fy)), zD (dz (r.fy)), zS (Rat.num (r.tx)), zD (Rat.num (r.tx)), zS (dz (r.tx)), zD (dz (r.tx)), zS (Rat.num (r.ty)), zD (Rat.num (r.ty)), zS (dz (r.ty)), zD (dz (r.ty)), .sl D 0 3 (some 3) 3, zS (Rat.num (r.len)), zD (Rat.num (r.len)), zS (dz (r.len)), zD (dz (r.len))] true false)
theorem RHeld.keep {h h' : Heap} {nx nx' lo : Nat} {vr : AV} {l : List RopeR} (H : RHeld h nx lo vr l) (hh : ∀ b, lo ≤ b → b < nx → h' b = h b) (hn : nx ≤ nx') : RHeld h' nx' lo vr l := by
 rcases H with H | ⟨B, D, r, h1, h2, h3, h4, h5, h6, h7⟩
 ·exact .inl H
 ·exact .inr ⟨B, D, r, by omega, by omega, h3, h4, h5, by rw [hh _ h2.1 h2.2]; exact h6, by rw [hh _ h1.1 h1.2]; exact h7⟩
theorem rheld_snap {h : Heap} {nx lo : Nat} {vr : AV} {l : List RopeR} (H : RHeld h nx lo vr l) (d : Nat) : ∃ v' ids, snap h (d + 4) vr = some (v', ids) ∧ v'.weak = .ro (cat ropeA l) l.length false := by
 rcases H with ⟨rfl, rfl⟩ | ⟨B, D, r, _, _, rfl, h4, rfl, h6, h7⟩
 ·exact ⟨_, _, rfl, rfl⟩
 ·have hc : snaps (snap h (d + 3)) [AV.int .i64 r.a, .int .i64 r.b, zS (Rat.num (r.fx)), zD (Rat.num (r.fx)), zS (dz (r.fx)), zD (dz (r.fx)), zS (Rat.num (r.fy)), zD (Rat.num (r.fy)), zS (dz (r.fy)), zD (dz (r.fy)), zS (Rat.num (r.tx)), zD (Rat.num (r.tx)), zS (dz (r.tx)), zD (dz (r.tx)), zS (Rat.num (r.ty)), zD (Rat.num (r.ty)), zS (dz (r.ty)), zD (dz (r.ty)), .sl D 0 3 (some 3) 3, zS (Rat.num (r.len)), zD (Rat.num (r.len)), zS (dz (r.len)), zD (dz (r.len))] = some ([AV.int .i64 r.a, .int .i64 r.b, zS (Rat.num (r.fx)), zD (Rat.num (r.fx)), zS (dz (r.fx)), zD (dz (r.fx)), zS (Rat.num (r.fy)), zD (Rat.num (r.fy)), zS (dz (r.fy)), zD (dz (r.fy)), zS (Rat.num (r.tx)), zD (Rat.num (r.tx)), zS (dz (r.tx)), zD (dz (r.tx)), zS (Rat.num (r.ty)), zD (Rat.num (r.ty)), zS (dz (r.ty)), zD (dz (r.ty)), .ro (cat dirA r.dirs) 3 false, zS (Rat.num (r.len)), zD (Rat.num (r.len)), zS (dz (r.len)), zD (dz (r.len))], [D]) := by
   have hd : snap h (d + 3) (.sl D 0 3 (some 3) 3) = some (.ro (cat dirA r.dirs) 3 false, [D]) := by
    rw [snap_sl, h6]
    have hl := cat_length (f := dirA) r.dirs
    simp only [Nat.zero_add, hl, h4, Nat.le_refl, if_true, List.drop_zero]
    rw [List.take_of_length_le (by omega), snaps_cat]
    rfl
   simp only [snaps_cons, snaps_nil, snap_zS, snap_zD, snap_int, hd, nx_some, mp_some, List.nil_append, List.append_nil]
  refine ⟨_, _, by rw [snap_sl, h7]; simp only [List.length_cons, List.length_nil, Nat.zero_add, Nat.one_mul, Nat.reduceAdd, Nat.le_refl, if_true, List.drop_zero, List.take_succ_cons, List.take_zero, hc, mp_some]; rfl, ?_⟩
  rw [weak_ro, cat_cons, cat_nil, List.append_nil, ropeA_eq, h4]
  simp only [weakgo_cons, weakgo_nil, weak_int, weak_zS, weak_zD, weak_roE, List.length_cons, List.length_nil]
def SHeld (h : Heap) (nx lo : Nat) (vs : AV) (l : List Pt) : Prop :=
 (vs = .ro [] 0 true ∧ l = []) ∨ ∃ B, (lo ≤ B ∧ B < nx) ∧ l.length = 1 ∧ vs = .sl B 0 1 (some 1) 2 ∧ h B = some (.cells (ptC l) false false)
theorem SHeld.keep {h h' : Heap} {nx nx' lo : Nat} {vr : AV} {l : List Pt} (H : SHeld h nx lo vr l) (hh : ∀ b, lo ≤ b → b < nx → h' b = h b) (hn : nx ≤ nx') : SHeld h' nx' lo vr l := by
 rcases H with H | ⟨B, h1, h2, h3, h4⟩
 ·exact .inl H
 ·exact .inr ⟨B, by omega, h2, h3, by rw [hh _ h1.1 h1.2]; exact h4⟩
theorem sheld_snap {h : Heap} {nx lo : Nat} {vs : AV} {l : List Pt} (H : SHeld h nx lo vs l) (d : Nat) : ∃ v' ids, snap h (d + 4) vs = some (v', ids) ∧ v'.weak = .ro (ptC l) l.length false := by
 rcases H with ⟨rfl, rfl⟩ | ⟨B, _, h2, rfl, h4⟩
 ·exact ⟨_, _, rfl, rfl⟩
 ·have hl := ptC_length l
  refine ⟨.ro (ptC l) 1 false, [B], ?_, by rw [weak_ro, weaks_ptC, h2]⟩
  rw [snap_sl, h4]
  simp only [Nat.zero_add, hl, h2, Nat.one_mul, Nat.mul_one, Nat.le_refl, if_true, List.drop_zero]
  rw [List.take_of_length_le (by omega), snaps_ptC]
  rfl
theorem mheld_snap {h : Heap} {nx lo : Nat} {vd vp : AV} {m : MdlR} (H : MHeld h nx lo vd vp m) (d : Nat) : (∃ v' ids, snap h (d + 4) vd = some (v', ids) ∧ v'.weak = .ro (cat dofA m.dofs) m.dofs.length false) ∧ ∃ v' ids, snap h (d + 4) vp = some (v', ids) ∧ v'.weak = .ro (cat partA m.parts) m.parts.length false := by
 obtain ⟨S, ws, Bp, hS, hP, hws, hBp, hnp, H⟩ := H
 have key : ∀ cap g, h Bp = some (.cells (cat pwA ws) g false) → ∃ v' ids, snap h (d + 4) (.sl Bp 0 m.parts.length cap 18) = some (v', ids) ∧ v'.weak = .ro (cat partA m.parts) m.parts.length false := by
  intro cap g hg
  obtain ⟨cs', ids, e1, e2⟩ := parts_snap hP (d + 1)
  have hl := pw_length ws
  have hwn : ws.length = m.parts.length := by rw [← hws, List.length_map]
  refine ⟨.ro cs' m.parts.length false, Bp :: ids, ?_, by rw [weak_ro, e2, hws]⟩
  rw [snap_sl, hg]
  simp only [Nat.zero_add, hl, hwn, Nat.le_refl, if_true, List.drop_zero]
  rw [List.take_of_length_le (by omega), e1]
  rfl
 rcases H with ⟨rfl, e2, rfl, e4⟩ | ⟨rfl, e2, Bd, hBd, hnd, hne, rfl, e4⟩
 ·exact ⟨⟨_, _, rfl, by rw [e4]; rfl⟩, key _ _ e2⟩
 ·refine ⟨⟨.ro (cat dofA m.dofs) m.dofs.length false, [Bd], ?_, by rw [weak_ro, weaks_cat]⟩, key _ _ e2⟩
  have hl := cat_length (f := dofA) m.dofs
  rw [snap_sl, e4]
  simp only [Nat.zero_add, hl, Nat.le_refl, if_true, List.drop_zero]
  rw [List.take_of_length_le (by omega), snaps_cat]
  rfl
theorem M_8 [SpC] (l : List Int) (hl : okI l) (hlen : l.length < 2 ^ 60) : M X 8 [isl l] = some (.agg (mdlA (modelV l))) := by
 refine M_of X (fn := Tryz.f8) Tryz.func8 rfl ok_8 mode_8 res_8 _ rfl _ ?_
 intro r hr
 have t0 := M_45 l 0 4 hl (by omega) (by omega)
 have t1 := M_45 l 1 3 hl (by omega) (by omega)
 have t2 := M_45 l 2 3 hl (by omega) (by omega)
 have t3 := M_45 l 3 8 hl (by omega) (by omega)
 have b0 := atN_bd l 0 4 (by omega)
 have b1 := atN_bd l 1 3 (by omega)
 have b2 := atN_bd l 2 3 (by omega)
 have b3 := atN_bd l 3 8 (by omega)
 rw [show (0 : Int).toNat = 0 from rfl] at t0
 rw [show (1 : Int).toNat = 1 from rfl] at t1
 rw [show (2 : Int).toNat = 2 from rfl] at t2
 rw [show (3 : Int).toNat = 3 from rfl] at t3
 have o1 := M_44 (atN l 0 4) 2 (by omega) (by omega)
 have o2 := M_44 (atN l 1 3) 2 (by omega) (by omega)
 simp (maxSteps := 4000000) (disch := first | omega | (simp only [LL]; omega)) only [go_sem, replA_1, replA_4, t0, t1, t2, o1, o2]
 generalize hK : @seqQ X ⟨_⟩ (outR X _ _ _) = K
 have hJ : ∀ (g : GenS) (env : Nat → AV) (heap : Heap) (nx : Nat) (vd vp : AV), g = genV l → env 0 = isl l → env 2 = .ptr 0 0 → env 3 = .ptr 8 0 → 16 ≤ nx → heap 0 = some (.cells [.ro [] 0 true, .ro [] 0 true, .ro [] 0 true, .ro [] 0 true] false false) →
   heap 8 = some (.cells [vd, vp, .ro [] 0 true, .ro [] 0 true] false false) → MHeld heap nx 16 vd vp g.m → g.m.dofs.length ≤ 9 → 1 ≤ g.m.dofs.length → g.m.parts.length ≤ 4 → 2 ≤ g.m.parts.length → g.m.ropes = [] → g.m.skip = [] → (∀ p ∈ g.m.parts, RS p.hy 1) → K .normal ⟨env, heap, nx⟩ := by
  intro g env heap nx vd vp hg g0 g2 g3 hnx h0 h8 H d1 d2 p1 p2 r0 s0 hhy
  obtain ⟨L1, L2⟩ := mheld_len H
  obtain ⟨T1, T2, T3, T4⟩ := mheld_tup H
  have hM : modelV l = (let m1 := if atN l 3 8 % 2 = 1 ∧ g.m.dofs.length < 6 then trainV g.m (atN l 3 8) else g.m
   let m2 := if atN l 3 8 / 2 % 2 = 1 then { m1 with ropes := [⟨0, 1, (m1.parts.getD 1 part0).hx, 0, 0, 0, [(0, 1, 1), (3, 4, 5), (1, 0, 1)], (m1.parts.getD 1 part0).hy + Rat.divInt (atN l 3 8 / 4) 1⟩] } else m1
   if atN l 3 8 = 7 ∧ 2 < m2.parts.length then { m2 with skip := [(1, 2)] } else m2) := by rw [hg]; rfl
  rw [hM] at hr
  clear hM hg
  have n1 := M_50 (atN l 3 8 / 4) ⟨by omega, by omega⟩
  have rn : RS (Rat.divInt (atN l 3 8 / 4) 1) 1 := rs_small (by omega) (by decide)
  generalize atN l 3 8 = more at *
  subst hK
  rw [seqQ_normal, W_seq]
  generalize hK1 : @seqQ X ⟨_⟩ (outR X _ _ _) = K1
  simp (maxSteps := 4000000) (disch := first | omega | (simp only [LL]; omega)) only [go_sem, g0, t3]
  rw [← hK1, seqQ_normal, W_seq]
  generalize hK2 : @seqQ X ⟨_⟩ (outR X _ _ _) = K2
  have hJ2 : ∀ (m : MdlR) (env : Nat → AV) (heap : Heap) (nx : Nat) (vd vp : AV), m = (if more % 2 = 1 ∧ g.m.dofs.length < 6 then trainV g.m more else g.m) → env 2 = .ptr 0 0 → env 3 = .ptr 8 0 → env 14 = .int .i64 more → 16 ≤ nx → heap 0 = some (.cells [.ro [] 0 true, .ro [] 0 true, .ro [] 0 true, .ro [] 0 true] false false) →
    heap 8 = some (.cells [vd, vp, .ro [] 0 true, .ro [] 0 true] false false) → MHeld heap nx 16 vd vp m → m.dofs.length ≤ 20 → m.dofs ≠ [] → m.parts.length ≤ 20 → 2 ≤ m.parts.length → m.ropes = [] → m.skip = [] → (∀ p ∈ m.parts, RS p.hy 1) → K2 .normal ⟨env, heap, nx⟩ := by
   clear g0 g2 g3 hnx h0 h8 H L1 L2 T1 T2 T3 T4 hK1
   intro m env heap nx vd vp hm g2 g3 g14 hnx h0 h8 H d1 d2 p1 p2 r0 s0 hhy
   rw [← hm] at hr
   clear hm
   obtain ⟨L1, L2⟩ := mheld_len H
   obtain ⟨T1, T2, T3, T4⟩ := mheld_tup H
   subst hK2
   rw [seqQ_normal, W_seq]
   generalize hK3 : @seqQ X ⟨_⟩ (outR X _ _ _) = K3
   have hJ3 : ∀ (m' : MdlR) (env : Nat → AV) (heap : Heap) (nx : Nat) (vr : AV), m' = (if more / 2 % 2 = 1 then { m with ropes := [⟨0, 1, (m.parts.getD 1 part0).hx, 0, 0, 0, [(0, 1, 1), (3, 4, 5), (1, 0, 1)], (m.parts.getD 1 part0).hy + Rat.divInt (more / 4) 1⟩] } else m) → env 2 = .ptr 0 0 → env 3 = .ptr 8 0 → env 14 = .int .i64 more → 16 ≤ nx → heap 0 = some (.cells [.ro [] 0 true, .ro [] 0 true, .ro [] 0 true, .ro [] 0 true] false false) →
     heap 8 = some (.cells [vd, vp, vr, .ro [] 0 true] false false) → MHeld heap nx 16 vd vp m' → RHeld heap nx 16 vr m'.ropes → K3 .normal ⟨env, heap, nx⟩ := by
    clear g2 g3 g14 hnx h0 h8 H T1 T2 T3 T4
    intro m' env heap nx vr hm g2 g3 g14 hnx h0 h8 H R
    have hp' : m'.parts = m.parts := by rw [hm]; split <;> rfl
    have hs' : m'.skip = [] := by rw [hm]; split <;> exact s0
    simp only at hr
    rw [← hm] at hr
    clear hm
    subst hK3
    rw [seqQ_normal, W_seq]
    generalize hK4 : @seqQ X ⟨_⟩ (outR X _ _ _) = K4
    have hJ4 : ∀ (m2 : MdlR) (env : Nat → AV) (heap : Heap) (nx : Nat) (vs : AV), m2 = (if more = 7 ∧ 2 < m'.parts.length then { m' with skip := [(1, 2)] } else m') → env 2 = .ptr 0 0 → env 3 = .ptr 8 0 → 16 ≤ nx → heap 0 = some (.cells [.ro [] 0 true, .ro [] 0 true, .ro [] 0 true, .ro [] 0 true] false false) →
      heap 8 = some (.cells [vd, vp, vr, vs] false false) → MHeld heap nx 16 vd vp m2 → RHeld heap nx 16 vr m2.ropes → SHeld heap nx 16 vs m2.skip → K4 .normal ⟨env, heap, nx⟩ := by
     clear g2 g3 g14 hnx h0 h8 H R
     intro m2 env heap nx vs hm g2 g3 hnx h0 h8 H R S
     rw [← hm] at hr
     subst hK4
     rw [seqQ_normal]
     simp (maxSteps := 4000000) (disch := first | omega | (simp only [LL]; omega)) only [go_sem, g2, g3, h0, h8]
     have hk : ∀ (o : Option Obj) (b : Nat), 16 ≤ b → b < nx → upd heap 0 o b = heap b := fun o b hb _ => by simp only [upd_apply]; rw [if_neg (by omega)]
     obtain ⟨⟨a1, i1, e1, w1⟩, a2, i2, e2, w2⟩ := mheld_snap (H.keep (hk _) (Nat.le_refl _)) 7
     obtain ⟨a3, i3, e3, w3⟩ := rheld_snap (R.keep (hk _) (Nat.le_refl _)) 7
     obtain ⟨a4, i4, e4, w4⟩ := sheld_snap (S.keep (hk _) (Nat.le_refl _)) 7
     refine ⟨_, e1, _, e2, _, e3, _, e4, ?_⟩
     show AV.agg [a1.weak, a2.weak, a3.weak, a4.weak] = r
     rw [w1, w2, w3, w4, hr, mdlA_eq]
    obtain ⟨L1', L2'⟩ := mheld_len H
    by_cases c7 : more = 7
    ·by_cases c2 : 2 < m'.parts.length
     ·simp (maxSteps := 4000000) (disch := first | omega | (simp only [LL]; omega)) only [go_sem, g2, g3, g14, h0, h8, L2', replA_1]
      refine hJ4 { m' with skip := [(1, 2)] } _ _ _ (.sl (nx + 64 + 8) 0 1 (some 1) 2) (by rw [if_pos ⟨c7, c2⟩]) (by simp (maxSteps := 4000000) (disch := first | omega | (simp only [LL]; omega)) only [go_sem, g2]) (by simp (maxSteps := 4000000) (disch := first | omega | (simp only [LL]; omega)) only [go_sem, g3]) (by omega) ?_ ?_ (H.keep (fun b hb hb2 => ?_) (by omega)) (R.keep (fun b hb hb2 => ?_) (by omega)) (.inr ⟨nx + 64 + 8, by omega, rfl, rfl, ?_⟩)
      ·repeat first | refine Eq.trans (upd_hit (by omega)) ?_ | refine upd_miss (by omega) ?_
       exact h0
      ·repeat first | refine Eq.trans (upd_hit (by omega)) ?_ | refine upd_miss (by omega) ?_
       rfl
      ·repeat first | refine Eq.trans (upd_hit (by omega)) ?_ | refine upd_miss (by omega) ?_
       rfl
      ·repeat first | refine Eq.trans (upd_hit (by omega)) ?_ | refine upd_miss (by omega) ?_
       rfl
      ·repeat first | refine Eq.trans (upd_hit (by omega)) ?_ | refine upd_miss (by omega) ?_
       rfl
     ·simp (maxSteps := 4000000) (disch := first | omega | (simp only [LL]; omega)) only [go_sem, g2, g3, g14, h0, h8, L2']
      exact hJ4 m' _ _ _ _ (by rw [if_neg (by omega)]) (by simp (maxSteps := 4000000) (disch := first | omega | (simp only [LL]; omega)) only [go_sem, g2]) (by simp (maxSteps := 4000000) (disch := first | omega | (simp only [LL]; omega)) only [go_sem, g3]) (by omega) h0 h8 (H.keep (fun _ _ _ => rfl) (by omega)) (R.keep (fun _ _ _ => rfl) (by omega)) (.inl ⟨rfl, hs'⟩)
    ·simp (maxSteps := 4000000) (disch := first | omega | (simp only [LL]; omega)) only [go_sem, g2, g3, g14, h0, h8, L2']
     exact hJ4 m' _ _ _ _ (by rw [if_neg (by omega)]) (by simp (maxSteps := 4000000) (disch := first | omega | (simp only [LL]; omega)) only [go_sem, g2]) (by simp (maxSteps := 4000000) (disch := first | omega | (simp only [LL]; omega)) only [go_sem, g3]) (by omega) h0 h8 (H.keep (fun _ _ _ => rfl) (by omega)) (R.keep (fun _ _ _ => rfl) (by omega)) (.inl ⟨rfl, hs'⟩)
   by_cases c1 : more / 2 % 2 = 1
   ·obtain ⟨S, ws, Bp, hS, hP, hws, hBp, hnp, H'⟩ := H
    have hwl := pw_length ws
    have hwn : ws.length = m.parts.length := by rw [← hws, List.length_map]
    rcases H' with ⟨e1, e2, e3, e4⟩ | ⟨e1, e2, Bd, hBd, hnd, hne, e3, e4⟩
    ·exact absurd e4 d2
    obtain ⟨w, hw⟩ : ∃ w, ws[1]? = some w := ⟨_, List.getElem?_eq_getElem (by omega)⟩
    have hwp : m.parts.getD 1 part0 = w.2.2 := by rw [← hws, List.getD_eq_getElem?_getD, List.getElem?_map, hw]; rfl
    have hwm : w.2.2 ∈ m.parts := by rw [← hws]; exact List.mem_map.2 ⟨w, List.mem_of_getElem? hw, rfl⟩
    have rhy := hhy _ hwm
    have hd := pw_drop hw
    rw [pwA_eq] at hd
    simp only [Nat.one_mul, Nat.reduceAdd] at hd
    have ta := M_49 (x := w.2.2.hy) (y := Rat.divInt (more / 4) 1) (by omega)
    rw [hwp] at hJ3
    have H0 : MHeld heap nx 16 vd vp m := ⟨S, ws, Bp, hS, hP, hws, hBp, hnp, .inr ⟨e1, e2, Bd, hBd, hnd, hne, e3, e4⟩⟩
    generalize w.2.2.hy + Rat.divInt (more / 4) 1 = len at *
    subst e1
    simp (maxSteps := 4000000) (disch := first | omega | (simp only [LL]; omega)) only [go_sem, g2, g3, g14, h0, h8, e2, hwl, hwn, hd, n1, ta, replA_1, replA_3]
    refine hJ3 { m with ropes := [⟨0, 1, w.2.2.hx, 0, 0, 0, [(0, 1, 1), (3, 4, 5), (1, 0, 1)], len⟩] } _ _ _ (.sl (nx + 32 + 48 + 152) 0 1 none 23) (by rw [if_pos c1]) (by simp (maxSteps := 4000000) (disch := first | omega | (simp only [LL]; omega)) only [go_sem, g2]) (by simp (maxSteps := 4000000) (disch := first | omega | (simp only [LL]; omega)) only [go_sem, g3]) (by simp (maxSteps := 4000000) (disch := first | omega | (simp only [LL]; omega)) only [go_sem, g14]) (by omega) ?_ ?_ (H0.keep (fun b hb hb2 => ?_) (by omega))
     (.inr ⟨nx + 32 + 48 + 152, nx + 32 + 48 + 72, ⟨0, 1, w.2.2.hx, 0, 0, 0, [(0, 1, 1), (3, 4, 5), (1, 0, 1)], len⟩, by omega, by omega, rfl, rfl, rfl, ?_, ?_⟩)
    ·repeat first | refine Eq.trans (upd_hit (by omega)) ?_ | refine upd_miss (by omega) ?_
     exact h0
    ·repeat first | refine Eq.trans (upd_hit (by omega)) ?_ | refine upd_miss (by omega) ?_
     rfl
    ·repeat first | refine Eq.trans (upd_hit (by omega)) ?_ | refine upd_miss (by omega) ?_
     rfl
    ·repeat first | refine Eq.trans (upd_hit (by omega)) ?_ | refine upd_miss (by omega) ?_
     rfl
    ·repeat first | refine Eq.trans (upd_hit (by omega)) ?_ | refine upd_miss (by omega) ?_
     simp only [q0a, q0b, q0c, q0d]
   ·simp (maxSteps := 4000000) (disch := first | omega | (simp only [LL]; omega)) only [go_sem, g2, g3, g14, h0, h8]
    exact hJ3 m _ _ _ _ (by rw [if_neg c1]) (by simp (maxSteps := 4000000) (disch := first | omega | (simp only [LL]; omega)) only [go_sem, g2]) (by simp (maxSteps := 4000000) (disch := first | omega | (simp only [LL]; omega)) only [go_sem, g3]) (by simp (maxSteps := 4000000) (disch := first | omega | (simp only [LL]; omega)) only [go_sem, g14]) (by omega) h0 h8 (H.keep (fun _ _ _ => rfl) (by omega)) (.inl ⟨rfl, r0⟩)
  by_cases c1 : more % 2 = 1
  ·by_cases c2 : g.m.dofs.length < 6
   ·simp (maxSteps := 4000000) (disch := first | omega | (simp only [LL]; omega)) only [go_sem, g2, g3, h0, h8, L1, T1, T2]
    refine train_step g.m more ⟨by omega, by omega⟩ heap _ 16 vd vp _ _ (by omega) (by omega) (by omega) (by intro h; rw [h] at d2; simp at d2) (H.keep (fun _ _ _ => rfl) (by omega)) _ ?_
    intro vd' vp' h' nx' k2 k3 k4
    have h0' := k3 0 (by omega)
    have h8' := k3 8 (by omega)
    rw [h0] at h0'
    rw [h8] at h8'
    obtain ⟨q1, q2, q3, q4⟩ := trainV_len g.m more
    simp (maxSteps := 4000000) (disch := first | omega | (simp only [LL]; omega)) only [go_sem, g2, g3, h0', h8']
    refine hJ2 (trainV g.m more) _ _ _ vd' vp' (by rw [if_pos ⟨c1, c2⟩]) (by simp (maxSteps := 4000000) (disch := first | omega | (simp only [LL]; omega)) only [go_sem, g2]) (by simp (maxSteps := 4000000) (disch := first | omega | (simp only [LL]; omega)) only [go_sem, g3]) (by simp (maxSteps := 4000000) (disch := first | omega | (simp only [LL]; omega)) only [go_sem]) (by omega) ?_ ?_ (k4.keep (fun b hb hb2 => ?_) (by omega)) (by omega) (by intro h; rw [h] at q1; simp at q1) (by omega) (by omega) (by rw [q3]; exact r0) (by rw [q4]; exact s0) (trainV_hy hhy more)
    ·repeat first | refine Eq.trans (upd_hit (by omega)) ?_ | refine upd_miss (by omega) ?_
     exact h0'
    ·repeat first | refine Eq.trans (upd_hit (by omega)) ?_ | refine upd_miss (by omega) ?_
     rfl
    ·repeat first | refine Eq.trans (upd_hit (by omega)) ?_ | refine upd_miss (by omega) ?_
     rfl
   ·simp (maxSteps := 4000000) (disch := first | omega | (simp only [LL]; omega)) only [go_sem, g2, g3, h0, h8, L1]
    exact hJ2 g.m _ _ _ _ _ (by rw [if_neg (by omega)]) (by simp (maxSteps := 4000000) (disch := first | omega | (simp only [LL]; omega)) only [go_sem, g2]) (by simp (maxSteps := 4000000) (disch := first | omega | (simp only [LL]; omega)) only [go_sem, g3]) (by simp (maxSteps := 4000000) (disch := first | omega | (simp only [LL]; omega)) only [go_sem]) (by omega) h0 h8 (H.keep (fun _ _ _ => rfl) (by omega)) (by omega) (by intro h; rw [h] at d2; simp at d2) (by omega) (by omega) r0 s0 hhy
  ·simp (maxSteps := 4000000) (disch := first | omega | (simp only [LL]; omega)) only [go_sem, g2, g3, h0, h8, L1]
   exact hJ2 g.m _ _ _ _ _ (by rw [if_neg (by omega)]) (by simp (maxSteps := 4000000) (disch := first | omega | (simp only [LL]; omega)) only [go_sem, g2]) (by simp (maxSteps := 4000000) (disch := first | omega | (simp only [LL]; omega)) only [go_sem, g3]) (by simp (maxSteps := 4000000) (disch := first | omega | (simp only [LL]; omega)) only [go_sem]) (by omega) h0 h8 (H.keep (fun _ _ _ => rfl) (by omega)) (by omega) (by intro h; rw [h] at d2; simp at d2) (by omega) (by omega) r0 s0 hhy
 have hgr : gen0 l = ⟨⟨[], [⟨groundP, 0, 0, [], Rat.divInt (atN l 0 4) 2, Rat.divInt (atN l 1 3) 2⟩], [], []⟩, -18, 0, 0⟩ := rfl
 have hgen : genGo l (1 + atN l 2 3).toNat 0 (gen0 l) = genV l := rfl
 generalize atN l 2 3 = nb at *
 refine W_loop X (fun (q : Nat × Nat × GenS) s => genGo l q.1 q.2.1 q.2.2 = genV l ∧ (q.2.1 + q.1 : Int) = 1 + nb ∧ s.env 0 = isl l ∧ s.env 2 = .ptr 0 0 ∧ s.env 3 = .ptr 8 0 ∧ s.env 5 = .int .i64 (1 + nb) ∧ s.env 6 = .int .i64 q.2.2.x ∧ s.env 7 = .int .i64 q.2.2.y ∧ s.env 8 = .int .i64 q.2.2.top ∧ s.env 9 = .int .i64 q.2.1 ∧ 16 ≤ s.next ∧
  s.heap 0 = some (.cells [.ro [] 0 true, .ro [] 0 true, .ro [] 0 true, .ro [] 0 true] false false) ∧ (∃ vd vp, s.heap 8 = some (.cells [vd, vp, .ro [] 0 true, .ro [] 0 true] false false) ∧ MHeld s.heap s.next 16 vd vp q.2.2.m) ∧
  q.2.2.m.dofs.length ≤ 3 * q.2.1 ∧ 2 * q.2.1 ≤ q.2.2.m.dofs.length ∧ q.2.2.m.parts.length = 1 + q.2.1 ∧ q.2.2.m.ropes = [] ∧ q.2.2.m.skip = [] ∧ (-18 ≤ q.2.2.x ∧ q.2.2.x ≤ 10 * q.2.1 - 18) ∧ (0 ≤ q.2.2.top ∧ q.2.2.top ≤ 6 * q.2.1) ∧ (∀ p ∈ q.2.2.m.parts, RS p.hy 1)) (fun q => q.1) ?_ ((1 + nb).toNat, 0, gen0 l) _ ?_
 ·clear o1 o2 t0 t1 t2 hgr hgen
  rintro ⟨k, i, g⟩ ⟨env, heap, nx⟩ ⟨hG, hik, g0, g2, g3, g5, g6, g7, g8, g9, hnx, h0, ⟨vd, vp, h8, H⟩, d1, d2, d3, d4, d5, ⟨x1, x2⟩, ⟨y1, y2⟩, hhy⟩
  simp only at hG hik g0 g2 g3 g5 g6 g7 g8 g9 hnx h0 h8 H d1 d2 d3 d4 d5 x1 x2 y1 y2 hhy
  obtain ⟨L1, L2⟩ := mheld_len H
  obtain ⟨T1, T2, T3, T4⟩ := mheld_tup H
  by_cases hk : k = 0
  ·subst hk
   have : (i : Int) = 1 + nb := by omega
   simp (maxSteps := 4000000) (disch := first | omega | (simp only [LL]; omega)) only [go_sem, g0, g2, g3, g5, g6, g7, g8, g9, h0, h8, L1, L2]
   exact hJ g _ _ _ vd vp hG (by simp (maxSteps := 4000000) (disch := first | omega | (simp only [LL]; omega)) only [go_sem, g0]) (by simp (maxSteps := 4000000) (disch := first | omega | (simp only [LL]; omega)) only [go_sem, g2]) (by simp (maxSteps := 4000000) (disch := first | omega | (simp only [LL]; omega)) only [go_sem, g3]) (by omega) h0 h8 (H.keep (fun _ _ _ => rfl) (by omega)) (by omega) (by omega) (by omega) (by omega) d4 d5 hhy
  ·obtain ⟨k, rfl⟩ : ∃ k', k = k' + 1 := ⟨k - 1, by omega⟩
   have hi : (i : Int) < 1 + nb := by omega
   by_cases h5 : g.m.dofs.length < 5
   ·have hG' : genGo l k (i + 1) (stepV g (atN l (4 + 2 * i) 432) (atN l (5 + 2 * i) 7)) = genV l := by
     rw [← hG, genGo, if_pos h5]
    have a1 := M_45 l ((4 + 2 * i : Nat) : Int) 432 hl (by omega) (by omega)
    have a2 := M_45 l ((5 + 2 * i : Nat) : Int) 7 hl (by omega) (by omega)
    rw [Int.toNat_natCast] at a1 a2
    have c1 := atN_bd l (4 + 2 * i) 432 (by omega)
    have c2 := atN_bd l (5 + 2 * i) 7 (by omega)
    have u1 : (4 : Int) + 2 * (i : Int) = ((4 + 2 * i : Nat) : Int) := by omega
    have u2 : (5 : Int) + 2 * (i : Int) = ((5 + 2 * i : Nat) : Int) := by omega
    generalize atN l (4 + 2 * i) 432 = n at *
    generalize atN l (5 + 2 * i) 7 = how at *
    have v1 := M_46 n ⟨by omega, by omega⟩
    have hgt1 := hgt_bd (arnd n 6)
    have shl := shp_len (arnd n 6)
    have hptl := ptC_length (shp (arnd n 6))
    unfold stepV at hG'
    simp only at hG'
    generalize arnd n 6 = sk at *
    by_cases cA : 0 < g.top ∧ how < 3
    ·rw [if_pos cA, if_pos cA] at hG'
     rw [show decide (how = 6 ∧ g.m.dofs.length < 4) = false from decide_eq_false (by omega)] at hG'
     simp (maxSteps := 4000000) (disch := first | omega | (simp only [LL]; omega)) only [go_sem, g0, g2, g3, g5, g6, g7, g8, g9, h0, h8, L1, L2, T1, T2, u1, u2, a1, a2, v1, hptl, weaks_ptC]
     refine block_step g.m (shp sk) (by omega) _ _ _ ⟨by omega, by omega⟩ ⟨by omega, by omega⟩ ⟨by omega, by omega⟩ _ heap _ 16 vd vp _ _ (by omega) (by omega) (by omega) (H.keep (fun _ _ _ => rfl) (by omega)) _ ?_
     intro vd' vp' h' nx' k2 k3 k4
     have h0' := k3 0 (by omega)
     have h8' := k3 8 (by omega)
     rw [h0] at h0'
     rw [h8] at h8'
     obtain ⟨q1, q2, q3, q4⟩ := blockV_len g.m (shp sk) (g.x) (g.top) (n / 6) false
     have q5 := blockV_hy hhy (s := shp sk) (x := g.x) (y := g.top) (n := n / 6) (w := false) ⟨by omega, by omega⟩
     simp only [Bool.false_eq_true, if_false, if_true] at q1
     generalize blockV g.m (shp sk) (g.x) (g.top) (n / 6) false = M' at *
     by_cases hz : 0 < hgt sk
     ·rw [if_pos hz] at hG'
      simp (maxSteps := 4000000) (disch := first | omega | (simp only [LL]; omega)) only [go_sem, g0, g2, g3, g5, g6, g7, g8, g9, h0', h8', outC_ret]
      refine ⟨(k, i + 1, _), ⟨hG', ?_⟩, by omega⟩
      repeat' apply And.intro
      all_goals try dsimp only
      all_goals first | omega | rfl | (congr 1; omega) | exact h0' | exact ⟨vd', vp', rfl, k4.keep (fun b hb _ => by simp only [upd_apply]; rw [if_neg (by omega)]) (by omega)⟩ | (rw [q3]; exact d4) | (rw [q4]; exact d5) | exact q5
     ·rw [if_neg hz] at hG'
      simp (maxSteps := 4000000) (disch := first | omega | (simp only [LL]; omega)) only [go_sem, g0, g2, g3, g5, g6, g7, g8, g9, h0', h8', outC_ret]
      refine ⟨(k, i + 1, _), ⟨hG', ?_⟩, by omega⟩
      repeat' apply And.intro
      all_goals try dsimp only
      all_goals first | omega | rfl | (congr 1; omega) | exact h0' | exact ⟨vd', vp', rfl, k4.keep (fun b hb _ => by simp only [upd_apply]; rw [if_neg (by omega)]) (by omega)⟩ | (rw [q3]; exact d4) | (rw [q4]; exact d5) | exact q5
    ·rw [if_neg cA, if_neg cA] at hG'
     have cA' : ¬ (0 < g.top) ∨ ¬ (how < 3) := by omega
     by_cases ct : 0 < g.top
     ·have ch : ¬ how < 3 := by omega
      by_cases cB : 4 < how
      ·rw [if_pos cB] at hG'
       by_cases c6 : how = 6
       ·by_cases c4 : g.m.dofs.length < 4
        ·rw [show decide (how = 6 ∧ g.m.dofs.length < 4) = true from decide_eq_true ⟨by omega, by omega⟩] at hG'
         simp (maxSteps := 4000000) (disch := first | omega | (simp only [LL]; omega)) only [go_sem, g0, g2, g3, g5, g6, g7, g8, g9, h0, h8, L1, L2, T1, T2, u1, u2, a1, a2, v1, hptl, weaks_ptC]
         refine block_step g.m (shp sk) (by omega) _ _ _ ⟨by omega, by omega⟩ ⟨by omega, by omega⟩ ⟨by omega, by omega⟩ _ heap _ 16 vd vp _ _ (by omega) (by omega) (by omega) (H.keep (fun _ _ _ => rfl) (by omega)) _ ?_
         intro vd' vp' h' nx' k2 k3 k4
         have h0' := k3 0 (by omega)
         have h8' := k3 8 (by omega)
         rw [h0] at h0'
         rw [h8] at h8'
         obtain ⟨q1, q2, q3, q4⟩ := blockV_len g.m (shp sk) (g.x + 10) (1 + n % 4) (n / 6) true
         have q5 := blockV_hy hhy (s := shp sk) (x := g.x + 10) (y := 1 + n % 4) (n := n / 6) (w := true) ⟨by omega, by omega⟩
         simp only [Bool.false_eq_true, if_false, if_true] at q1
         generalize blockV g.m (shp sk) (g.x + 10) (1 + n % 4) (n / 6) true = M' at *
         by_cases hz : 0 < hgt sk
         ·rw [if_pos hz] at hG'
          simp (maxSteps := 4000000) (disch := first | omega | (simp only [LL]; omega)) only [go_sem, g0, g2, g3, g5, g6, g7, g8, g9, h0', h8', outC_ret]
          refine ⟨(k, i + 1, _), ⟨hG', ?_⟩, by omega⟩
          repeat' apply And.intro
          all_goals try dsimp only
          all_goals first | omega | rfl | (congr 1; omega) | exact h0' | exact ⟨vd', vp', rfl, k4.keep (fun b hb _ => by simp only [upd_apply]; rw [if_neg (by omega)]) (by omega)⟩ | (rw [q3]; exact d4) | (rw [q4]; exact d5) | exact q5
         ·rw [if_neg hz] at hG'
          simp (maxSteps := 4000000) (disch := first | omega | (simp only [LL]; omega)) only [go_sem, g0, g2, g3, g5, g6, g7, g8, g9, h0', h8', outC_ret]
          refine ⟨(k, i + 1, _), ⟨hG', ?_⟩, by omega⟩
          repeat' apply And.intro
          all_goals try dsimp only
          all_goals first | omega | rfl | (congr 1; omega) | exact h0' | exact ⟨vd', vp', rfl, k4.keep (fun b hb _ => by simp only [upd_apply]; rw [if_neg (by omega)]) (by omega)⟩ | (rw [q3]; exact d4) | (rw [q4]; exact d5) | exact q5
        ·rw [show decide (how = 6 ∧ g.m.dofs.length < 4) = false from decide_eq_false (by omega)] at hG'
         simp (maxSteps := 4000000) (disch := first | omega | (simp only [LL]; omega)) only [go_sem, g0, g2, g3, g5, g6, g7, g8, g9, h0, h8, L1, L2, T1, T2, u1, u2, a1, a2, v1, hptl, weaks_ptC]
         refine block_step g.m (shp sk) (by omega) _ _ _ ⟨by omega, by omega⟩ ⟨by omega, by omega⟩ ⟨by omega, by omega⟩ _ heap _ 16 vd vp _ _ (by omega) (by omega) (by omega) (H.keep (fun _ _ _ => rfl) (by omega)) _ ?_
         intro vd' vp' h' nx' k2 k3 k4
         have h0' := k3 0 (by omega)
         have h8' := k3 8 (by omega)
         rw [h0] at h0'
         rw [h8] at h8'
         obtain ⟨q1, q2, q3, q4⟩ := blockV_len g.m (shp sk) (g.x + 10) (1 + n % 4) (n / 6) false
         have q5 := blockV_hy hhy (s := shp sk) (x := g.x + 10) (y := 1 + n % 4) (n := n / 6) (w := false) ⟨by omega, by omega⟩
         simp only [Bool.false_eq_true, if_false, if_true] at q1
         generalize blockV g.m (shp sk) (g.x + 10) (1 + n % 4) (n / 6) false = M' at *
         by_cases hz : 0 < hgt sk
         ·rw [if_pos hz] at hG'
          simp (maxSteps := 4000000) (disch := first | omega | (simp only [LL]; omega)) only [go_sem, g0, g2, g3, g5, g6, g7, g8, g9, h0', h8', outC_ret]
          refine ⟨(k, i + 1, _), ⟨hG', ?_⟩, by omega⟩
          repeat' apply And.intro
          all_goals try dsimp only
          all_goals first | omega | rfl | (congr 1; omega) | exact h0' | exact ⟨vd', vp', rfl, k4.keep (fun b hb _ => by simp only [upd_apply]; rw [if_neg (by omega)]) (by omega)⟩ | (rw [q3]; exact d4) | (rw [q4]; exact d5) | exact q5
         ·rw [if_neg hz] at hG'
          simp (maxSteps := 4000000) (disch := first | omega | (simp only [LL]; omega)) only [go_sem, g0, g2, g3, g5, g6, g7, g8, g9, h0', h8', outC_ret]
          refine ⟨(k, i + 1, _), ⟨hG', ?_⟩, by omega⟩
          repeat' apply And.intro
          all_goals try dsimp only
          all_goals first | omega | rfl | (congr 1; omega) | exact h0' | exact ⟨vd', vp', rfl, k4.keep (fun b hb _ => by simp only [upd_apply]; rw [if_neg (by omega)]) (by omega)⟩ | (rw [q3]; exact d4) | (rw [q4]; exact d5) | exact q5
       ·rw [show decide (how = 6 ∧ g.m.dofs.length < 4) = false from decide_eq_false (by omega)] at hG'
        simp (maxSteps := 4000000) (disch := first | omega | (simp only [LL]; omega)) only [go_sem, g0, g2, g3, g5, g6, g7, g8, g9, h0, h8, L1, L2, T1, T2, u1, u2, a1, a2, v1, hptl, weaks_ptC]
        refine block_step g.m (shp sk) (by omega) _ _ _ ⟨by omega, by omega⟩ ⟨by omega, by omega⟩ ⟨by omega, by omega⟩ _ heap _ 16 vd vp _ _ (by omega) (by omega) (by omega) (H.keep (fun _ _ _ => rfl) (by omega)) _ ?_
        intro vd' vp' h' nx' k2 k3 k4
        have h0' := k3 0 (by omega)
        have h8' := k3 8 (by omega)
        rw [h0] at h0'
        rw [h8] at h8'
        obtain ⟨q1, q2, q3, q4⟩ := blockV_len g.m (shp sk) (g.x + 10) (1 + n % 4) (n / 6) false
        have q5 := blockV_hy hhy (s := shp sk) (x := g.x + 10) (y := 1 + n % 4) (n := n / 6) (w := false) ⟨by omega, by omega⟩
        simp only [Bool.false_eq_true, if_false, if_true] at q1
        generalize blockV g.m (shp sk) (g.x + 10) (1 + n % 4) (n / 6) false = M' at *
        by_cases hz : 0 < hgt sk
        ·rw [if_pos hz] at hG'
         simp (maxSteps := 4000000) (disch := first | omega | (simp only [LL]; omega)) only [go_sem, g0, g2, g3, g5, g6, g7, g8, g9, h0', h8', outC_ret]
         refine ⟨(k, i + 1, _), ⟨hG', ?_⟩, by omega⟩
         repeat' apply And.intro
         all_goals try dsimp only
         all_goals first | omega | rfl | (congr 1; omega) | exact h0' | exact ⟨vd', vp', rfl, k4.keep (fun b hb _ => by simp only [upd_apply]; rw [if_neg (by omega)]) (by omega)⟩ | (rw [q3]; exact d4) | (rw [q4]; exact d5) | exact q5
        ·rw [if_neg hz] at hG'
         simp (maxSteps := 4000000) (disch := first | omega | (simp only [LL]; omega)) only [go_sem, g0, g2, g3, g5, g6, g7, g8, g9, h0', h8', outC_ret]
         refine ⟨(k, i + 1, _), ⟨hG', ?_⟩, by omega⟩
         repeat' apply And.intro
         all_goals try dsimp only
         all_goals first | omega | rfl | (congr 1; omega) | exact h0' | exact ⟨vd', vp', rfl, k4.keep (fun b hb _ => by simp only [upd_apply]; rw [if_neg (by omega)]) (by omega)⟩ | (rw [q3]; exact d4) | (rw [q4]; exact d5) | exact q5
      ·rw [if_neg cB] at hG'
       rw [show decide (how = 6 ∧ g.m.dofs.length < 4) = false from decide_eq_false (by omega)] at hG'
       simp (maxSteps := 4000000) (disch := first | omega | (simp only [LL]; omega)) only [go_sem, g0, g2, g3, g5, g6, g7, g8, g9, h0, h8, L1, L2, T1, T2, u1, u2, a1, a2, v1, hptl, weaks_ptC]
       refine block_step g.m (shp sk) (by omega) _ _ _ ⟨by omega, by omega⟩ ⟨by omega, by omega⟩ ⟨by omega, by omega⟩ _ heap _ 16 vd vp _ _ (by omega) (by omega) (by omega) (H.keep (fun _ _ _ => rfl) (by omega)) _ ?_
       intro vd' vp' h' nx' k2 k3 k4
       have h0' := k3 0 (by omega)
       have h8' := k3 8 (by omega)
       rw [h0] at h0'
       rw [h8] at h8'
       obtain ⟨q1, q2, q3, q4⟩ := blockV_len g.m (shp sk) (g.x + 10) (0) (n / 6) false
       have q5 := blockV_hy hhy (s := shp sk) (x := g.x + 10) (y := 0) (n := n / 6) (w := false) ⟨by omega, by omega⟩
       simp only [Bool.false_eq_true, if_false, if_true] at q1
       generalize blockV g.m (shp sk) (g.x + 10) (0) (n / 6) false = M' at *
       by_cases hz : 0 < hgt sk
       ·rw [if_pos hz] at hG'
        simp (maxSteps := 4000000) (disch := first | omega | (simp only [LL]; omega)) only [go_sem, g0, g2, g3, g5, g6, g7, g8, g9, h0', h8', outC_ret]
        refine ⟨(k, i + 1, _), ⟨hG', ?_⟩, by omega⟩
        repeat' apply And.intro
        all_goals try dsimp only
        all_goals first | omega | rfl | (congr 1; omega) | exact h0' | exact ⟨vd', vp', rfl, k4.keep (fun b hb _ => by simp only [upd_apply]; rw [if_neg (by omega)]) (by omega)⟩ | (rw [q3]; exact d4) | (rw [q4]; exact d5) | exact q5
       ·rw [if_neg hz] at hG'
        simp (maxSteps := 4000000) (disch := first | omega | (simp only [LL]; omega)) only [go_sem, g0, g2, g3, g5, g6, g7, g8, g9, h0', h8', outC_ret]
        refine ⟨(k, i + 1, _), ⟨hG', ?_⟩, by omega⟩
        repeat' apply And.intro
        all_goals try dsimp only
        all_goals first | omega | rfl | (congr 1; omega) | exact h0' | exact ⟨vd', vp', rfl, k4.keep (fun b hb _ => by simp only [upd_apply]; rw [if_neg (by omega)]) (by omega)⟩ | (rw [q3]; exact d4) | (rw [q4]; exact d5) | exact q5
     ·by_cases cB : 4 < how
      ·rw [if_pos cB] at hG'
       by_cases c6 : how = 6
       ·by_cases c4 : g.m.dofs.length < 4
        ·rw [show decide (how = 6 ∧ g.m.dofs.length < 4) = true from decide_eq_true ⟨by omega, by omega⟩] at hG'
         simp (maxSteps := 4000000) (disch := first | omega | (simp only [LL]; omega)) only [go_sem, g0, g2, g3, g5, g6, g7, g8, g9, h0, h8, L1, L2, T1, T2, u1, u2, a1, a2, v1, hptl, weaks_ptC]
         refine block_step g.m (shp sk) (by omega) _ _ _ ⟨by omega, by omega⟩ ⟨by omega, by omega⟩ ⟨by omega, by omega⟩ _ heap _ 16 vd vp _ _ (by omega) (by omega) (by omega) (H.keep (fun _ _ _ => rfl) (by omega)) _ ?_
         intro vd' vp' h' nx' k2 k3 k4
         have h0' := k3 0 (by omega)
         have h8' := k3 8 (by omega)
         rw [h0] at h0'
         rw [h8] at h8'
         obtain ⟨q1, q2, q3, q4⟩ := blockV_len g.m (shp sk) (g.x + 10) (1 + n % 4) (n / 6) true
         have q5 := blockV_hy hhy (s := shp sk) (x := g.x + 10) (y := 1 + n % 4) (n := n / 6) (w := true) ⟨by omega, by omega⟩
         simp only [Bool.false_eq_true, if_false, if_true] at q1
         generalize blockV g.m (shp sk) (g.x + 10) (1 + n % 4) (n / 6) true = M' at *
         by_cases hz : 0 < hgt sk
         ·rw [if_pos hz] at hG'
          simp (maxSteps := 4000000) (disch := first | omega | (simp only [LL]; omega)) only [go_sem, g0, g2, g3, g5, g6, g7, g8, g9, h0', h8', outC_ret]
          refine ⟨(k, i + 1, _), ⟨hG', ?_⟩, by omega⟩
          repeat' apply And.intro
          all_goals try dsimp only
          all_goals first | omega | rfl | (congr 1; omega) | exact h0' | exact ⟨vd', vp', rfl, k4.keep (fun b hb _ => by simp only [upd_apply]; rw [if_neg (by omega)]) (by omega)⟩ | (rw [q3]; exact d4) | (rw [q4]; exact d5) | exact q5
         ·rw [if_neg hz] at hG'
          simp (maxSteps := 4000000) (disch := first | omega | (simp only [LL]; omega)) only [go_sem, g0, g2, g3, g5, g6, g7, g8, g9, h0', h8', outC_ret]
          refine ⟨(k, i + 1, _), ⟨hG', ?_⟩, by omega⟩
          repeat' apply And.intro
          all_goals try dsimp only
          all_goals first | omega | rfl | (congr 1; omega) | exact h0' | exact ⟨vd', vp', rfl, k4.keep (fun b hb _ => by simp only [upd_apply]; rw [if_neg (by omega)]) (by omega)⟩ | (rw [q3]; exact d4) | (rw [q4]; exact d5) | exact q5
        ·rw [show decide (how = 6 ∧ g.m.dofs.length < 4) = false from decide_eq_false (by omega)] at hG'
         simp (maxSteps := 4000000) (disch := first | omega | (simp only [LL]; omega)) only [go_sem, g0, g2, g3, g5, g6, g7, g8, g9, h0, h8, L1, L2, T1, T2, u1, u2, a1, a2, v1, hptl, weaks_ptC]
         refine block_step g.m (shp sk) (by omega) _ _ _ ⟨by omega, by omega⟩ ⟨by omega, by omega⟩ ⟨by omega, by omega⟩ _ heap _ 16 vd vp _ _ (by omega) (by omega) (by omega) (H.keep (fun _ _ _ => rfl) (by omega)) _ ?_
         intro vd' vp' h' nx' k2 k3 k4
         have h0' := k3 0 (by omega)
         have h8' := k3 8 (by omega)
         rw [h0] at h0'
         rw [h8] at h8'
         obtain ⟨q1, q2, q3, q4⟩ := blockV_len g.m (shp sk) (g.x + 10) (1 + n % 4) (n / 6) false
         have q5 := blockV_hy hhy (s := shp sk) (x := g.x + 10) (y := 1 + n % 4) (n := n / 6) (w := false) ⟨by omega, by omega⟩
         simp only [Bool.false_eq_true, if_false, if_true] at q1
         generalize blockV g.m (shp sk) (g.x + 10) (1 + n % 4) (n / 6) false = M' at *
         by_cases hz : 0 < hgt sk
         ·rw [if_pos hz] at hG'
          simp (maxSteps := 4000000) (disch := first | omega | (simp only [LL]; omega)) only [go_sem, g0, g2, g3, g5, g6, g7, g8, g9, h0', h8', outC_ret]
          refine ⟨(k, i + 1, _), ⟨hG', ?_⟩, by omega⟩
          repeat' apply And.intro
          all_goals try dsimp only
          all_goals first | omega | rfl | (congr 1; omega) | exact h0' | exact ⟨vd', vp', rfl, k4.keep (fun b hb _ => by simp only [upd_apply]; rw [if_neg (by omega)]) (by omega)⟩ | (rw [q3]; exact d4) | (rw [q4]; exact d5) | exact q5
         ·rw [if_neg hz] at hG'
          simp (maxSteps := 4000000) (disch := first | omega | (simp only [LL]; omega)) only [go_sem, g0, g2, g3, g5, g6, g7, g8, g9, h0', h8', outC_ret]
          refine ⟨(k, i + 1, _), ⟨hG', ?_⟩, by omega⟩
          repeat' apply And.intro
          all_goals try dsimp only
          all_goals first | omega | rfl | (congr 1; omega) | exact h0' | exact ⟨vd', vp', rfl, k4.keep (fun b hb _ => by simp only [upd_apply]; rw [if_neg (by omega)]) (by omega)⟩ | (rw [q3]; exact d4) | (rw [q4]; exact d5) | exact q5
       ·rw [show decide (how = 6 ∧ g.m.dofs.length < 4) = false from decide_eq_false (by omega)] at hG'
        simp (maxSteps := 4000000) (disch := first | omega | (simp only [LL]; omega)) only [go_sem, g0, g2, g3, g5, g6, g7, g8, g9, h0, h8, L1, L2, T1, T2, u1, u2, a1, a2, v1, hptl, weaks_ptC]
        refine block_step g.m (shp sk) (by omega) _ _ _ ⟨by omega, by omega⟩ ⟨by omega, by omega⟩ ⟨by omega, by omega⟩ _ heap _ 16 vd vp _ _ (by omega) (by omega) (by omega) (H.keep (fun _ _ _ => rfl) (by omega)) _ ?_
        intro vd' vp' h' nx' k2 k3 k4
        have h0' := k3 0 (by omega)
        have h8' := k3 8 (by omega)
        rw [h0] at h0'
        rw [h8] at h8'
        obtain ⟨q1, q2, q3, q4⟩ := blockV_len g.m (shp sk) (g.x + 10) (1 + n % 4) (n / 6) false
        have q5 := blockV_hy hhy (s := shp sk) (x := g.x + 10) (y := 1 + n % 4) (n := n / 6) (w := false) ⟨by omega, by omega⟩
        simp only [Bool.false_eq_true, if_false, if_true] at q1
        generalize blockV g.m (shp sk) (g.x + 10) (1 + n % 4) (n / 6) false = M' at *
        by_cases hz : 0 < hgt sk
        ·rw [if_pos hz] at hG'
         simp (maxSteps := 4000000) (disch := first | omega | (simp only [LL]; omega)) only [go_sem, g0, g2, g3, g5, g6, g7, g8, g9, h0', h8', outC_ret]
         refine ⟨(k, i + 1, _), ⟨hG', ?_⟩, by omega⟩
         repeat' apply And.intro
         all_goals try dsimp only
         all_goals first | omega | rfl | (congr 1; omega) | exact h0' | exact ⟨vd', vp', rfl, k4.keep (fun b hb _ => by simp only [upd_apply]; rw [if_neg (by omega)]) (by omega)⟩ | (rw [q3]; exact d4) | (rw [q4]; exact d5) | exact q5
        ·rw [if_neg hz] at hG'
         simp (maxSteps := 4000000) (disch := first | omega | (simp only [LL]; omega)) only [go_sem, g0, g2, g3, g5, g6, g7, g8, g9, h0', h8', outC_ret]
         refine ⟨(k, i + 1, _), ⟨hG', ?_⟩, by omega⟩
         repeat' apply And.intro
         all_goals try dsimp only
         all_goals first | omega | rfl | (congr 1; omega) | exact h0' | exact ⟨vd', vp', rfl, k4.keep (fun b hb _ => by simp only [upd_apply]; rw [if_neg (by omega)]) (by omega)⟩ | (rw [q3]; exact d4) | (rw [q4]; exact d5) | exact q5
      ·rw [if_neg cB] at hG'
       rw [show decide (how = 6 ∧ g.m.dofs.length < 4) = false from decide_eq_false (by omega)] at hG'
       simp (maxSteps := 4000000) (disch := first | omega | (simp only [LL]; omega)) only [go_sem, g0, g2, g3, g5, g6, g7, g8, g9, h0, h8, L1, L2, T1, T2, u1, u2, a1, a2, v1, hptl, weaks_ptC]
       refine block_step g.m (shp sk) (by omega) _ _ _ ⟨by omega, by omega⟩ ⟨by omega, by omega⟩ ⟨by omega, by omega⟩ _ heap _ 16 vd vp _ _ (by omega) (by omega) (by omega) (H.keep (fun _ _ _ => rfl) (by omega)) _ ?_
       intro vd' vp' h' nx' k2 k3 k4
       have h0' := k3 0 (by omega)
       have h8' := k3 8 (by omega)
       rw [h0] at h0'
       rw [h8] at h8'
       obtain ⟨q1, q2, q3, q4⟩ := blockV_len g.m (shp sk) (g.x + 10) (0) (n / 6) false
       have q5 := blockV_hy hhy (s := shp sk) (x := g.x + 10) (y := 0) (n := n / 6) (w := false) ⟨by omega, by omega⟩
       simp only [Bool.false_eq_true, if_false, if_true] at q1
       generalize blockV g.m (shp sk) (g.x + 10) (0) (n / 6) false = M' at *
       by_cases hz : 0 < hgt sk
       ·rw [if_pos hz] at hG'
        simp (maxSteps := 4000000) (disch := first | omega | (simp only [LL]; omega)) only [go_sem, g0, g2, g3, g5, g6, g7, g8, g9, h0', h8', outC_ret]
        refine ⟨(k, i + 1, _), ⟨hG', ?_⟩, by omega⟩
        repeat' apply And.intro
        all_goals try dsimp only
        all_goals first | omega | rfl | (congr 1; omega) | exact h0' | exact ⟨vd', vp', rfl, k4.keep (fun b hb _ => by simp only [upd_apply]; rw [if_neg (by omega)]) (by omega)⟩ | (rw [q3]; exact d4) | (rw [q4]; exact d5) | exact q5
       ·rw [if_neg hz] at hG'
        simp (maxSteps := 4000000) (disch := first | omega | (simp only [LL]; omega)) only [go_sem, g0, g2, g3, g5, g6, g7, g8, g9, h0', h8', outC_ret]
        refine ⟨(k, i + 1, _), ⟨hG', ?_⟩, by omega⟩
        repeat' apply And.intro
        all_goals try dsimp only
        all_goals first | omega | rfl | (congr 1; omega) | exact h0' | exact ⟨vd', vp', rfl, k4.keep (fun b hb _ => by simp only [upd_apply]; rw [if_neg (by omega)]) (by omega)⟩ | (rw [q3]; exact d4) | (rw [q4]; exact d5) | exact q5
   ·have hG' : g = genV l := by rw [← hG, genGo, if_neg h5]
    simp (maxSteps := 4000000) (disch := first | omega | (simp only [LL]; omega)) only [go_sem, g0, g2, g3, g5, g6, g7, g8, g9, h0, h8, L1, L2]
    exact hJ g _ _ _ vd vp hG' (by simp (maxSteps := 4000000) (disch := first | omega | (simp only [LL]; omega)) only [go_sem, g0]) (by simp (maxSteps := 4000000) (disch := first | omega | (simp only [LL]; omega)) only [go_sem, g2]) (by simp (maxSteps := 4000000) (disch := first | omega | (simp only [LL]; omega)) only [go_sem, g3]) (by omega) h0 h8 (H.keep (fun _ _ _ => rfl) (by omega)) (by omega) (by omega) (by omega) (by omega) d4 d5 hhy
 ·simp (maxSteps := 4000000) (disch := first | omega | (simp only [LL]; omega)) only [go_sem]
  refine ⟨hgen, by omega, rfl, rfl, rfl, ⟨_, _, rfl, ?_⟩, ?_⟩
  ·refine ⟨[48], [(.sl 48 0 4 (some 4) 2, .ro [] 0 false, ⟨groundP, 0, 0, [], Rat.divInt (atN l 0 4) 2, Rat.divInt (atN l 1 3) 2⟩)], 128, by intro b hb; simp at hb; omega, ?_, rfl, by omega, by simp, .inl ⟨rfl, ?_, rfl, rfl⟩⟩
   ·intro w hw
    simp only [List.mem_cons, List.not_mem_nil, or_false] at hw
    subst hw
    exact ⟨.inr ⟨48, _, false, false, by simp, rfl, rfl, rfl⟩, .inl ⟨_, rfl⟩⟩
   ·simp only [cat_cons, cat_nil, pwA_eq, q0a, q0b, q0c, q0d, List.append_nil]
    rfl
  ·refine ⟨by simp [gen0], by simp [gen0], by simp [gen0], by simp [gen0], by simp [gen0], by simp [gen0], ?_⟩
   intro p hp
   simp only [gen0, List.mem_cons, List.not_mem_nil, or_false] at hp
   subst hp
   exact rs_zero
def okw (p : Pt) : Prop := (-4194304 ≤ p.1 ∧ p.1 ≤ 4194304) ∧ (-4194304 ≤ p.2 ∧ p.2 ≤ 4194304)
theorem okw_getD {l : List Pt} (h : ∀ p ∈ l, okw p) (i : Nat) : okw (l.getD i (0, 0)) := by
 rw [List.getD_eq_getElem?_getD]
 by_cases hi : i < l.length
 ·rw [List.getElem?_eq_getElem hi]; exact h _ (List.getElem_mem hi)
 ·rw [List.getElem?_eq_none (by omega)]; exact ⟨⟨by decide, by decide⟩, by decide, by decide⟩
theorem take_snoc_pt (l : List Pt) (i : Nat) (h : i < l.length) : l.take (i + 1) = l.take i ++ [((l.getD i (0, 0)).1, (l.getD i (0, 0)).2)] := by
 rw [List.take_succ_eq_append_getElem h, List.getD_eq_getElem?_getD, List.getElem?_eq_getElem h]; rfl
theorem fresh_pt {h : Heap} {A : Nat} {c : Option Nat} {g : Bool} {l : List Pt} (hA : h A = some (.cells (ptC l) g false)) : resultTop h 12 (.sl A 0 l.length c 2) = some (.fresh (ptC l) l.length 2) := by
 have f1 := fresh_sl (c := c) 12 hA (by rw [ptC_length, Nat.mul_comm]) (show 2 ≠ 0 by decide) (snaps_ptC h 11 l)
 show nx (freshen h depthA (.sl A 0 l.length c 2)) _ = _
 rw [show freshen h depthA (.sl A 0 l.length c 2) = _ from f1]
 rfl
theorem M_120 [SpC] (l : List Pt) (h : ∀ p ∈ l, okw p) (h0 : 0 < l.length) (hl : l.length < 2 ^ 20) : M X 120 [.ro (ptC l) l.length false, .int .i64 0, .int .i64 0] = some (.fresh (ptC l) l.length 2) := by
 refine M_of X (fn := Tryz.f120) Tryz.func120 rfl ok_120 mode_120 res_120 _ rfl _ ?_
 intro r hr
 have hl2 := ptC_length l
 simp (maxSteps := 4000000) (disch := first | omega | (simp only [LL]; omega)) only [go_sem, hl2]
 refine W_loop X (fun (i : Nat) s => i ≤ l.length ∧ s.env 0 = .ro (ptC l) l.length false ∧ s.env 1 = .int .i64 0 ∧ s.env 2 = .int .i64 0 ∧ s.env 8 = .int .i64 i ∧ GrowC 0 s.heap s.next (s.env 7) (ptC (l.take i)) i 2) (fun i => l.length - i) ?_ 0 _ ?_
 ·rintro i ⟨env, heap, nx⟩ ⟨hi, g0, g1, g2, g8, hgr⟩
  simp only at g0 g1 g2 g8 hgr
  have hpl := ptC_length (l.take i)
  rw [List.length_take, Nat.min_eq_left hi] at hpl
  by_cases h1 : i < l.length
  ·have hd := ptC_drop l i h1
   obtain ⟨⟨k1, k2⟩, k3, k4⟩ := okw_getD h i
   have hs := congrArg ptC (take_snoc_pt l i h1)
   rw [ptC_snocM] at hs
   generalize l.getD i (0, 0) = p at *
   rcases hgr with ⟨e3, ec, e0⟩ | ⟨B, hB, e3, eB⟩
   ·simp (maxSteps := 4000000) (disch := first | omega | (simp only [LL]; omega)) only [go_sem, g0, g1, g2, g8, e3, hl2, hd, replA_1, Int.add_zero]
    refine ⟨i + 1, ?_, by omega⟩
    repeat' apply And.intro
    all_goals first | omega | rfl | (rw [hs, ec, e0]; exact growC_put _ _ _ _ _ _ _ (by omega))
   ·simp (maxSteps := 4000000) (disch := first | omega | (simp only [LL]; omega)) only [go_sem, g0, g1, g2, g8, e3, eB, hl2, hpl, hd, replA_1, Int.add_zero]
    refine ⟨i + 1, ?_, by omega⟩
    repeat' apply And.intro
    all_goals first | omega | rfl | (rw [hs]; exact growC_put _ _ _ _ _ _ _ (by omega))
  ·obtain rfl : i = l.length := by omega
   rw [List.take_length] at hgr hpl
   rcases hgr with ⟨e3, ec, e0⟩ | ⟨B, hB, e3, eB⟩
   ·omega
   ·simp (maxSteps := 4000000) (disch := first | omega | (simp only [LL]; omega)) only [go_sem, g0, g1, g2, g8, e3, hl2]
    refine ⟨_, fresh_pt eB, ?_⟩
    rw [hr]
    show (AV.fresh (ptC l) l.length 2).weak = _
    rw [weak_fresh, weaks_ptC]
 ·simp (maxSteps := 4000000) (disch := first | omega | (simp only [LL]; omega)) only [go_sem]
  exact growC_nil _ _ _ _
def revK (l : List Pt) : Nat → List Pt
 | 0 => l
 | i + 1 => ((revK l i).set i ((revK l i).getD (l.length - 1 - i) (0, 0))).set (l.length - 1 - i) ((revK l i).getD i (0, 0))
theorem revK_len (l : List Pt) : ∀ i, (revK l i).length = l.length
 | 0 => rfl
 | i + 1 => by unfold revK; rw [List.length_set, List.length_set, revK_len l i]
def bigZ (by0 : Int) : Int := ([1048577, -1048577, 1048576, by0.tmod 2097152] : List Int).getD (arnd by0 4).toNat 0
def bentP (l : List Pt) (at0 how by0 : Int) : List Pt :=
 let k := (arnd at0 l.length).toNat
 let p := l.getD k (0, 0)
 if arnd how 6 = 0 then l.set k (p.1 + arnd by0 9 - 4, p.2)
 else if arnd how 6 = 1 then l.set k (p.1, p.2 + arnd by0 9 - 4)
 else if arnd how 6 = 2 then l.take k ++ l.drop (k + 1)
 else if arnd how 6 = 3 then l ++ [p]
 else if arnd how 6 = 4 then revK l (l.length / 2)
 else l.set k (bigZ by0, p.2)
theorem ptC_append (a b : List Pt) : ptC (a ++ b) = ptC a ++ ptC b := by
 induction a with
 | nil => rfl
 | cons p a ih => simp only [ptC, List.cons_append, ih]
theorem ptC_dropl (l : List Pt) (i : Nat) : (ptC l).drop (i * 2) = ptC (l.drop i) := by
 induction l generalizing i with
 | nil => simp [ptC]
 | cons p l ih =>
  cases i with
  | zero => simp
  | succ i => rw [show (i + 1) * 2 = i * 2 + 2 by omega]; simpa [ptC] using ih i
theorem ptC_takel (l : List Pt) (i : Nat) : (ptC l).take (i * 2) = ptC (l.take i) := by
 induction l generalizing i with
 | nil => simp [ptC]
 | cons p l ih =>
  cases i with
  | zero => simp [ptC]
  | succ i => rw [show (i + 1) * 2 = i * 2 + 2 by omega]; simpa [ptC] using ih i
theorem ptC_set1 (l : List Pt) (k : Nat) (h : k < l.length) (x : Int) : splice (ptC l) (k * 2) [.int .i64 x] = ptC (l.set k (x, (l.getD k (0, 0)).2)) := by
 induction l generalizing k with
 | nil => simp at h
 | cons p l ih =>
  cases k with
  | zero => simp [splice, ptC]
  | succ k =>
   have := ih k (by simpa using h)
   rw [show (k + 1) * 2 = k * 2 + 2 by omega]
   simp only [ptC, List.set_cons_succ, List.getD_cons_succ, ← this, splice, List.take_succ_cons, List.cons_append]
   rw [show k * 2 + 2 + [AV.int .i64 x].length = (k * 2 + [AV.int .i64 x].length) + 2 by omega]
   rfl
theorem ptC_set2 (l : List Pt) (k : Nat) (h : k < l.length) (y : Int) : splice (ptC l) (k * 2 + 1) [.int .i64 y] = ptC (l.set k ((l.getD k (0, 0)).1, y)) := by
 induction l generalizing k with
 | nil => simp at h
 | cons p l ih =>
  cases k with
  | zero => simp [splice, ptC]
  | succ k =>
   have := ih k (by simpa using h)
   rw [show (k + 1) * 2 + 1 = k * 2 + 1 + 2 by omega]
   simp only [ptC, List.set_cons_succ, List.getD_cons_succ, ← this, splice, List.take_succ_cons, List.cons_append]
   rw [show k * 2 + 1 + 2 + [AV.int .i64 y].length = (k * 2 + 1 + [AV.int .i64 y].length) + 2 by omega]
   rfl
theorem ptC_set (l : List Pt) (k : Nat) (h : k < l.length) (p : Pt) : splice (ptC l) (k * 2) [.int .i64 p.1, .int .i64 p.2] = ptC (l.set k p) := by
 induction l generalizing k with
 | nil => simp at h
 | cons q l ih =>
  cases k with
  | zero => simp [splice, ptC]
  | succ k =>
   have := ih k (by simpa using h)
   rw [show (k + 1) * 2 = k * 2 + 2 by omega]
   simp only [ptC, List.set_cons_succ, ← this, splice, List.take_succ_cons, List.cons_append]
   rw [show k * 2 + 2 + [AV.int .i64 p.1, AV.int .i64 p.2].length = (k * 2 + [AV.int .i64 p.1, AV.int .i64 p.2].length) + 2 by omega]
   rfl
theorem tmod_bd (n : Int) : -2097151 ≤ n.tmod 2097152 ∧ n.tmod 2097152 ≤ 2097151 := by
 rcases Int.le_total 0 n with h | h
 ·have := Int.tmod_lt_of_pos n (show (0 : Int) < 2097152 by decide)
  have := Int.tmod_nonneg 2097152 h
  omega
 ·have e : n.tmod 2097152 = -((-n).tmod 2097152) := by rw [Int.neg_tmod, Int.neg_neg]
  have := Int.tmod_lt_of_pos (-n) (show (0 : Int) < 2097152 by decide)
  have := Int.tmod_nonneg 2097152 (show 0 ≤ -n by omega)
  omega
theorem M_51 [SpC] (l : List Pt) (at0 how by0 : Int) (hw : ∀ p ∈ l, okw p) (h0 : 0 < l.length) (hl : l.length < 2 ^ 19) (ha : ok64 at0) (hh : ok64 how) (hb : ok64 by0) :
  M X 51 [.ro (ptC l) l.length false, .int .i64 at0, .int .i64 how, .int .i64 by0] = some (.ro (ptC (bentP l at0 how by0)) (bentP l at0 how by0).length false) := by
 refine M_of X (fn := Tryz.f51) Tryz.func51 rfl ok_51 mode_51 res_51 _ rfl _ ?_
 intro r hr
 have hl2 := ptC_length l
 have mv := M_120 l hw h0 (by omega)
 have r1 := M_15 at0 (l.length : Int) ha (by omega)
 have r2 := M_15 by0 9 hb (by omega)
 have r3 := M_15 how 6 hh (by omega)
 have r4 := M_15 by0 4 hb (by omega)
 have b1 := arnd_bd at0 (l.length : Int) (by omega)
 have b2 := arnd_bd by0 9 (by omega)
 have b3 := arnd_bd how 6 (by omega)
 have b4 := arnd_bd by0 4 (by omega)
 have tm := tmod_bd by0
 unfold bentP bigZ at hr
 dsimp only at hr
 generalize arnd at0 (l.length : Int) = k at *
 generalize arnd by0 9 = u at *
 generalize arnd by0 4 = w at *
 have hk : k.toNat < l.length := by omega
 have lk : ((k.toNat : Nat) : Int) = k := by omega
 have hdr := ptC_drop l k.toNat hk
 have hdr1 : (ptC l).drop (k.toNat * 2 + 1) = [.int .i64 (l.getD k.toNat (0, 0)).2] ++ ptC (l.drop (k.toNat + 1)) := by rw [← List.drop_drop, hdr]; rfl
 have htk := ptC_take l k.toNat hk
 have s1 := fun x => ptC_set1 l k.toNat hk x
 have s2 := fun x => ptC_set2 l k.toNat hk x
 have gp := getD_some (l := l) hk (0, 0)
 obtain ⟨⟨w1, w2⟩, w3, w4⟩ := hw _ (List.mem_of_getElem? gp)
 have ls := fun p => ptC_length (l.set k.toNat p)
 simp only [List.length_set] at ls
 have ts : ∀ p, (ptC (l.set k.toNat p)).take (l.length * 2) = ptC (l.set k.toNat p) := fun p => List.take_of_length_le (by rw [ls p]; omega)
 generalize l.getD k.toNat (0, 0) = p at *
 generalize arnd how 6 = c at *
 have hc : c = 0 ∨ c = 1 ∨ c = 2 ∨ c = 3 ∨ c = 4 ∨ c = 5 := by omega
 rcases hc with rfl | rfl | rfl | rfl | rfl | rfl
 all_goals simp only [Int.reduceEq, if_true, if_false, reduceIte, List.length_set] at hr
 ·simp (maxSteps := 4000000) (disch := first | omega | (simp only [LL]; omega)) only [go_sem, hl2, mv, r1, r2, r3, hdr, hdr1, htk, lk, s1, s2, ls, ts, weaks_ptC, snaps_ptC, List.cons_append, List.nil_append, Nat.add_zero]
  rw [hr]
 ·simp (maxSteps := 4000000) (disch := first | omega | (simp only [LL]; omega)) only [go_sem, hl2, mv, r1, r2, r3, hdr, hdr1, htk, lk, s1, s2, ls, ts, weaks_ptC, snaps_ptC, List.cons_append, List.nil_append, Nat.add_zero]
  rw [hr]
 ·have hk1 : (k + 1).toNat = k.toNat + 1 := by omega
  have tk := ptC_takel l k.toNat
  have dk := ptC_dropl l (k.toNat + 1)
  have ln : (l.take k.toNat ++ l.drop (k.toNat + 1)).length = l.length - 1 := by rw [List.length_append, List.length_take, List.length_drop]; omega
  have ldk : (ptC (l.drop (k.toNat + 1))).length = 2 * (l.length - (k.toNat + 1)) := by rw [ptC_length, List.length_drop]
  have ltk : (ptC (l.take k.toNat)).length = 2 * k.toNat := by rw [ptC_length, List.length_take]; omega
  rw [ptC_append, ln] at hr
  by_cases hlast : k.toNat + 1 < l.length
  ·have tdk : (ptC (l.drop (k.toNat + 1))).take ((l.length - (k.toNat + 1)) * 2) = ptC (l.drop (k.toNat + 1)) := List.take_of_length_le (by rw [ldk]; omega)
   have sa : ∀ (h : Heap) (d : Nat), snaps (snap h (d + 1)) (ptC (l.take k.toNat) ++ ptC (l.drop (k.toNat + 1))) = some (ptC (l.take k.toNat) ++ ptC (l.drop (k.toNat + 1)), []) := fun h d => by rw [← ptC_append]; exact snaps_ptC h d _
   have wa : AV.weak.go (ptC (l.take k.toNat) ++ ptC (l.drop (k.toNat + 1))) = ptC (l.take k.toNat) ++ ptC (l.drop (k.toNat + 1)) := by rw [← ptC_append]; exact weaks_ptC _
   simp (maxSteps := 4000000) (disch := first | omega | (simp only [LL]; omega)) only [go_sem, hk1, tk, dk, tdk, ldk, ltk, sa, wa, hl2, mv, r1, r2, r3, hdr, hdr1, htk, lk, s1, s2, ls, ts, weaks_ptC, snaps_ptC, List.cons_append, List.nil_append, Nat.add_zero]
   rw [hr, show k.toNat + (l.length - (k.toNat + 1)) = l.length - 1 by omega]
  ·have hsl : aSliceSl 16 0 l.length none 2 (k.toNat + 1) l.length none = some (.loc ⟨.ro [] 0 false, [], []⟩) := by
    unfold aSliceSl
    simp only [show k.toNat + 1 ≤ l.length by omega, Nat.le_refl, and_self, if_true, show ¬ k.toNat + 1 < l.length by omega, if_false]
    rfl
   have hnil : l.drop (k.toNat + 1) = [] := List.drop_eq_nil_of_le (by omega)
   rw [hnil] at hr dk
   simp (maxSteps := 4000000) (disch := first | omega | (simp only [LL]; omega)) only [go_sem, hk1, hsl, tk, dk, ltk, hl2, mv, r1, r2, r3, hdr, hdr1, htk, lk, s1, s2, ls, ts, weaks_ptC, snaps_ptC, List.cons_append, List.nil_append, Nat.add_zero]
   rw [hr, show l.length - 1 = k.toNat by omega]
   simp only [ptC, List.append_nil]
 ·have la : (ptC l ++ [AV.int .i64 p.1, .int .i64 p.2]).length = 2 * (l.length + 1) := by rw [List.length_append, hl2]; rfl
  have ea : ptC l ++ [AV.int .i64 p.1, .int .i64 p.2] = ptC (l ++ [p]) := by rw [ptC_append]; rfl
  have lap : (ptC (l ++ [p])).length = 2 * (l.length + 1) := by rw [ptC_length, List.length_append]; rfl
  have tap : (ptC (l ++ [p])).take ((l.length + 1) * 2) = ptC (l ++ [p]) := List.take_of_length_le (by rw [lap]; omega)
  rw [List.length_append, List.length_singleton] at hr
  simp (maxSteps := 4000000) (disch := first | omega | (simp only [LL]; omega)) only [go_sem, replA_1, ea, lap, tap, hl2, mv, r1, r2, r3, hdr, hdr1, htk, lk, s1, s2, ls, ts, weaks_ptC, snaps_ptC, List.cons_append, List.nil_append, Nat.add_zero]
  rw [hr]
 ·simp (maxSteps := 4000000) (disch := first | omega | (simp only [LL]; omega)) only [go_sem, hl2, mv, r1, r2, r3, hdr, hdr1, htk, lk, s1, s2, ls, ts, weaks_ptC, snaps_ptC, List.cons_append, List.nil_append, Nat.add_zero]
  refine W_loop X (fun (i : Nat) s => i ≤ l.length / 2 ∧ s.env 9 = .sl 16 0 l.length none 2 ∧ s.env 11 = .int .i64 i ∧ 16 < s.next ∧ s.heap 16 = some (.cells (ptC (revK l i)) true false)) (fun i => l.length / 2 - i) ?_ 0 _ ?_
  ·rintro i ⟨env, heap, nx⟩ ⟨hi, g9, g11, hnx, e16⟩
   simp only at g9 g11 hnx e16
   have hq : (l.length : Int).tdiv 2 = ((l.length / 2 : Nat) : Int) := by rw [Int.tdiv_eq_ediv_of_nonneg (by omega)]; omega
   have lr := revK_len l i
   have hlr := ptC_length (revK l i)
   rw [lr] at hlr
   by_cases hlt : i < l.length / 2
   ·have d1 := ptC_take (revK l i) i (by omega)
    have d2 := ptC_take (revK l i) (l.length - 1 - i) (by omega)
    have p1 := ptC_set (revK l i) i (by omega) ((revK l i).getD (l.length - 1 - i) (0, 0))
    have p2 := ptC_set ((revK l i).set i ((revK l i).getD (l.length - 1 - i) (0, 0))) (l.length - 1 - i) (by rw [List.length_set]; omega) ((revK l i).getD i (0, 0))
    have lp1 := ptC_length ((revK l i).set i ((revK l i).getD (l.length - 1 - i) (0, 0)))
    rw [List.length_set, lr] at lp1
    have hsucc : revK l (i + 1) = ((revK l i).set i ((revK l i).getD (l.length - 1 - i) (0, 0))).set (l.length - 1 - i) ((revK l i).getD i (0, 0)) := rfl
    have hj : ((l.length : Int) - 1 - i).toNat = l.length - 1 - i := by omega
    generalize (revK l i).getD (l.length - 1 - i) (0, 0) = a at *
    generalize (revK l i).getD i (0, 0) = b at *
    simp (maxSteps := 4000000) (disch := first | omega | (simp only [LL]; omega)) only [go_sem, g9, g11, e16, hq, hlr, hj, d1, d2, p1, p2, lp1]
    refine ⟨i + 1, ?_, by omega⟩
    rw [hsucc]
    repeat' apply And.intro
    all_goals first | omega | rfl | trace_state
   ·obtain rfl : i = l.length / 2 := by omega
    simp (maxSteps := 4000000) (disch := first | omega | (simp only [LL]; omega)) only [go_sem, g9, g11, e16, hq, hlr, weaks_ptC, snaps_ptC]
    rw [hr, revK_len]
  ·simp (maxSteps := 4000000) (disch := first | omega | (simp only [LL]; omega)) only [go_sem]
   rfl
 ·have hw : w = 0 ∨ w = 1 ∨ w = 2 ∨ w = 3 := by omega
  rcases hw with rfl | rfl | rfl | rfl
  all_goals simp only [show (0 : Int).toNat = 0 from rfl, show (1 : Int).toNat = 1 from rfl, show (2 : Int).toNat = 2 from rfl, show (3 : Int).toNat = 3 from rfl, List.getD_cons_zero, List.getD_cons_succ] at hr
  all_goals simp (maxSteps := 4000000) (disch := first | omega | (simp only [LL]; omega)) only [go_sem, hl2, mv, r1, r2, r3, r4, hdr, hdr1, htk, lk, s1, s2, ls, ts, weaks_ptC, snaps_ptC, replA_4, List.cons_append, List.nil_append, Nat.add_zero]
  all_goals rw [hr]
  all_goals trace_state
end Go.Proofs.YtenhjccadhlgoaaGreat.Abs
