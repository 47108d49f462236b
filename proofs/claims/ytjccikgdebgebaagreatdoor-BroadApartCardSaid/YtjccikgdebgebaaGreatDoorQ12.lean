/-
  Package convex: Sides. No conditions. Package gap: rate, Gap, Meet. No conditions. A coordinate on a way: the least and the greatest value are reached, and the parts of a time joined are the whole. Plain. No conditions. Shapes whose boxes do not meet are apart along one of their sides: plain. No conditions. The law BroadApart. Conditions: what Sorted answers in the example.
-/
import Derived.Test.YtjccikgdebgebaaGreatDoorQ11
import Derived.Test.YtjccikgdebgebaaGreatDoorQ10
set_option linter.unusedSimpArgs false
set_option linter.unusedVariables false
section
set_option linter.unusedSimpArgs false
namespace Go.Proofs.YtjccikgdebgebaaGreatDoor.Abs
open Go
set_option maxRecDepth 100000 in
theorem M_85 [SpC] (e : Ed) (d : Dr) : M X 85 [.agg (edA e), .rptr [.int .i64 d.1, .int .i64 d.2.1, .int .i64 d.2.2]] =
    some (.bool (decide (e.1 = d))) := by
  refine M_of X (fn := Tryz.f85) Tryz.func85 rfl ok_85 mode_85 res_85 _ rfl _ ?_
  intro r hr
  have h : decide (e.1 = d) = (decide (e.1.1 = d.1) && (decide (e.1.2.1 = d.2.1) && decide (e.1.2.2 = d.2.2))) := by
    obtain ⟨⟨a, b, c⟩, z⟩ := e
    obtain ⟨a', b', c'⟩ := d
    simp [Prod.ext_iff, Bool.decide_and]
  simp (maxSteps := 4000000) (disch := first | omega | (simp only [List.length_set, List.length_replicate, List.length_append, List.length_take, List.length_drop, List.length_cons, List.length_nil]; omega)) only [go_sem, reduceCtorEq, Nat.reduceEqDiff, Nat.reduceAdd, Nat.reduceMul, Nat.reduceSub, ↓Nat.reduceBEq, Nat.reduceLT, Nat.reduceLeDiff, Int.reduceLT, Int.reduceLE, Int.reduceNeg, Int.reduceToNat]
  rw [hr, h]
def hasD (d : Dr) (e : Ed) : Bool := decide (e.1 = d)
/-- One more direction. -/
def addE (a b : List Pt) (out : List Ed) (d : Dr) : List Ed := if out.any (hasD d) then out else out ++ [(d, mostP a d + mostP b (turnD d))]
def dirN (l : List Pt) (i : Nat) : Dr := normV ((ptA l ((i + 1) % l.length)).1 - (ptA l i).1) ((ptA l ((i + 1) % l.length)).2 - (ptA l i).2)
def sidA (a b : List Pt) : Nat → List Ed
  | 0 => []
  | k + 1 => addE a b (sidA a b k) (dirN a k)
def sidB (a b : List Pt) : Nat → List Ed
  | 0 => sidA a b a.length
  | k + 1 => addE a b (sidB a b k) (turnD (dirN b k))
def sidesV (a b : List Pt) : List Ed := sidB a b b.length
theorem addE_len (a b : List Pt) (out : List Ed) (d : Dr) : (addE a b out d).length ≤ out.length + 1 := by
  unfold addE; split <;> simp
theorem sidA_len (a b : List Pt) : ∀ k, (sidA a b k).length ≤ k
  | 0 => Nat.le_refl _
  | k + 1 => by
    have h1 := addE_len a b (sidA a b k) (dirN a k)
    have h2 := sidA_len a b k
    show (addE a b (sidA a b k) (dirN a k)).length ≤ k + 1
    omega
theorem sidB_len (a b : List Pt) : ∀ k, (sidB a b k).length ≤ a.length + k
  | 0 => sidA_len a b a.length
  | k + 1 => by
    have h1 := addE_len a b (sidB a b k) (turnD (dirN b k))
    have h2 := sidB_len a b k
    show (addE a b (sidB a b k) (turnD (dirN b k))).length ≤ a.length + (k + 1)
    omega
theorem normV_ok (x y : Int) (hx : -2097152 ≤ x ∧ x ≤ 2097152) (hy : -2097152 ≤ y ∧ y ≤ 2097152) : okd3 (normV x y) := by
  unfold normV
  split
  · have h1 := Int.natAbs_tdiv_le_natAbs y (normG x y)
    have h2 := Int.natAbs_tdiv_le_natAbs (0 - x) (normG x y)
    exact ⟨⟨by dsimp only; omega, by dsimp only; omega⟩, by dsimp only; omega, by dsimp only; omega⟩
  · exact ⟨⟨by decide, by decide⟩, by decide, by decide⟩
theorem dirN_ok {l : List Pt} (hp : ∀ p ∈ l, okp p) (i : Nat) : okd3 (dirN l i) := by
  obtain ⟨⟨a1, a2⟩, a3, a4⟩ := okp_getD hp i
  obtain ⟨⟨b1, b2⟩, b3, b4⟩ := okp_getD hp ((i + 1) % l.length)
  exact normV_ok _ _ (by omega) (by omega)
theorem growC_keep {lo : Nat} {h h' : Heap} {nx nx' : Nat} {v : AV} {cs : List AV} {n s : Nat} (hg : GrowC lo h nx v cs n s) (hh : ∀ b, lo ≤ b → b < nx → h' b = h b) (hn : nx ≤ nx') : GrowC lo h' nx' v cs n s := by
  rcases hg with h | ⟨B, h1, h2, h3⟩
  · exact .inl h
  · exact .inr ⟨B, by omega, h2, by rw [hh B h1.1 h1.2]; exact h3⟩
theorem sd_facts [SpC] (a b : List Pt) (ha : ∀ p ∈ a, okp p) (hb : ∀ p ∈ b, okp p) (a0 : 0 < a.length) (b0 : 0 < b.length) (al : a.length < 2 ^ 16) (bl : b.length < 2 ^ 16) (l : List Pt) (hp : ∀ p ∈ l, okp p) (hl : l.length < 2 ^ 16) (i : Nat) (hi : i < l.length) (d : Dr) (hd : d = dirN l i) :
    ∃ q : Pt, ∃ is : Bool, M X 77 [.ro (ptC l) l.length false, .int .i64 i] = some (.agg [.int .i64 q.1, .int .i64 q.2]) ∧
    M X 76 [.agg [.int .i64 (l.getD i (0, 0)).1, .int .i64 (l.getD i (0, 0)).2], .agg [.int .i64 q.1, .int .i64 q.2]] = some (.tuple [.agg [.int .i64 d.1, .int .i64 d.2.1, .int .i64 d.2.2], .bool is]) ∧
    M X 87 [.agg [.int .i64 d.1, .int .i64 d.2.1, .int .i64 d.2.2]] = some (.agg [.int .i64 (turnD d).1, .int .i64 (turnD d).2.1, .int .i64 (turnD d).2.2]) ∧ okd3 d := by
  subst hd
  exact ⟨ptA l ((i + 1) % l.length), _, M_77 l i hi (by omega), M_76 (ptA l i) (ptA l ((i + 1) % l.length)) (okp_getD hp i) (okp_getD hp _), M_87 _ (dirN_ok hp i), dirN_ok hp i⟩
/-- What the closure that adds a direction comes to. -/
theorem ad_facts [SpC] (a b : List Pt) (ha : ∀ p ∈ a, okp p) (hb : ∀ p ∈ b, okp p) (a0 : 0 < a.length) (b0 : 0 < b.length) (al : a.length < 2 ^ 16) (bl : b.length < 2 ^ 16) (d : Dr) (hd : okd3 d) (out : List Ed) (ho : out.length < 2 ^ 20) :
    ∃ m1 m2 : Int, M X 86 [.ro (ptC a) a.length false, .agg [.int .i64 d.1, .int .i64 d.2.1, .int .i64 d.2.2]] = some (.int .i64 m1) ∧
    M X 86 [.ro (ptC b) b.length false, .agg [.int .i64 (turnD d).1, .int .i64 (turnD d).2.1, .int .i64 (turnD d).2.2]] = some (.int .i64 m2) ∧
    M X 87 [.agg [.int .i64 d.1, .int .i64 d.2.1, .int .i64 d.2.2]] = some (.agg [.int .i64 (turnD d).1, .int .i64 (turnD d).2.1, .int .i64 (turnD d).2.2]) ∧
    (-8796093022208 ≤ m1 ∧ m1 ≤ 8796093022208) ∧ (-8796093022208 ≤ m2 ∧ m2 ≤ 8796093022208) ∧
    addE a b out d = (if out.any (hasD d) then out else out ++ [(d, m1 + m2)]) ∧
    M X 80 [.ro (edC out) out.length false, .func (.func 85) [] [.rptr [.int .i64 d.1, .int .i64 d.2.1, .int .i64 d.2.2]]] = some (.bool (out.any (hasD d))) :=
  ⟨mostP a d, mostP b (turnD d), M_86 d hd a ha a0 (by omega), M_86 (turnD d) (turn_ok hd) b hb b0 (by omega), M_87 d hd, mostP_bd hd ha, mostP_bd (turn_ok hd) hb, rfl,
    con_edge 85 mode_85 _ (by simp only [weak_int, weakgo_nil, weakgo_cons]) (hasD d) out (fun e _ => M_85 e d) (by omega) false⟩
/-! ### A call that is walked within its caller's memory -/
def outC (Y : Ctx) (rs : List ResultVar) (Φ : AV × Heap × Nat → Prop) : Ex → St → Prop
  | .exit _, _ => False
  | _, st => PN (loadRess Y st rs) fun vs => Φ (oneV vs, st.heap, st.next)
theorem outC_ret (Y : Ctx) (rs : List ResultVar) (Φ : AV × Heap × Nat → Prop) (st : St) : outC Y rs Φ .ret st = PN (loadRess Y st rs) fun vs => Φ (oneV vs, st.heap, st.next) := nr rfl
theorem outC_normal (Y : Ctx) (rs : List ResultVar) (Φ : AV × Heap × Nat → Prop) (st : St) : outC Y rs Φ .normal st = PN (loadRess Y st rs) fun vs => Φ (oneV vs, st.heap, st.next) := nr rfl
theorem callI_of {Y : Ctx} {f : FuncId} {fn : Func} {c : Code} {rs : List ResultVar} (hf : Y.P.funcs[f]? = some fn) (hb : fn.body = some c) (hok : funcOk fn = true) (hr : fn.results.toList = rs)
    (args : List AV) (hl : (args.length == fn.params.size + fn.nfree) = true) (h : Heap) (next : Nat) (Φ : AV × Heap × Nat → Prop) (hW : @W Y ⟨c⟩ ⟨argEnv args, h, next⟩ (outC Y rs Φ)) : ∃ x, callI Y f args h next = some x ∧ Φ x := by
  obtain ⟨e, s, h1', h4⟩ := hW
  have h1 : D Y c ⟨argEnv args, h, next⟩ = some (e, s) := h1'
  rw [callI_def Y hf hb hok args hl, h1]
  subst hr
  have key : ∀ s, PN (loadRess Y s fn.results.toList) (fun vs => Φ (oneV vs, s.heap, s.next)) → ∃ x, (mp (resultsA Y fn s) fun v => (v, s.heap, s.next)) = some x ∧ Φ x := by
    rintro s ⟨vs, h5, h6⟩
    unfold resultsA
    rw [h5]
    exact ⟨_, rfl, h6⟩
  cases e with
  | exit i => exact h4.elim
  | normal => exact key s h4
  | ret => exact key s h4
set_option maxRecDepth 100000 in
set_option maxHeartbeats 4000000 in
theorem add_call [SpC] (a b : List Pt) (ha : ∀ p ∈ a, okp p) (hb : ∀ p ∈ b, okp p) (a0 : 0 < a.length) (b0 : 0 < b.length) (al : a.length < 2 ^ 16) (bl : b.length < 2 ^ 16) (d : Dr) (hd : okd3 d) (out : List Ed) (ho : out.length < 2 ^ 20) (heap : Heap) (nx : Nat) (hnx : 64 ≤ nx) (v : AV)
    (h0 : heap 0 = some (.cells [.ro (ptC a) a.length false] false false)) (h8 : heap 8 = some (.cells [.ro (ptC b) b.length false] false false)) (h24 : heap 24 = some (.cells [v] false false)) (hgr : GrowC 32 heap nx v (edC out) out.length 4) :
    ∃ h' nx' v', callI X 84 [.agg [.int .i64 d.1, .int .i64 d.2.1, .int .i64 d.2.2], .ptr 24 0, .ptr 0 0, .ptr 8 0] heap nx = some (.tuple [], h', nx') ∧ nx ≤ nx' ∧ h' 0 = some (.cells [.ro (ptC a) a.length false] false false) ∧ h' 8 = some (.cells [.ro (ptC b) b.length false] false false) ∧ h' 24 = some (.cells [v'] false false) ∧
      GrowC 32 h' nx' v' (edC (addE a b out d)) (addE a b out d).length 4 := by
  suffices hs : ∃ x, callI X 84 [.agg [.int .i64 d.1, .int .i64 d.2.1, .int .i64 d.2.2], .ptr 24 0, .ptr 0 0, .ptr 8 0] heap nx = some x ∧ (x.1 = .tuple [] ∧ nx ≤ x.2.2 ∧ x.2.1 0 = some (.cells [.ro (ptC a) a.length false] false false) ∧ x.2.1 8 = some (.cells [.ro (ptC b) b.length false] false false) ∧ ∃ v', x.2.1 24 = some (.cells [v'] false false) ∧ GrowC 32 x.2.1 x.2.2 v' (edC (addE a b out d)) (addE a b out d).length 4) by
    obtain ⟨⟨r, h', nx'⟩, k1, k2, k3, k4, k5, v', k6, k7⟩ := hs
    simp only at k2 k3 k4 k5 k6 k7
    subst k2
    exact ⟨h', nx', v', k1, k3, k4, k5, k6, k7⟩
  obtain ⟨m1, m2, y1, y2, y3, y4, y5, y6, y7⟩ := ad_facts a b ha hb a0 b0 al bl d hd out ho
  refine callI_of (fn := Tryz.f84) Tryz.func84 rfl ok_84 res_84 _ rfl heap nx _ ?_
  generalize turnD d = td at *
  rw [y6]
  clear y6
  have hel := edC_length out
  have al2 := ptC_length a
  have bl2 := ptC_length b
  cases hany : out.any (hasD d) with
  | true =>
    rw [hany] at y7
    rcases hgr with ⟨e3, ec, e0⟩ | ⟨B, hB, e3, eB⟩
    · rw [List.eq_nil_of_length_eq_zero e0] at hany; cases hany
    · subst e3
      simp (maxSteps := 4000000) (disch := first | omega | (simp only [List.length_set, List.length_replicate, List.length_append, List.length_take, List.length_drop, List.length_cons, List.length_nil]; omega)) only [go_sem, reduceCtorEq, Nat.reduceEqDiff, Nat.reduceAdd, Nat.reduceMul, Nat.reduceSub, ↓Nat.reduceBEq, Nat.reduceLT, Nat.reduceLeDiff, Int.reduceLT, Int.reduceLE, Int.reduceNeg, Int.reduceToNat, outC_ret, outC_normal, al2, bl2, h0, h8, h24, eB, hel, mode_86, mode_87, mode_80, y1, y2, y3, y7, replA_1, weaks_ptC, weaks_edC, snaps_edC, weak_rptr]
      exact ⟨by omega, _, rfl, growC_keep (.inr ⟨B, hB, rfl, eB⟩) (fun b h1 h2 => by simp only [upd_apply]; rw [if_neg (by omega)]) (by omega)⟩
  | false =>
    rw [hany] at y7
    rcases hgr with ⟨e3, ec, e0⟩ | ⟨B, hB, e3, eB⟩
    · subst e3
      have e0' := List.eq_nil_of_length_eq_zero e0
      subst e0'
      simp only [show edC [] = [] from rfl, List.length_nil] at y7
      simp (maxSteps := 4000000) (disch := first | omega | (simp only [List.length_set, List.length_replicate, List.length_append, List.length_take, List.length_drop, List.length_cons, List.length_nil]; omega)) only [go_sem, reduceCtorEq, Nat.reduceEqDiff, Nat.reduceAdd, Nat.reduceMul, Nat.reduceSub, ↓Nat.reduceBEq, Nat.reduceLT, Nat.reduceLeDiff, Int.reduceLT, Int.reduceLE, Int.reduceNeg, Int.reduceToNat, outC_ret, outC_normal, al2, bl2, h0, h8, h24, hel, mode_86, mode_87, mode_80, y1, y2, y3, y7, replA_1, weaks_ptC, weaks_edC, snaps_edC, weak_rptr]
      exact ⟨by omega, _, rfl, .inr ⟨_, ⟨by omega, by omega⟩, rfl, by simp only [upd_apply]; rw [if_neg (by omega), if_pos trivial]; rfl⟩⟩
    · subst e3
      simp (maxSteps := 4000000) (disch := first | omega | (simp only [List.length_set, List.length_replicate, List.length_append, List.length_take, List.length_drop, List.length_cons, List.length_nil]; omega)) only [go_sem, reduceCtorEq, Nat.reduceEqDiff, Nat.reduceAdd, Nat.reduceMul, Nat.reduceSub, ↓Nat.reduceBEq, Nat.reduceLT, Nat.reduceLeDiff, Int.reduceLT, Int.reduceLE, Int.reduceNeg, Int.reduceToNat, outC_ret, outC_normal, al2, bl2, h0, h8, h24, eB, hel, mode_86, mode_87, mode_80, y1, y2, y3, y7, replA_1, weaks_ptC, weaks_edC, snaps_edC, weak_rptr]
      exact ⟨by omega, _, rfl, .inr ⟨_, ⟨by omega, by omega⟩, rfl, by simp only [upd_apply]; rw [if_neg (by omega), if_pos trivial, edC_snoc]⟩⟩
theorem add_step [SpC] (a b : List Pt) (ha : ∀ p ∈ a, okp p) (hb : ∀ p ∈ b, okp p) (a0 : 0 < a.length) (b0 : 0 < b.length) (al : a.length < 2 ^ 16) (bl : b.length < 2 ^ 16) (d : Dr) (hd : okd3 d) (out : List Ed) (ho : out.length < 2 ^ 20) (heap : Heap) (nx : Nat) (hnx : 64 ≤ nx) (v : AV)
    (h0 : heap 0 = some (.cells [.ro (ptC a) a.length false] false false)) (h8 : heap 8 = some (.cells [.ro (ptC b) b.length false] false false)) (h24 : heap 24 = some (.cells [v] false false)) (hgr : GrowC 32 heap nx v (edC out) out.length 4) (Φ : AV × Heap × Nat → Prop)
    (hΦ : ∀ h' nx' v', nx ≤ nx' → h' 0 = some (.cells [.ro (ptC a) a.length false] false false) → h' 8 = some (.cells [.ro (ptC b) b.length false] false false) → h' 24 = some (.cells [v'] false false) → GrowC 32 h' nx' v' (edC (addE a b out d)) (addE a b out d).length 4 → Φ (.tuple [], h', nx')) :
    PN (callI X 84 [.agg [.int .i64 d.1, .int .i64 d.2.1, .int .i64 d.2.2], .ptr 24 0, .ptr 0 0, .ptr 8 0] heap nx) Φ := by
  obtain ⟨h', nx', v', k1, k2, k3, k4, k5, k6⟩ := add_call a b ha hb a0 b0 al bl d hd out ho heap nx hnx v h0 h8 h24 hgr
  exact ⟨_, k1, hΦ h' nx' v' k2 k3 k4 k5 k6⟩
set_option maxRecDepth 100000 in
set_option maxHeartbeats 4000000 in
theorem M_42 [SpC] (a b : List Pt) (ha : ∀ p ∈ a, okp p) (hb : ∀ p ∈ b, okp p) (a0 : 0 < a.length) (b0 : 0 < b.length) (al : a.length < 2 ^ 16) (bl : b.length < 2 ^ 16) :
    M X 42 [.ro (ptC a) a.length false, .ro (ptC b) b.length false] = some (.ro (edC (sidesV a b)) (sidesV a b).length false) := by
  refine M_of X (fn := Tryz.f42) Tryz.func42 rfl ok_42 mode_42 res_42 _ rfl _ ?_
  intro r hr
  have al2 := ptC_length a
  have bl2 := ptC_length b
  simp (maxSteps := 4000000) (disch := first | omega | (simp only [List.length_set, List.length_replicate, List.length_append, List.length_take, List.length_drop, List.length_cons, List.length_nil]; omega)) only [go_sem, reduceCtorEq, Nat.reduceEqDiff, Nat.reduceAdd, Nat.reduceMul, Nat.reduceSub, ↓Nat.reduceBEq, Nat.reduceLT, Nat.reduceLeDiff, Int.reduceLT, Int.reduceLE, Int.reduceNeg, Int.reduceToNat, al2, bl2]
  refine W_loop X (fun (k : Nat) s => k ≤ a.length ∧ s.env 2 = .ptr 0 0 ∧ s.env 3 = .ptr 8 0 ∧ s.env 5 = .ptr 24 0 ∧ s.env 6 = .func (.func 84) [] [.ptr 24 0, .ptr 0 0, .ptr 8 0] ∧ s.env 15 = .int .i64 a.length ∧ s.env 16 = .int .i64 k ∧ 72 ≤ s.next ∧
    s.heap 0 = some (.cells [.ro (ptC a) a.length false] false false) ∧ s.heap 8 = some (.cells [.ro (ptC b) b.length false] false false) ∧ ∃ v, s.heap 24 = some (.cells [v] false false) ∧ GrowC 32 s.heap s.next v (edC (sidA a b k)) (sidA a b k).length 4) (fun k => a.length - k) ?_ 0 _ ?_
  · rintro k ⟨env, heap, nx⟩ ⟨hk, g2, g3, g5, g6, g15, g16, hnx, h0, h8, v, h24, hgr⟩
    simp only at g2 g3 g5 g6 g15 g16 hnx h0 h8 h24 hgr
    by_cases h1 : k < a.length
    · obtain ⟨q, is, w1, w2, w3, w4⟩ := sd_facts a b ha hb a0 b0 al bl a ha al k h1 (dirN a k) rfl
      have hpt := ptC_take a k h1
      have hln := sidA_len a b k
      have hs : sidA a b (k + 1) = addE a b (sidA a b k) (dirN a k) := rfl
      generalize dirN a k = d at *
      generalize sidA a b k = out at *
      simp (maxSteps := 4000000) (disch := first | omega | (simp only [List.length_set, List.length_replicate, List.length_append, List.length_take, List.length_drop, List.length_cons, List.length_nil]; omega)) only [go_sem, reduceCtorEq, Nat.reduceEqDiff, Nat.reduceAdd, Nat.reduceMul, Nat.reduceSub, ↓Nat.reduceBEq, Nat.reduceLT, Nat.reduceLeDiff, Int.reduceLT, Int.reduceLE, Int.reduceNeg, Int.reduceToNat, al2, bl2, g2, g3, g5, g6, g15, g16, h0, h8, h24, hpt, w1, w2, mode_77, mode_76, weaks_ptC]
      refine add_step a b ha hb a0 b0 al bl d w4 out (by omega) _ _ (by omega) v (by simp only [upd_apply]; rw [if_neg (by omega), if_neg (by omega)]; exact h0) (by simp only [upd_apply]; rw [if_neg (by omega), if_neg (by omega)]; exact h8) (by simp only [upd_apply]; rw [if_neg (by omega), if_neg (by omega)]; exact h24)
        (growC_keep hgr (fun b h1 h2 => by simp only [upd_apply]; rw [if_neg (by omega), if_neg (by omega)]) (by omega)) _ ?_
      intro h' nx' v' k2 k3 k4 k5 k6
      dsimp only
      exact ⟨k + 1, ⟨by omega, rfl, by omega, k3, k4, v', k5, by rw [hs]; exact growC_keep k6 (fun _ _ _ => rfl) (by omega)⟩, by omega⟩
    · obtain rfl : k = a.length := by omega
      simp (maxSteps := 4000000) (disch := first | omega | (simp only [List.length_set, List.length_replicate, List.length_append, List.length_take, List.length_drop, List.length_cons, List.length_nil]; omega)) only [go_sem, reduceCtorEq, Nat.reduceEqDiff, Nat.reduceAdd, Nat.reduceMul, Nat.reduceSub, ↓Nat.reduceBEq, Nat.reduceLT, Nat.reduceLeDiff, Int.reduceLT, Int.reduceLE, Int.reduceNeg, Int.reduceToNat, al2, bl2, g2, g3, g5, g6, g15, g16, h0, h8, h24]
      refine W_loop X (fun (k : Nat) s => k ≤ b.length ∧ s.env 2 = .ptr 0 0 ∧ s.env 3 = .ptr 8 0 ∧ s.env 5 = .ptr 24 0 ∧ s.env 6 = .func (.func 84) [] [.ptr 24 0, .ptr 0 0, .ptr 8 0] ∧ s.env 35 = .int .i64 b.length ∧ s.env 36 = .int .i64 k ∧ 72 ≤ s.next ∧
        s.heap 0 = some (.cells [.ro (ptC a) a.length false] false false) ∧ s.heap 8 = some (.cells [.ro (ptC b) b.length false] false false) ∧ ∃ v, s.heap 24 = some (.cells [v] false false) ∧ GrowC 32 s.heap s.next v (edC (sidB a b k)) (sidB a b k).length 4) (fun k => b.length - k) ?_ 0 _ ?_
      · clear g2 g3 g5 g6 g15 g16 hnx h0 h8 h24 hgr
        rintro k ⟨env, heap, nx⟩ ⟨hk, g2, g3, g5, g6, g15, g16, hnx, h0, h8, v, h24, hgr⟩
        simp only at g2 g3 g5 g6 g15 g16 hnx h0 h8 h24 hgr
        have hln := sidB_len a b k
        by_cases h1 : k < b.length
        · obtain ⟨q, is, w1, w2, w3, w4⟩ := sd_facts a b ha hb a0 b0 al bl b hb bl k h1 (dirN b k) rfl
          have hpt := ptC_take b k h1
          have hs : sidB a b (k + 1) = addE a b (sidB a b k) (turnD (dirN b k)) := rfl
          have w5 := turn_ok w4
          generalize dirN b k = d at *
          generalize turnD d = td at *
          generalize sidB a b k = out at *
          simp (maxSteps := 4000000) (disch := first | omega | (simp only [List.length_set, List.length_replicate, List.length_append, List.length_take, List.length_drop, List.length_cons, List.length_nil]; omega)) only [go_sem, reduceCtorEq, Nat.reduceEqDiff, Nat.reduceAdd, Nat.reduceMul, Nat.reduceSub, ↓Nat.reduceBEq, Nat.reduceLT, Nat.reduceLeDiff, Int.reduceLT, Int.reduceLE, Int.reduceNeg, Int.reduceToNat, al2, bl2, g2, g3, g5, g6, g15, g16, h0, h8, h24, hpt, w1, w2, w3, mode_77, mode_76, mode_87, weaks_ptC]
          refine add_step a b ha hb a0 b0 al bl td w5 out (by omega) _ _ (by omega) v (by simp only [upd_apply]; rw [if_neg (by omega), if_neg (by omega)]; exact h0) (by simp only [upd_apply]; rw [if_neg (by omega), if_neg (by omega)]; exact h8) (by simp only [upd_apply]; rw [if_neg (by omega), if_neg (by omega)]; exact h24)
            (growC_keep hgr (fun b h1 h2 => by simp only [upd_apply]; rw [if_neg (by omega), if_neg (by omega)]) (by omega)) _ ?_
          intro h' nx' v' k2 k3 k4 k5 k6
          dsimp only
          exact ⟨k + 1, ⟨by omega, rfl, by omega, k3, k4, v', k5, by rw [hs]; exact growC_keep k6 (fun _ _ _ => rfl) (by omega)⟩, by omega⟩
        · obtain rfl : k = b.length := by omega
          rw [show sidB a b b.length = sidesV a b from rfl] at hgr hln
          generalize sidesV a b = out at *
          have hel := edC_length out
          rcases hgr with ⟨e3, ec, e0⟩ | ⟨B, hB, e3, eB⟩
          · subst e3
            simp (maxSteps := 4000000) (disch := first | omega | (simp only [List.length_set, List.length_replicate, List.length_append, List.length_take, List.length_drop, List.length_cons, List.length_nil]; omega)) only [go_sem, reduceCtorEq, Nat.reduceEqDiff, Nat.reduceAdd, Nat.reduceMul, Nat.reduceSub, ↓Nat.reduceBEq, Nat.reduceLT, Nat.reduceLeDiff, Int.reduceLT, Int.reduceLE, Int.reduceNeg, Int.reduceToNat, g2, g3, g5, g6, g15, g16, h0, h8, h24]
            rw [hr, List.eq_nil_of_length_eq_zero e0]; rfl
          · subst e3
            simp (maxSteps := 4000000) (disch := first | omega | (simp only [List.length_set, List.length_replicate, List.length_append, List.length_take, List.length_drop, List.length_cons, List.length_nil]; omega)) only [go_sem, reduceCtorEq, Nat.reduceEqDiff, Nat.reduceAdd, Nat.reduceMul, Nat.reduceSub, ↓Nat.reduceBEq, Nat.reduceLT, Nat.reduceLeDiff, Int.reduceLT, Int.reduceLE, Int.reduceNeg, Int.reduceToNat, g2, g3, g5, g6, g15, g16, h0, h8, h24, eB, hel, snaps_edC, weaks_edC]
            rw [hr]
      · simp (maxSteps := 4000000) (disch := first | omega | (simp only [List.length_set, List.length_replicate, List.length_append, List.length_take, List.length_drop, List.length_cons, List.length_nil]; omega)) only [go_sem, reduceCtorEq, Nat.reduceEqDiff, Nat.reduceAdd, Nat.reduceMul, Nat.reduceSub, ↓Nat.reduceBEq, Nat.reduceLT, Nat.reduceLeDiff, Int.reduceLT, Int.reduceLE, Int.reduceNeg, Int.reduceToNat, g2, g3, g5, g6, h0, h8, h24]
        exact ⟨by omega, v, rfl, growC_keep hgr (fun _ _ _ => rfl) (by omega)⟩
  · simp (maxSteps := 4000000) (disch := first | omega | (simp only [List.length_set, List.length_replicate, List.length_append, List.length_take, List.length_drop, List.length_cons, List.length_nil]; omega)) only [go_sem, reduceCtorEq, Nat.reduceEqDiff, Nat.reduceAdd, Nat.reduceMul, Nat.reduceSub, ↓Nat.reduceBEq, Nat.reduceLT, Nat.reduceLeDiff, Int.reduceLT, Int.reduceLE, Int.reduceNeg, Int.reduceToNat]
    exact ⟨_, rfl, growC_nil _ _ _ _⟩
end Go.Proofs.YtjccikgdebgebaaGreatDoor.Abs
end
section
set_option linter.unusedSimpArgs false
namespace Go.Proofs.YtjccikgdebgebaaGreatDoor.Abs
open Go
set_option maxRecDepth 100000 in
theorem M_119 [SpC] {x y : Rat} {n m : Nat} [hx : RS x n] [hy : RS y m] (h : n + m < 2 ^ 26) : M X 119 [.agg [zS (Rat.num (x)), zD (Rat.num (x)), zS (dz (x)), zD (dz (x))], .agg [zS (Rat.num (y)), zD (Rat.num (y)), zS (dz (y)), zD (dz (y))]] = some (.agg [zS (Rat.num (x - y)), zD (Rat.num (x - y)), zS (dz (x - y)), zD (dz (x - y))]) := by
  refine M_of X (fn := Tryz.f119) Tryz.func119 rfl ok_119 mode_119 res_119 _ rfl _ ?_
  intro r hr
  rw [hr, Rat.sub_eq_add_neg]
  simp (maxSteps := 4000000) (disch := first | omega | (simp only [List.length_set, List.length_replicate, List.length_append, List.length_take, List.length_drop, List.length_cons, List.length_nil]; omega)) only [go_sem, reduceCtorEq, Nat.reduceEqDiff, Nat.reduceAdd, Nat.reduceMul, Nat.reduceSub, ↓Nat.reduceBEq, Nat.reduceLT, Nat.reduceLeDiff, Int.reduceLT, Int.reduceLE, Int.reduceNeg, Int.reduceToNat, M_91, M_52]
def rateQ (d : Dr) (x y : Rat) : Rat := (Rat.divInt d.1 1 * x + Rat.divInt d.2.1 1 * y) / Rat.divInt d.2.2 1
def gapQ (e : Ed) (x y : Rat) : Rat := rateQ e.1 x y - Rat.divInt e.2 e.1.2.2
set_option maxRecDepth 100000 in
theorem M_120 [SpC] (d : Dr) (h1 : ok64 d.1) (h2 : ok64 d.2.1) (h3 : ok64 d.2.2) {x y : Rat} {n m : Nat} [hx : RS x n] [hy : RS y m] (h : n + m < 2 ^ 24) : M X 120 [.agg [.int .i64 d.1, .int .i64 d.2.1, .int .i64 d.2.2], .agg [zS (Rat.num (x)), zD (Rat.num (x)), zS (dz (x)), zD (dz (x)), zS (Rat.num (y)), zD (Rat.num (y)), zS (dz (y)), zD (dz (y))]] = some (.agg [zS (Rat.num (rateQ d x y)), zD (Rat.num (rateQ d x y)), zS (dz (rateQ d x y)), zD (dz (rateQ d x y))]) := by
  refine M_of X (fn := Tryz.f120) Tryz.func120 rfl ok_120 mode_120 res_120 _ rfl _ ?_
  intro r hr
  obtain ⟨u1, u2⟩ := h1
  obtain ⟨u3, u4⟩ := h2
  obtain ⟨u5, u6⟩ := h3
  have r1 : RS (Rat.divInt d.1 1) 3 := rs_divInt (by omega) (nd_lit (by simp only [Bn]; omega)) (nd_lit (by decide))
  have r2 : RS (Rat.divInt d.2.1 1) 3 := rs_divInt (by omega) (nd_lit (by simp only [Bn]; omega)) (nd_lit (by decide))
  have r3 : RS (Rat.divInt d.2.2 1) 3 := rs_divInt (by omega) (nd_lit (by simp only [Bn]; omega)) (nd_lit (by decide))
  have o1 := M_53 d.1 1 (by omega) (by omega)
  have o2 := M_53 d.2.1 1 (by omega) (by omega)
  have o3 := M_53 d.2.2 1 (by omega) (by omega)
  rw [hr, rateQ]
  generalize Rat.divInt d.1 1 = p1 at *
  generalize Rat.divInt d.2.1 1 = p2 at *
  generalize Rat.divInt d.2.2 1 = p3 at *
  simp (maxSteps := 4000000) (disch := first | omega | (simp only [List.length_set, List.length_replicate, List.length_append, List.length_take, List.length_drop, List.length_cons, List.length_nil]; omega)) only [go_sem, reduceCtorEq, Nat.reduceEqDiff, Nat.reduceAdd, Nat.reduceMul, Nat.reduceSub, ↓Nat.reduceBEq, Nat.reduceLT, Nat.reduceLeDiff, Int.reduceLT, Int.reduceLE, Int.reduceNeg, Int.reduceToNat, M_123, M_52, M_92, mode_53, o1, o2, o3]
theorem rs_rate (d : Dr) (h1 : ok64 d.1) (h2 : ok64 d.2.1) (h3 : ok64 d.2.2) {x y : Rat} {n m : Nat} [hx : RS x n] [hy : RS y m] : RS (rateQ d x y) (2 * (n + m) + 32) := by
  obtain ⟨u1, u2⟩ := h1
  obtain ⟨u3, u4⟩ := h2
  obtain ⟨u5, u6⟩ := h3
  have r1 : RS (Rat.divInt d.1 1) 3 := rs_divInt (by omega) (nd_lit (by simp only [Bn]; omega)) (nd_lit (by decide))
  have r2 : RS (Rat.divInt d.2.1 1) 3 := rs_divInt (by omega) (nd_lit (by simp only [Bn]; omega)) (nd_lit (by decide))
  have r3 : RS (Rat.divInt d.2.2 1) 3 := rs_divInt (by omega) (nd_lit (by simp only [Bn]; omega)) (nd_lit (by decide))
  unfold rateQ
  exact (inferInstance : RS (_ / _) _).mono (by omega)
def okE (e : Ed) : Prop := okd3 e.1 ∧ ok64 e.1.2.2 ∧ ok64 e.2
set_option maxRecDepth 100000 in
theorem M_83 [SpC] (e : Ed) (he : okE e) {x y : Rat} {n m : Nat} [hx : RS x n] [hy : RS y m] (h : n + m < 2 ^ 23) : M X 83 [.agg (edA e), .agg [zS (Rat.num (x)), zD (Rat.num (x)), zS (dz (x)), zD (dz (x)), zS (Rat.num (y)), zD (Rat.num (y)), zS (dz (y)), zD (dz (y))]] = some (.agg [zS (Rat.num (gapQ e x y)), zD (Rat.num (gapQ e x y)), zS (dz (gapQ e x y)), zD (dz (gapQ e x y))]) := by
  refine M_of X (fn := Tryz.f83) Tryz.func83 rfl ok_83 mode_83 res_83 _ rfl _ ?_
  intro r hr
  obtain ⟨⟨h1, h2⟩, ⟨h3, h4⟩, h5, h6⟩ := he
  have v1 := M_120 e.1 ⟨by omega, by omega⟩ ⟨by omega, by omega⟩ ⟨h3, h4⟩ (x := x) (y := y) (by omega)
  have r1 : RS (rateQ e.1 x y) (2 * (n + m) + 32) := rs_rate e.1 ⟨by omega, by omega⟩ ⟨by omega, by omega⟩ ⟨h3, h4⟩
  have o1 := M_53 e.2 e.1.2.2 (by omega) (by omega)
  have r2 : RS (Rat.divInt e.2 e.1.2.2) 4 := by
    by_cases h0 : e.1.2.2 = 0
    · rw [h0, Rat.divInt_zero]; exact rs_zero.mono (by omega)
    · exact (rs_divInt (n := 3) (by omega) (nd_lit (k := 3) (by simp only [Bn]; omega)) (nd_lit (k := 3) (by simp only [Bn]; omega))).mono (by omega)
  rw [hr, gapQ]
  generalize Rat.divInt e.2 e.1.2.2 = p1 at *
  generalize rateQ e.1 x y = p2 at *
  simp (maxSteps := 4000000) (disch := first | omega | (simp only [List.length_set, List.length_replicate, List.length_append, List.length_take, List.length_drop, List.length_cons, List.length_nil]; omega)) only [go_sem, reduceCtorEq, Nat.reduceEqDiff, Nat.reduceAdd, Nat.reduceMul, Nat.reduceSub, ↓Nat.reduceBEq, Nat.reduceLT, Nat.reduceLeDiff, Int.reduceLT, Int.reduceLE, Int.reduceNeg, Int.reduceToNat, M_119, mode_53, o1, mode_120, v1]
theorem rs_gap (e : Ed) (he : okE e) {x y : Rat} {n m : Nat} [hx : RS x n] [hy : RS y m] : RS (gapQ e x y) (2 * (n + m) + 48) := by
  obtain ⟨⟨h1, h2⟩, ⟨h3, h4⟩, h5, h6⟩ := he
  have r1 : RS (rateQ e.1 x y) (2 * (n + m) + 32) := rs_rate e.1 ⟨by omega, by omega⟩ ⟨by omega, by omega⟩ ⟨h3, h4⟩
  have r2 : RS (Rat.divInt e.2 e.1.2.2) 4 := by
    by_cases h0 : e.1.2.2 = 0
    · rw [h0, Rat.divInt_zero]; exact rs_zero.mono (by omega)
    · exact (rs_divInt (n := 3) (by omega) (nd_lit (k := 3) (by simp only [Bn]; omega)) (nd_lit (k := 3) (by simp only [Bn]; omega))).mono (by omega)
  unfold gapQ
  exact (inferInstance : RS (_ - _) _).mono (by omega)
def opens (x y : Rat) (e : Ed) : Bool := decide (0 ≤ cmpQ (gapQ e x y) 0)
set_option maxRecDepth 100000 in
theorem M_81 [SpC] (e : Ed) (he : okE e) {x y : Rat} {n m : Nat} [hx : RS x n] [hy : RS y m] (h : n + m < 2 ^ 22) : M X 81 [.agg (edA e), .rptr [zS (Rat.num (x)), zD (Rat.num (x)), zS (dz (x)), zD (dz (x)), zS (Rat.num (y)), zD (Rat.num (y)), zS (dz (y)), zD (dz (y))]] = some (.bool (opens x y e)) := by
  refine M_of X (fn := Tryz.f81) Tryz.func81 rfl ok_81 mode_81 res_81 _ rfl _ ?_
  intro r hr
  have v1 := M_83 e he (x := x) (y := y) (by omega)
  have r1 : RS (gapQ e x y) (2 * (n + m) + 48) := rs_gap e he
  have v2 := M_82 (gapQ e x y)
  rw [hr, opens]
  generalize gapQ e x y = g at *
  generalize cmpQ g 0 = c at *
  simp (maxSteps := 4000000) (disch := first | omega | (simp only [List.length_set, List.length_replicate, List.length_append, List.length_take, List.length_drop, List.length_cons, List.length_nil]; omega)) only [go_sem, reduceCtorEq, Nat.reduceEqDiff, Nat.reduceAdd, Nat.reduceMul, Nat.reduceSub, ↓Nat.reduceBEq, Nat.reduceLT, Nat.reduceLeDiff, Int.reduceLT, Int.reduceLE, Int.reduceNeg, Int.reduceToNat, mode_83, v1, mode_82, v2]
set_option maxRecDepth 100000 in
theorem M_41 [SpC] (l : List Ed) (hl : l.length < 2 ^ 30) (he : ∀ e ∈ l, okE e) {x y : Rat} {n m : Nat} [hx : RS x n] [hy : RS y m] (h : n + m < 2 ^ 22) : M X 41 [.ro (edC l) l.length false, .agg [zS (Rat.num (x)), zD (Rat.num (x)), zS (dz (x)), zD (dz (x)), zS (Rat.num (y)), zD (Rat.num (y)), zS (dz (y)), zD (dz (y))]] = some (.bool (!l.any (opens x y))) := by
  refine M_of X (fn := Tryz.f41) Tryz.func41 rfl ok_41 mode_41 res_41 _ rfl _ ?_
  intro r hr
  have v1 := con_edge 81 mode_81 [zS (Rat.num (x)), zD (Rat.num (x)), zS (dz (x)), zD (dz (x)), zS (Rat.num (y)), zD (Rat.num (y)), zS (dz (y)), zD (dz (y))] (by simp only [weak_zS, weak_zD, weakgo_nil, weakgo_cons]) (opens x y) l (fun e hm => M_81 e (he e hm) (by omega)) hl false
  have hl2 := edC_length l
  rw [hr]
  simp (maxSteps := 4000000) (disch := first | omega | (simp only [List.length_set, List.length_replicate, List.length_append, List.length_take, List.length_drop, List.length_cons, List.length_nil]; omega)) only [go_sem, reduceCtorEq, Nat.reduceEqDiff, Nat.reduceAdd, Nat.reduceMul, Nat.reduceSub, ↓Nat.reduceBEq, Nat.reduceLT, Nat.reduceLeDiff, Int.reduceLT, Int.reduceLE, Int.reduceNeg, Int.reduceToNat, hl2, weaks_edC, weak_rptr, mode_80, v1]
end Go.Proofs.YtjccikgdebgebaaGreatDoor.Abs
end
section
set_option linter.unusedSimpArgs false
namespace Go.Proofs.YtjccikgdebgebaaGreatDoor.Abs
open Go
theorem half_eq : (Rat.divInt 1 2 : Rat) + Rat.divInt 1 2 = 1 := by decide +kernel
theorem along_zero (p v a : Rat) : alongQ p v a 0 = p := by unfold alongQ; grind
theorem along_shift (p v a e s : Rat) : alongQ (alongQ p v a e) (v + a * e) a s = alongQ p v a (e + s) := by
  have h := half_eq
  unfold alongQ
  generalize (Rat.divInt 1 2 : Rat) = t at *
  grind
theorem mul_nn {x y : Rat} (hx : 0 ≤ x) (hy : 0 ≤ y) : 0 ≤ x * y := Rat.mul_nonneg hx hy
theorem turn_eq {v a : Rat} (ha : a ≠ 0) : v = - (a * turnQ v a) := by
  unfold turnQ
  have : v / a * a = v := Rat.div_mul_cancel ha
  grind
/-- Against the turning point. -/
theorem along_turn {p v a s : Rat} (ha : a ≠ 0) : alongQ p v a s = alongQ p v a (turnQ v a) + a * (Rat.divInt 1 2) * ((s - turnQ v a) * (s - turnQ v a)) := by
  have h := half_eq
  have hv := turn_eq (v := v) ha
  generalize turnQ v a = t at *
  subst hv
  unfold alongQ
  generalize (Rat.divInt 1 2 : Rat) = u at *
  grind
theorem half_nn : (0 : Rat) ≤ Rat.divInt 1 2 := by decide +kernel
theorem sq_nn (x : Rat) : 0 ≤ x * x := by
  rcases (Rat.le_total (a := 0) (b := x)) with h | h
  · exact mul_nn h h
  · have := mul_nn (x := -x) (y := -x) (by grind) (by grind)
    grind
/-- Between two times, without a turn, what lies between lies between. -/
theorem along_between {p v a e s : Rat} (hs : 0 ≤ s) (he : s ≤ e) (ht : ¬ turns v a e) : (p ≤ alongQ p v a s ∧ alongQ p v a s ≤ alongQ p v a e) ∨ (alongQ p v a s ≤ p ∧ alongQ p v a e ≤ alongQ p v a s) := by
  have h := half_eq
  have hn := half_nn
  unfold turns at ht
  have key : ∀ x y : Rat, alongQ p v a y - alongQ p v a x = (y - x) * (v + a * ((x + y) * Rat.divInt 1 2)) := by
    intro x y
    unfold alongQ
    generalize (Rat.divInt 1 2 : Rat) = u at *
    grind
  have k1 := key 0 s
  have k2 := key s e
  rw [along_zero] at k1
  by_cases ha : a = 0
  · subst ha
    rcases (Rat.le_total (a := 0) (b := v)) with hv | hv
    · left
      have m1 := mul_nn hs hv
      have m2 := mul_nn (x := e - s) (by grind) hv
      grind
    · right
      have m1 := mul_nn (y := -v) hs (by grind)
      have m2 := mul_nn (x := e - s) (y := -v) (by grind) (by grind)
      grind
  · have hv := turn_eq (v := v) ha
    have ht : turnQ v a ≤ 0 ∨ e ≤ turnQ v a := by
      by_cases h1 : 0 < turnQ v a
      · right
        exact Rat.not_lt.1 fun h2 => ht ⟨ha, h1, h2⟩
      · left; exact Rat.not_lt.1 h1
    generalize turnQ v a = t at *
    subst hv
    have e1 : (s + 0 - (t + t)) = s - 2 * t := by grind
    have f1 : - (a * t) + a * ((0 + s) * Rat.divInt 1 2) = a * ((s - (t + t)) * Rat.divInt 1 2) := by
      generalize (Rat.divInt 1 2 : Rat) = u at *
      grind
    have f2 : - (a * t) + a * ((s + e) * Rat.divInt 1 2) = a * ((s + e - (t + t)) * Rat.divInt 1 2) := by
      generalize (Rat.divInt 1 2 : Rat) = u at *
      grind
    rw [f1] at k1
    rw [f2] at k2
    rcases ht with ht | ht
    · have g1 : 0 ≤ (s - (t + t)) * Rat.divInt 1 2 := mul_nn (by grind) hn
      have g2 : 0 ≤ (s + e - (t + t)) * Rat.divInt 1 2 := mul_nn (by grind) hn
      generalize (s - (t + t)) * Rat.divInt 1 2 = w1 at *
      generalize (s + e - (t + t)) * Rat.divInt 1 2 = w2 at *
      rcases (Rat.le_total (a := 0) (b := a)) with h0 | h0
      · left
        have m1 := mul_nn (x := s) (y := a * w1) hs (mul_nn h0 g1)
        have m2 := mul_nn (x := e - s) (y := a * w2) (by grind) (mul_nn h0 g2)
        grind
      · right
        have m1 := mul_nn (x := s) (y := (-a) * w1) hs (mul_nn (by grind) g1)
        have m2 := mul_nn (x := e - s) (y := (-a) * w2) (by grind) (mul_nn (by grind) g2)
        grind
    · have g1 : 0 ≤ ((t + t) - s) * Rat.divInt 1 2 := mul_nn (by grind) hn
      have g2 : 0 ≤ ((t + t) - s - e) * Rat.divInt 1 2 := mul_nn (by grind) hn
      have h1 : (s - (t + t)) * Rat.divInt 1 2 = - (((t + t) - s) * Rat.divInt 1 2) := by
        generalize (Rat.divInt 1 2 : Rat) = u at *; grind
      have h2 : (s + e - (t + t)) * Rat.divInt 1 2 = - (((t + t) - s - e) * Rat.divInt 1 2) := by
        generalize (Rat.divInt 1 2 : Rat) = u at *; grind
      rw [h1] at k1
      rw [h2] at k2
      generalize ((t + t) - s) * Rat.divInt 1 2 = w1 at *
      generalize ((t + t) - s - e) * Rat.divInt 1 2 = w2 at *
      rcases (Rat.le_total (a := 0) (b := a)) with h0 | h0
      · right
        have m1 := mul_nn (x := s) (y := a * w1) hs (mul_nn h0 g1)
        have m2 := mul_nn (x := e - s) (y := a * w2) (by grind) (mul_nn h0 g2)
        grind
      · left
        have m1 := mul_nn (x := s) (y := (-a) * w1) hs (mul_nn (by grind) g1)
        have m2 := mul_nn (x := e - s) (y := (-a) * w2) (by grind) (mul_nn (by grind) g2)
        grind
theorem lo_le {p v a e s : Rat} (hs : 0 ≤ s) (he : s ≤ e) : loQ p v a e ≤ alongQ p v a s := by
  unfold loQ
  split
  · rename_i ht
    have h1 := along_turn (p := p) (v := v) (a := a) (s := s) ht.1
    have h2 := along_turn (p := p) (v := v) (a := a) (s := e) ht.1
    have h3 := along_turn (p := p) (v := v) (a := a) (s := 0) ht.1
    rw [along_zero] at h3
    obtain ⟨_, t1, t2⟩ := ht
    have hn := half_nn
    generalize turnQ v a = t at *
    generalize (Rat.divInt 1 2 : Rat) = u at *
    generalize alongQ p v a t = f0 at *
    generalize alongQ p v a s = f1 at *
    generalize alongQ p v a e = f2 at *
    rcases (Rat.le_total (a := 0) (b := a)) with h0 | h0
    · have := mul_nn (mul_nn h0 hn) (sq_nn (s - t))
      grind
    · have m0 := mul_nn (x := -a) (by grind) hn
      rcases (Rat.le_total (a := s) (b := t)) with hst | hst
      · -- at the left: above p
        have m1 := mul_nn m0 (mul_nn (x := s) (y := t + t - s) hs (by grind))
        have : f1 - p = -a * u * (s * (t + t - s)) := by rw [h1, h3]; grind
        grind
      · have m1 := mul_nn m0 (mul_nn (x := e - s) (y := e + s - t - t) (by grind) (by grind))
        have : f1 - f2 = -a * u * ((e - s) * (e + s - t - t)) := by rw [h1, h2]; grind
        grind
  · rename_i ht
    rcases along_between (p := p) hs he ht with ⟨h1, h2⟩ | ⟨h1, h2⟩ <;> grind
theorem hi_ge {p v a e s : Rat} (hs : 0 ≤ s) (he : s ≤ e) : alongQ p v a s ≤ hiQ p v a e := by
  unfold hiQ
  split
  · rename_i ht
    have h1 := along_turn (p := p) (v := v) (a := a) (s := s) ht.1
    have h2 := along_turn (p := p) (v := v) (a := a) (s := e) ht.1
    have h3 := along_turn (p := p) (v := v) (a := a) (s := 0) ht.1
    rw [along_zero] at h3
    obtain ⟨_, t1, t2⟩ := ht
    have hn := half_nn
    generalize turnQ v a = t at *
    generalize (Rat.divInt 1 2 : Rat) = u at *
    generalize alongQ p v a t = f0 at *
    generalize alongQ p v a s = f1 at *
    generalize alongQ p v a e = f2 at *
    rcases (Rat.le_total (a := a) (b := 0)) with h0 | h0
    · have := mul_nn (mul_nn (x := -a) (by grind) hn) (sq_nn (s - t))
      grind
    · have m0 := mul_nn h0 hn
      rcases (Rat.le_total (a := s) (b := t)) with hst | hst
      · have m1 := mul_nn m0 (mul_nn (x := s) (y := t + t - s) hs (by grind))
        have : p - f1 = a * u * (s * (t + t - s)) := by rw [h1, h3]; grind
        grind
      · have m1 := mul_nn m0 (mul_nn (x := e - s) (y := e + s - t - t) (by grind) (by grind))
        have : f2 - f1 = a * u * ((e - s) * (e + s - t - t)) := by rw [h1, h2]; grind
        grind
  · rename_i ht
    rcases along_between (p := p) hs he ht with ⟨h1, h2⟩ | ⟨h1, h2⟩ <;> grind
theorem lo_att {p v a e : Rat} (h : 0 ≤ e) : ∃ s, 0 ≤ s ∧ s ≤ e ∧ loQ p v a e = alongQ p v a s := by
  unfold loQ
  split
  · rename_i ht
    have h0 := along_zero p v a
    by_cases h1 : min p (alongQ p v a e) ≤ alongQ p v a (turnQ v a)
    · by_cases h2 : p ≤ alongQ p v a e
      · exact ⟨0, by grind, h, by grind⟩
      · exact ⟨e, h, by grind, by grind⟩
    · exact ⟨turnQ v a, by have := ht.2.1; grind, by have := ht.2.2; grind, by grind⟩
  · have h0 := along_zero p v a
    by_cases h2 : p ≤ alongQ p v a e
    · exact ⟨0, by grind, h, by grind⟩
    · exact ⟨e, h, by grind, by grind⟩
theorem hi_att {p v a e : Rat} (h : 0 ≤ e) : ∃ s, 0 ≤ s ∧ s ≤ e ∧ hiQ p v a e = alongQ p v a s := by
  unfold hiQ
  split
  · rename_i ht
    have h0 := along_zero p v a
    by_cases h1 : alongQ p v a (turnQ v a) ≤ max p (alongQ p v a e)
    · by_cases h2 : alongQ p v a e ≤ p
      · exact ⟨0, by grind, h, by grind⟩
      · exact ⟨e, h, by grind, by grind⟩
    · exact ⟨turnQ v a, by have := ht.2.1; grind, by have := ht.2.2; grind, by grind⟩
  · have h0 := along_zero p v a
    by_cases h2 : alongQ p v a e ≤ p
    · exact ⟨0, by grind, h, by grind⟩
    · exact ⟨e, h, by grind, by grind⟩
theorem lo_join (p v a e f : Rat) (he : 0 ≤ e) (hf : 0 ≤ f) : min (loQ p v a e) (loQ (alongQ p v a e) (v + a * e) a f) = loQ p v a (e + f) := by
  obtain ⟨s1, a1, a2, a3⟩ := lo_att (p := p) (v := v) (a := a) he
  obtain ⟨s2, b1, b2, b3⟩ := lo_att (p := alongQ p v a e) (v := v + a * e) (a := a) hf
  obtain ⟨s3, c1, c2, c3⟩ := lo_att (p := p) (v := v) (a := a) (e := e + f) (by grind)
  rw [along_shift] at b3
  have d1 := lo_le (p := p) (v := v) (a := a) (s := s1) (e := e + f) a1 (by grind)
  have d2 := lo_le (p := p) (v := v) (a := a) (s := e + s2) (e := e + f) (by grind) (by grind)
  by_cases h : s3 ≤ e
  · have := lo_le (p := p) (v := v) (a := a) c1 h
    grind
  · have := lo_le (p := alongQ p v a e) (v := v + a * e) (a := a) (s := s3 - e) (e := f) (by grind) (by grind)
    rw [along_shift, show e + (s3 - e) = s3 by grind] at this
    grind
theorem hi_join (p v a e f : Rat) (he : 0 ≤ e) (hf : 0 ≤ f) : max (hiQ p v a e) (hiQ (alongQ p v a e) (v + a * e) a f) = hiQ p v a (e + f) := by
  obtain ⟨s1, a1, a2, a3⟩ := hi_att (p := p) (v := v) (a := a) he
  obtain ⟨s2, b1, b2, b3⟩ := hi_att (p := alongQ p v a e) (v := v + a * e) (a := a) hf
  obtain ⟨s3, c1, c2, c3⟩ := hi_att (p := p) (v := v) (a := a) (e := e + f) (by grind)
  rw [along_shift] at b3
  have d1 := hi_ge (p := p) (v := v) (a := a) (s := s1) (e := e + f) a1 (by grind)
  have d2 := hi_ge (p := p) (v := v) (a := a) (s := e + s2) (e := e + f) (by grind) (by grind)
  by_cases h : s3 ≤ e
  · have := hi_ge (p := p) (v := v) (a := a) c1 h
    grind
  · have := hi_ge (p := alongQ p v a e) (v := v + a * e) (a := a) (s := s3 - e) (e := f) (by grind) (by grind)
    rw [along_shift, show e + (s3 - e) = s3 by grind] at this
    grind
theorem lo_hi (p v a e : Rat) : loQ p v a e ≤ hiQ p v a e := by
  unfold loQ hiQ
  split <;> grind
theorem lowZ_le (pr : Pt → Int) (l : List Pt) : ∀ n k, k ≤ n → lowZ pr l n ≤ pr (l.getD k (0, 0)) := by
  intro n
  induction n with
  | zero => intro k hk; obtain rfl : k = 0 := by omega
            exact Int.le_refl _
  | succ n ih =>
    intro k hk
    unfold lowZ
    by_cases h : k = n + 1
    · subst h; omega
    · have := ih k (by omega); omega
theorem topZ_ge (pr : Pt → Int) (l : List Pt) : ∀ n k, k ≤ n → pr (l.getD k (0, 0)) ≤ topZ pr l n := by
  intro n
  induction n with
  | zero => intro k hk; obtain rfl : k = 0 := by omega
            exact Int.le_refl _
  | succ n ih =>
    intro k hk
    unfold topZ
    by_cases h : k = n + 1
    · subst h; omega
    · have := ih k (by omega); omega
theorem divInt_c (m : Int) : Rat.divInt m 1 = (m : Rat) := by
  rw [Rat.divInt_eq_div]
  have : ((1 : Int) : Rat) = 1 := rfl
  rw [this]; grind
theorem divInt_le {m n : Int} (h : m ≤ n) : Rat.divInt m 1 ≤ Rat.divInt n 1 := by
  rw [divInt_c, divInt_c]; exact Rat.intCast_le_intCast.2 h
theorem divInt_add1 (m n : Int) : Rat.divInt (m + n) 1 = Rat.divInt m 1 + Rat.divInt n 1 := by
  rw [divInt_c, divInt_c, divInt_c, Rat.intCast_add]
theorem divInt_nn {n : Int} (h : 0 ≤ n) : 0 ≤ Rat.divInt n 1 := divInt_le h
end Go.Proofs.YtjccikgdebgebaaGreatDoor.Abs
end
section
set_option linter.unusedSimpArgs false
namespace Go.Proofs.YtjccikgdebgebaaGreatDoor.Abs
open Go
/-- Two edges whose directions, added with numbers that are not negative, are a direction (ux, uy), and that stand for h. -/
def sepB (es : List Ed) (ux uy h : Int) : Bool := es.any fun e => es.any fun f =>
  decide (0 < e.1.1 * f.1.2.1 - e.1.2.1 * f.1.1) && decide (0 ≤ ux * f.1.2.1 - uy * f.1.1) && decide (0 ≤ e.1.1 * uy - e.1.2.1 * ux) &&
  decide ((ux * f.1.2.1 - uy * f.1.1) * e.2 + (e.1.1 * uy - e.1.2.1 * ux) * f.2 ≤ (e.1.1 * f.1.2.1 - e.1.2.1 * f.1.1) * h)
def okEd (e : Ed) : Bool := decide (0 < e.1.2.2) && decide (e.1.2.2 ≤ 1000000 ∧ (-1000000 ≤ e.2 ∧ e.2 ≤ 1000000) ∧ (-1000000 ≤ e.1.1 ∧ e.1.1 ≤ 1000000) ∧ (-1000000 ≤ e.1.2.1 ∧ e.1.2.1 ≤ 1000000))
def sepAll (a b : List Pt) (es : List Ed) : Bool :=
  sepB es 1 0 (topZ prX a (a.length - 1) - lowZ prX b (b.length - 1)) && sepB es (-1) 0 (topZ prX b (b.length - 1) - lowZ prX a (a.length - 1)) &&
  sepB es 0 1 (topZ prY a (a.length - 1) - lowZ prY b (b.length - 1)) && sepB es 0 (-1) (topZ prY b (b.length - 1) - lowZ prY a (a.length - 1)) && es.all okEd
def shpF (k a b : Int) : List Pt := if k = 0 then [(0, 0), (3 * a, 0), (0, 4 * a)] else if k = 1 then [(-3 * a, 0), (0, -4 * a), (3 * a, 0), (0, 4 * a)] else [(-a, 0), (b, 0), (b, a), (-a, a)]
def vldB (l : List Pt) : Bool := decide (3 ≤ l.length) && decide (l.length ≤ 8) && l.all (fun p => decide (-1048576 ≤ p.1) && decide (p.1 ≤ 1048576) && decide (-1048576 ≤ p.2) && decide (p.2 ≤ 1048576)) &&
  (List.range l.length).all (fun i => normOk ((ptA l ((i + 1) % l.length)).1 - (ptA l i).1) ((ptA l ((i + 1) % l.length)).2 - (ptA l i).2) &&
    (List.range l.length).all fun k => decide (k = i) || decide (k = (i + 1) % l.length) || decide (0 < crossP (ptA l i) (ptA l ((i + 1) % l.length)) (ptA l k)))
def shpL : List (List Pt) := [0, 1, 2].flatMap fun k => [1, 2, 3, 4].flatMap fun a => [1, 2, 3, 4].map fun b => shpF k a b
theorem vld_all : shpL.all vldB = true := by kernel_rfl
theorem sep_all : (shpL.all fun a => shpL.all fun b => sepAll a b (sidesV a b)) = true := by kernel_rfl
theorem vldP_of {l : List Pt} (h : vldB l = true) : vldP l := by
  unfold vldB at h
  simp only [Bool.and_eq_true, decide_eq_true_eq, List.all_eq_true, List.mem_range, Bool.or_eq_true] at h
  obtain ⟨⟨⟨h1, h2⟩, h3⟩, h4⟩ := h
  refine ⟨⟨h1, h2⟩, fun p hp => ?_, fun i hi => (h4 i hi).1, fun i hi k hk n1 n2 => ?_⟩
  · obtain ⟨⟨⟨a, b⟩, c⟩, d⟩ := h3 p hp
    exact ⟨⟨a, b⟩, c, d⟩
  · rcases (h4 i hi).2 k hk with (h5 | h5) | h5
    · exact absurd h5 n1
    · exact absurd h5 n2
    · exact h5
theorem four_cases {a : Int} (h : 1 ≤ a ∧ a ≤ 4) : a ∈ [1, 2, 3, 4] := by
  simp only [List.mem_cons, List.not_mem_nil, or_false]; omega
theorem shpF_mem {k a b : Int} (ha : 1 ≤ a ∧ a ≤ 4) (hb : 1 ≤ b ∧ b ≤ 4) : shpF k a b ∈ shpL := by
  unfold shpL
  rw [List.mem_flatMap]
  by_cases k0 : k = 0
  · subst k0; exact ⟨0, by simp, List.mem_flatMap.2 ⟨a, four_cases ha, List.mem_map.2 ⟨b, four_cases hb, rfl⟩⟩⟩
  · by_cases k1 : k = 1
    · subst k1; exact ⟨1, by simp, List.mem_flatMap.2 ⟨a, four_cases ha, List.mem_map.2 ⟨b, four_cases hb, rfl⟩⟩⟩
    · have e : shpF k a b = shpF 2 a b := by unfold shpF; rw [if_neg k0, if_neg k1]; rfl
      rw [e]
      exact ⟨2, by simp, List.mem_flatMap.2 ⟨a, four_cases ha, List.mem_map.2 ⟨b, four_cases hb, rfl⟩⟩⟩
/-! ### Gaps -/
theorem gap_nn {e : Ed} {x y : Rat} (hH : 0 < e.1.2.2) (h : (e.2 : Rat) ≤ (e.1.1 : Rat) * x + (e.1.2.1 : Rat) * y) : 0 ≤ gapQ e x y := by
  unfold gapQ rateQ
  rw [Rat.divInt_eq_div, Rat.divInt_eq_div, Rat.divInt_eq_div, Rat.divInt_eq_div]
  have hp : (0 : Rat) < (e.1.2.2 : Rat) := by have := (Rat.intCast_lt_intCast (a := 0) (b := e.1.2.2)).2 hH; simpa using this
  generalize (e.1.2.2 : Rat) = H at *
  have hi : 0 < H⁻¹ := Rat.inv_pos.2 hp
  have := Rat.mul_nonneg (a := (e.1.1 : Rat) * x + (e.1.2.1 : Rat) * y - e.2) (b := H⁻¹) (by grind) (by grind)
  have h1 : ((1 : Int) : Rat) = 1 := rfl
  rw [h1]
  grind
/-- A direction along which the vector is beyond: an edge whose gap is not negative. -/
theorem sep_gap {es : List Ed} {ux uy h : Int} (hs : sepB es ux uy h = true) (ho : es.all okEd = true) {x y : Rat} (hr : (h : Rat) < (ux : Rat) * x + (uy : Rat) * y) : ∃ e ∈ es, 0 ≤ gapQ e x y := by
  unfold sepB at hs
  rw [List.any_eq_true] at hs
  obtain ⟨e, he, hs⟩ := hs
  rw [List.any_eq_true] at hs
  obtain ⟨f, hf, hs⟩ := hs
  simp only [Bool.and_eq_true, decide_eq_true_eq] at hs
  obtain ⟨⟨⟨hD, hp⟩, hq⟩, hh⟩ := hs
  rw [List.all_eq_true] at ho
  have oe := ho e he
  have of := ho f hf
  unfold okEd at oe of
  simp only [Bool.and_eq_true, decide_eq_true_eq] at oe of
  apply Classical.byContradiction; intro hno
  have n1 : (e.1.1 : Rat) * x + (e.1.2.1 : Rat) * y < (e.2 : Rat) := by
    apply Rat.not_le.1; intro h1
    exact hno ⟨e, he, gap_nn oe.1 h1⟩
  have n2 : (f.1.1 : Rat) * x + (f.1.2.1 : Rat) * y < (f.2 : Rat) := by
    apply Rat.not_le.1; intro h1
    exact hno ⟨f, hf, gap_nn of.1 h1⟩
  have c1 := (Rat.intCast_lt_intCast (a := 0)).2 hD
  have c2 := (Rat.intCast_le_intCast (a := 0)).2 hp
  have c3 := (Rat.intCast_le_intCast (a := 0)).2 hq
  have c4 := Rat.intCast_le_intCast.2 hh
  simp only [Rat.intCast_sub, Rat.intCast_mul, Rat.intCast_add, Rat.intCast_zero] at c1 c2 c3 c4
  generalize (e.1.1 : Rat) = a1 at *
  generalize (e.1.2.1 : Rat) = a2 at *
  generalize (e.2 : Rat) = a3 at *
  generalize (f.1.1 : Rat) = b1 at *
  generalize (f.1.2.1 : Rat) = b2 at *
  generalize (f.2 : Rat) = b3 at *
  generalize (ux : Rat) = u1 at *
  generalize (uy : Rat) = u2 at *
  generalize (h : Rat) = t at *
  have m1 := Rat.mul_nonneg c2 (b := a3 - (a1 * x + a2 * y)) (by grind)
  have m2 := Rat.mul_nonneg c3 (b := b3 - (b1 * x + b2 * y)) (by grind)
  have m3 := Rat.mul_pos c1 (b := u1 * x + u2 * y - t) (by grind)
  grind
theorem sep_of {a b : List Pt} (ha : a ∈ shpL) (hb : b ∈ shpL) : sepAll a b (sidesV a b) = true :=
  List.all_eq_true.1 (List.all_eq_true.1 sep_all a ha) b hb
theorem apart_some {a b : List Pt} (ha : a ∈ shpL) (hb : b ∈ shpL) {px py vx vy cx cy qx qy ux uy dx dy s : Rat} {k : Int} (hk : 0 ≤ k) (hs : 0 ≤ s) (he : s ≤ Rat.divInt k 1) {A B : BoxQ} (hA : A = sweptQ a px py vx vy cx cy k) (hB : B = sweptQ b qx qy ux uy dx dy k)
    (hm : meetB A.lx A.ly A.hx A.hy B.lx B.ly B.hx B.hy = false) : ∃ e ∈ sidesV a b, 0 ≤ gapQ e (alongQ qx ux dx s - alongQ px vx cx s) (alongQ qy uy dy s - alongQ py vy cy s) := by
  subst hA hB
  have hsp := sep_of ha hb
  unfold sepAll at hsp
  simp only [Bool.and_eq_true] at hsp
  obtain ⟨⟨⟨⟨s1, s2⟩, s3⟩, s4⟩, s5⟩ := hsp
  unfold sweptQ at hm
  simp only [if_neg (show ¬ k < 0 by omega)] at hm
  have a1 := lo_le (p := px) (v := vx) (a := cx) hs he
  have a2 := lo_le (p := py) (v := vy) (a := cy) hs he
  have a3 := hi_ge (p := px) (v := vx) (a := cx) hs he
  have a4 := hi_ge (p := py) (v := vy) (a := cy) hs he
  have b1 := lo_le (p := qx) (v := ux) (a := dx) hs he
  have b2 := lo_le (p := qy) (v := uy) (a := dy) hs he
  have b3 := hi_ge (p := qx) (v := ux) (a := dx) hs he
  have b4 := hi_ge (p := qy) (v := uy) (a := dy) hs he
  have d1 : ∀ z : Int, Rat.divInt z 1 = (z : Rat) := fun z => by rw [Rat.divInt_eq_div]; have h1 : ((1 : Int) : Rat) = 1 := rfl; rw [h1]; grind
  simp only [d1] at hm
  generalize topZ prX a (a.length - 1) = tax at *
  generalize topZ prY a (a.length - 1) = tay at *
  generalize lowZ prX a (a.length - 1) = lax at *
  generalize lowZ prY a (a.length - 1) = lay at *
  generalize topZ prX b (b.length - 1) = tbx at *
  generalize topZ prY b (b.length - 1) = tby at *
  generalize lowZ prX b (b.length - 1) = lbx at *
  generalize lowZ prY b (b.length - 1) = lby at *
  generalize sidesV a b = es at *
  unfold meetB at hm
  simp only [decide_eq_false_iff_not] at hm
  generalize alongQ px vx cx s = x1 at *
  generalize alongQ py vy cy s = y1 at *
  generalize alongQ qx ux dx s = x2 at *
  generalize alongQ qy uy dy s = y2 at *
  have z1 : ((1 : Int) : Rat) = 1 := rfl
  have z0 : ((0 : Int) : Rat) = 0 := rfl
  have zm : ((-1 : Int) : Rat) = -1 := rfl
  have e1 : ((tax - lbx : Int) : Rat) = (tax : Rat) - lbx := Rat.intCast_sub ..
  have e2 : ((tbx - lax : Int) : Rat) = (tbx : Rat) - lax := Rat.intCast_sub ..
  have e3 : ((tay - lby : Int) : Rat) = (tay : Rat) - lby := Rat.intCast_sub ..
  have e4 : ((tby - lay : Int) : Rat) = (tby : Rat) - lay := Rat.intCast_sub ..
  by_cases h1 : (tax : Rat) - lbx < x2 - x1
  · exact sep_gap s1 s5 (by rw [e1, z1, z0]; grind)
  · by_cases h2 : (tbx : Rat) - lax < x1 - x2
    · exact sep_gap s2 s5 (by rw [e2, zm, z0]; grind)
    · by_cases h3 : (tay : Rat) - lby < y2 - y1
      · exact sep_gap s3 s5 (by rw [e3, z1, z0]; grind)
      · by_cases h4 : (tby : Rat) - lay < y1 - y2
        · exact sep_gap s4 s5 (by rw [e4, zm, z0]; grind)
        · exact absurd (by refine ⟨?_, ?_, ?_, ?_⟩ <;> grind) hm
end Go.Proofs.YtjccikgdebgebaaGreatDoor.Abs
end
section
set_option linter.unusedSimpArgs false
namespace Go.Proofs.YtjccikgdebgebaaGreatDoor.Abs
open Go
theorem shapeP_mem (n : Int) : shapeP n ∈ shpL := by
  have h1 := arnd_bd (n / 7) 4 (by omega)
  have h2 := arnd_bd (n / 28) 4 (by omega)
  have h : shapeP n = shpF (arnd n 4) (1 + arnd (n / 7) 4) (1 + arnd (n / 28) 4) := rfl
  rw [h]
  exact shpF_mem (by omega) (by omega)
theorem okE_sides {a b : List Pt} (ha : a ∈ shpL) (hb : b ∈ shpL) : ∀ e ∈ sidesV a b, okE e := by
  have hsp := sep_of ha hb
  unfold sepAll at hsp
  simp only [Bool.and_eq_true] at hsp
  have h5 := hsp.2
  rw [List.all_eq_true] at h5
  intro e he
  have := h5 e he
  unfold okEd at this
  simp only [Bool.and_eq_true, decide_eq_true_eq] at this
  obtain ⟨k1, k2, k3, k4, k5⟩ := this
  exact ⟨⟨by omega, by omega⟩, ⟨by omega, by omega⟩, by omega, by omega⟩
theorem vld_of {a : List Pt} (ha : a ∈ shpL) : vldP a := vldP_of (List.all_eq_true.1 vld_all a ha)
set_option maxRecDepth 100000 in
set_option maxHeartbeats 16000000 in
theorem M_9 [SpC] (hS : SortedSays) (l : List Int) (one two n at0 : Int) (h1 : ok64 one) (h2 : ok64 two) (hn : ok64 n) (hat : ok64 at0) (hl : okI l) (hlen : l.length < 2 ^ 60) : M X 9 [isl l, .int .i64 one, .int .i64 two, .int .i64 n, .int .i64 at0] = some (.bool true) := by
  have hL := M_17 hS
  have v1 := M_11 l 0 hl (by omega)
  have v2 := M_11 l 2 hl (by omega)
  have v3 := M_11 l 4 hl (by omega)
  have v4 := M_11 l 6 hl (by omega)
  have v5 := M_11 l 8 hl (by omega)
  have v6 := M_11 l 10 hl (by omega)
  have r1 := rs_numQ (atN l (0 : Int).toNat 4096)
  have r2 := rs_numQ (atN l ((0 : Int).toNat + 1) 4096)
  have r3 := rs_numQ (atN l (2 : Int).toNat 4096)
  have r4 := rs_numQ (atN l ((2 : Int).toNat + 1) 4096)
  have r5 := rs_numQ (atN l (4 : Int).toNat 4096)
  have r6 := rs_numQ (atN l ((4 : Int).toNat + 1) 4096)
  have r7 := rs_numQ (atN l (6 : Int).toNat 4096)
  have r8 := rs_numQ (atN l ((6 : Int).toNat + 1) 4096)
  have r9 := rs_numQ (atN l (8 : Int).toNat 4096)
  have r10 := rs_numQ (atN l ((8 : Int).toNat + 1) 4096)
  have r11 := rs_numQ (atN l (10 : Int).toNat 4096)
  have r12 := rs_numQ (atN l ((10 : Int).toNat + 1) 4096)
  generalize numQ (atN l (0 : Int).toNat 4096) = px at *
  generalize numQ (atN l ((0 : Int).toNat + 1) 4096) = py at *
  generalize numQ (atN l (2 : Int).toNat 4096) = qx at *
  generalize numQ (atN l ((2 : Int).toNat + 1) 4096) = qy at *
  generalize numQ (atN l (4 : Int).toNat 4096) = vx at *
  generalize numQ (atN l ((4 : Int).toNat + 1) 4096) = vy at *
  generalize numQ (atN l (6 : Int).toNat 4096) = ux at *
  generalize numQ (atN l ((6 : Int).toNat + 1) 4096) = uy at *
  generalize numQ (atN l (8 : Int).toNat 4096) = cx at *
  generalize numQ (atN l ((8 : Int).toNat + 1) 4096) = cy at *
  generalize numQ (atN l (10 : Int).toNat 4096) = dx at *
  generalize numQ (atN l ((10 : Int).toNat + 1) 4096) = dy at *
  have a1 := M_12 one 1024 h1 (by omega)
  have a2 := M_12 two 1024 h2 (by omega)
  have a3 := M_12 n 5 hn (by omega)
  have a4 := M_12 at0 32 hat (by omega)
  have b1 := arnd_bd one 1024 (by omega)
  have b2 := arnd_bd two 1024 (by omega)
  have b3 := arnd_bd n 5 (by omega)
  have b4 := arnd_bd at0 32 (by omega)
  generalize arnd one 1024 = i1 at *
  generalize arnd two 1024 = i2 at *
  generalize arnd n 5 = k at *
  generalize arnd at0 32 = i4 at *
  have s1 := M_38 i1 ⟨by omega, by omega⟩
  have s2 := M_38 i2 ⟨by omega, by omega⟩
  have m1 := shapeP_mem i1
  have m2 := shapeP_mem i2
  have c1 := okP_shape i1
  have c2 := okP_shape i2
  generalize shapeP i1 = a at *
  generalize shapeP i2 = b at *
  have va := vld_of m1
  have vb := vld_of m2
  have al := va.1
  have bl := vb.1
  have f1 := M_39 a va
  have f2 := M_39 b vb
  have f3 := M_42 a b va.2.1 vb.2.1 (by omega) (by omega) (by omega) (by omega)
  have hle := sidB_len a b b.length
  rw [show sidB a b b.length = sidesV a b from rfl] at hle
  have oE := okE_sides m1 m2
  have o1 := M_28 i4 31 ⟨by omega, by omega⟩ ⟨by omega, by omega⟩
  have o2 := M_28 k 1 ⟨by omega, by omega⟩ ⟨by omega, by omega⟩
  have t1 : RS (Rat.divInt i4 31) 1 := rs_small (by omega) (by decide)
  have t2 : RS (Rat.divInt k 1) 1 := rs_small (by omega) (by decide)
  have e2 := divInt_nn (n := k) (by omega)
  have hs2 : 0 ≤ Rat.divInt i4 31 * Rat.divInt k 1 ∧ Rat.divInt i4 31 * Rat.divInt k 1 ≤ Rat.divInt k 1 := by
    have d1 : 0 ≤ Rat.divInt i4 31 ∧ Rat.divInt i4 31 ≤ 1 := by
      have z : (0 : Rat) ≤ (i4 : Rat) := by have := (Rat.intCast_le_intCast (a := 0) (b := i4)).2 b4.1; simpa using this
      have z2 : (i4 : Rat) ≤ 31 := by have := (Rat.intCast_le_intCast (a := i4) (b := 31)).2 (by omega); simpa using this
      rw [Rat.divInt_eq_div]
      have : ((31 : Int) : Rat) = 31 := rfl
      rw [this]
      constructor
      · have := mul_nn z (y := 1 / 31) (by decide +kernel)
        grind
      · grind
    constructor
    · exact mul_nn d1.1 e2
    · have := mul_nn (x := 1 - Rat.divInt i4 31) (by grind) e2
      grind
  have mu := M_31 (x := Rat.divInt i4 31) (y := Rat.divInt k 1) (by omega)
  have ts : RS (Rat.divInt i4 31 * Rat.divInt k 1) 2 := inferInstance
  generalize Rat.divInt i4 31 * Rat.divInt k 1 = s at *
  have hA1 := M_29 (px := px) (py := py) (vx := vx) (vy := vy) (ax := cx) (ay := cy) (s := s) (by omega)
  have hA2 := M_29 (px := qx) (py := qy) (vx := ux) (vy := uy) (ax := dx) (ay := dy) (s := s) (by omega)
  have hw1 := M_15 (px := px) (py := py) (vx := vx) (vy := vy) (ax := cx) (ay := cy) a c1 (by omega) k ⟨by omega, by omega⟩ (by omega)
  have hw2 := M_15 (px := qx) (py := qy) (vx := ux) (vy := uy) (ax := dx) (ay := dy) b c2 (by omega) k ⟨by omega, by omega⟩ (by omega)
  have R1 : RB (sweptQ a px py vx vy cx cy k) 200 := by
    have := rb_swept (px := px) (py := py) (vx := vx) (vy := vy) (ax := cx) (ay := cy) a c1 k ⟨by omega, by omega⟩
    exact ⟨this.r1.mono (by omega), this.r2.mono (by omega), this.r3.mono (by omega), this.r4.mono (by omega)⟩
  have R2 : RB (sweptQ b qx qy ux uy dx dy k) 200 := by
    have := rb_swept (px := qx) (py := qy) (vx := ux) (vy := uy) (ax := dx) (ay := dy) b c2 k ⟨by omega, by omega⟩
    exact ⟨this.r1.mono (by omega), this.r2.mono (by omega), this.r3.mono (by omega), this.r4.mono (by omega)⟩
  obtain ⟨A, hA⟩ : ∃ A, A = sweptQ a px py vx vy cx cy k := ⟨_, rfl⟩
  obtain ⟨B, hB⟩ : ∃ B, B = sweptQ b qx qy ux uy dx dy k := ⟨_, rfl⟩
  rw [← hA] at hw1 R1
  rw [← hB] at hw2 R2
  have hm := M_19 (ax := A.lx) (ay := A.ly) (ax' := A.hx) (ay' := A.hy) (bx := B.lx) (by0 := B.ly) (bx' := B.hx) (by' := B.hy) (by omega)
  have hap := fun h => apart_some m1 m2 b3.1 hs2.1 hs2.2 hA hB h
  have w1 : RS (alongQ px vx cx s) 12 := (inferInstance : RS (alongQ px vx cx s) _).mono (by omega)
  have w2 : RS (alongQ py vy cy s) 12 := (inferInstance : RS (alongQ py vy cy s) _).mono (by omega)
  have w3 : RS (alongQ qx ux dx s) 12 := (inferInstance : RS (alongQ qx ux dx s) _).mono (by omega)
  have w4 : RS (alongQ qy uy dy s) 12 := (inferInstance : RS (alongQ qy uy dy s) _).mono (by omega)
  generalize alongQ px vx cx s = x1 at *
  generalize alongQ py vy cy s = y1 at *
  generalize alongQ qx ux dx s = x2 at *
  generalize alongQ qy uy dy s = y2 at *
  have u1 := M_40 (x := x2) (y := x1) (by omega)
  have u2 := M_40 (x := y2) (y := y1) (by omega)
  have q1 : RS (x2 - x1) 25 := (inferInstance : RS (x2 - x1) _).mono (by omega)
  have q2 : RS (y2 - y1) 25 := (inferInstance : RS (y2 - y1) _).mono (by omega)
  generalize x2 - x1 = rx at *
  generalize y2 - y1 = ry at *
  have hg := M_41 (sidesV a b) (by omega) oE (x := rx) (y := ry) (by omega)
  have hel := edC_length (sidesV a b)
  generalize sidesV a b = es at *
  have hpa := ptC_length a
  have hpb := ptC_length b
  generalize meetB A.lx A.ly A.hx A.hy B.lx B.ly B.hx B.hy = mt at *
  refine M_of X (fn := Tryz.f9) Tryz.func9 rfl ok_9 mode_9 res_9 _ rfl _ ?_
  intro r hr
  rw [hr]
  cases mt with
  | true =>
    simp (maxSteps := 4000000) (disch := first | omega | (simp only [List.length_set, List.length_replicate, List.length_append, List.length_take, List.length_drop, List.length_cons, List.length_nil]; omega)) only [go_sem, reduceCtorEq, Nat.reduceEqDiff, Nat.reduceAdd, Nat.reduceMul, Nat.reduceSub, ↓Nat.reduceBEq, Nat.reduceLT, Nat.reduceLeDiff, Int.reduceLT, Int.reduceLE, Int.reduceNeg, Int.reduceToNat, M_14, v1, v2, v3, v4, v5, v6, a1, a2, a3, a4, s1, s2, f1, f2, f3, o1, o2, mu, hA1, hA2, hw1, hw2, hm, u1, u2, hg, hpa, hpb, hel, weaks_ptC, weaks_edC, hL]
  | false =>
    obtain ⟨e, he, hge⟩ := hap rfl
    have hany : es.any (opens rx ry) = true := List.any_eq_true.2 ⟨e, he, decide_eq_true (cmpQ_nlt (by grind))⟩
    rw [hany] at hg
    simp (maxSteps := 4000000) (disch := first | omega | (simp only [List.length_set, List.length_replicate, List.length_append, List.length_take, List.length_drop, List.length_cons, List.length_nil]; omega)) only [go_sem, reduceCtorEq, Nat.reduceEqDiff, Nat.reduceAdd, Nat.reduceMul, Nat.reduceSub, ↓Nat.reduceBEq, Nat.reduceLT, Nat.reduceLeDiff, Int.reduceLT, Int.reduceLE, Int.reduceNeg, Int.reduceToNat, M_14, v1, v2, v3, v4, v5, v6, a1, a2, a3, a4, s1, s2, f1, f2, f3, o1, o2, mu, hA1, hA2, hw1, hw2, hm, u1, u2, hg, hpa, hpb, hel, weaks_ptC, weaks_edC, hL]
end Go.Proofs.YtjccikgdebgebaaGreatDoor.Abs
end
