/-
  Pairs, of the package and of its reference. No conditions. The laws BroadPairs and BroadMoved. Conditions: what Sorted answers. The law BroadMoved. Conditions: what Sorted answers.
-/
import Derived.Test.YtjccikgdebgebaaGreatDoorQ10
import Derived.Test.YtjccikgdebgebaaGreatDoorQ11
set_option linter.unusedSimpArgs false
set_option linter.unusedVariables false
section
set_option linter.unusedSimpArgs false
namespace Go.Proofs.YtjccikgdebgebaaGreatDoor.Abs
open Go
theorem rowP_nil (l : List BoxQ) (i : Nat) : ∀ m, m ≤ i + 1 → rowP l i m = [] := by
  intro m
  induction m with
  | zero => intro _; rfl
  | succ m ih =>
    intro h
    unfold rowP
    rw [if_neg (by omega), ih (by omega)]
/-- The pairs of those ahead of i, and of i with those ahead of m. -/
def prk (l : List BoxQ) (i m : Nat) : List Pt := prsP l l.length i ++ rowP l i m
theorem prk_nil (l : List BoxQ) (i : Nat) : prk l i (i + 1) = prsP l l.length i := by unfold prk; rw [rowP_nil l i (i + 1) (by omega), List.append_nil]
theorem prk_end (l : List BoxQ) (i : Nat) : prk l i l.length = prsP l l.length (i + 1) := rfl
theorem prk_yes (l : List BoxQ) (i m : Nat) (h : i < m) (hm : mtN l i m = true) : prk l i (m + 1) = prk l i m ++ [((i : Int), (m : Int))] := by
  unfold prk; rw [show rowP l i (m + 1) = rowP l i m ++ [((i : Int), (m : Int))] from if_pos ⟨h, hm⟩, List.append_assoc]
theorem prk_no (l : List BoxQ) (i m : Nat) (hm : mtN l i m = false) : prk l i (m + 1) = prk l i m := by
  unfold prk; rw [show rowP l i (m + 1) = rowP l i m from if_neg (fun hh => by simp [hm] at hh)]
theorem prsP_len2 (l : List BoxQ) (i m : Nat) (hi : i ≤ l.length) (hm : m ≤ l.length) : (prk l i m).length ≤ l.length * l.length + l.length := by
  unfold prk
  rw [List.length_append]
  have h1 := prsP_length l l.length i
  have h2 := rowP_length l i m
  have := Nat.mul_le_mul_right l.length hi
  omega
set_option maxRecDepth 100000 in
set_option maxHeartbeats 8000000 in
theorem M_36 [SpC] {l : List BoxQ} {n : Nat} (hl : okB l n) (hlen : l.length < 2 ^ 16) (h : 8 * n < 2 ^ 24) :
    M X 36 [.ro (boxC l) l.length false] = some (.ro (ptC (prsP l l.length l.length)) (prsP l l.length l.length).length false) := by
  have hbl := boxC_length l
  have hll : l.length * l.length ≤ 2 ^ 16 * 2 ^ 16 := Nat.mul_le_mul (by omega) (by omega)
  refine M_of X (fn := Tryz.f36) Tryz.func36 rfl ok_36 mode_36 res_36 _ rfl _ ?_
  intro r hr
  rw [hr]
  simp (maxSteps := 4000000) (disch := first | omega | (simp only [List.length_set, List.length_replicate, List.length_append, List.length_take, List.length_drop, List.length_cons, List.length_nil]; omega)) only [go_sem, reduceCtorEq, Nat.reduceEqDiff, Nat.reduceAdd, Nat.reduceMul, Nat.reduceSub, ↓Nat.reduceBEq, Nat.reduceLT, Nat.reduceLeDiff, Int.reduceLT, Int.reduceLE, Int.reduceNeg, Int.reduceToNat]
  refine W_loop X (fun (i : Nat) s => i ≤ l.length ∧ s.env 0 = .ro (boxC l) l.length false ∧ s.env 4 = .int .i64 i ∧ GrowC 0 s.heap s.next (s.env 3) (ptC (prsP l l.length i)) (prsP l l.length i).length 2) (fun i => l.length - i) ?_ 0 _ ?_
  · rintro i ⟨env, heap, nx⟩ ⟨hi, g0, g4, hgr⟩
    simp only at g0 g4 hgr
    by_cases h1 : i < l.length
    · have r1 := hl _ (getD_mem l i h1)
      have d1 := boxC_take l i h1
      simp (maxSteps := 4000000) (disch := first | omega | (simp only [List.length_set, List.length_replicate, List.length_append, List.length_take, List.length_drop, List.length_cons, List.length_nil]; omega)) only [go_sem, reduceCtorEq, Nat.reduceEqDiff, Nat.reduceAdd, Nat.reduceMul, Nat.reduceSub, ↓Nat.reduceBEq, Nat.reduceLT, Nat.reduceLeDiff, Int.reduceLT, Int.reduceLE, Int.reduceNeg, Int.reduceToNat, g0, g4]
      refine W_loop X (fun (m : Nat) s => (i + 1 ≤ m ∧ m ≤ l.length) ∧ s.env 0 = .ro (boxC l) l.length false ∧ s.env 4 = .int .i64 i ∧ s.env 5 = .int .i64 m ∧ GrowC 0 s.heap s.next (s.env 3) (ptC (prk l i m)) (prk l i m).length 2) (fun m => l.length - m) ?_ (i + 1) _ ?_
      · rintro m ⟨env, heap, nx⟩ ⟨hm, g0, g4, g5, hgr⟩
        simp only at g0 g4 g5 hgr
        have hle := prsP_len2 l i m (by omega) hm.2
        by_cases h2 : m < l.length
        · have r2 := hl _ (getD_mem l m h2)
          have d2 := boxC_take l m h2
          have v1 := M_21 (ax := (l.getD i box0).lx) (ay := (l.getD i box0).ly) (ax' := (l.getD i box0).hx) (ay' := (l.getD i box0).hy) (bx := (l.getD m box0).lx) (by0 := (l.getD m box0).ly) (bx' := (l.getD m box0).hx) (by' := (l.getD m box0).hy) (by omega)
          rw [show meetB (l.getD i box0).lx (l.getD i box0).ly (l.getD i box0).hx (l.getD i box0).hy (l.getD m box0).lx (l.getD m box0).ly (l.getD m box0).hx (l.getD m box0).hy = mtN l i m from rfl] at v1
          by_cases h3 : mtN l i m = true
          · have hs := prk_yes l i m (by omega) h3
            rw [h3] at v1
            generalize l.getD i box0 = b1 at *
            generalize l.getD m box0 = b2 at *
            have hpl := ptC_length (prk l i m)
            generalize prk l i m = o at *
            rcases hgr with ⟨e3, ec, e0⟩ | ⟨B, hB, e3, eB⟩
            · rw [List.eq_nil_of_length_eq_zero e0] at hs
              simp (maxSteps := 4000000) (disch := first | omega | (simp only [List.length_set, List.length_replicate, List.length_append, List.length_take, List.length_drop, List.length_cons, List.length_nil]; omega)) only [go_sem, reduceCtorEq, Nat.reduceEqDiff, Nat.reduceAdd, Nat.reduceMul, Nat.reduceSub, ↓Nat.reduceBEq, Nat.reduceLT, Nat.reduceLeDiff, Int.reduceLT, Int.reduceLE, Int.reduceNeg, Int.reduceToNat, g0, g4, g5, hbl, d1, d2, v1, e3, replA_1]
              refine ⟨m + 1, ⟨by omega, rfl, ?_⟩, by omega⟩
              rw [hs]
              exact growC_put _ _ _ _ _ _ _ (by omega)
            · simp (maxSteps := 4000000) (disch := first | omega | (simp only [List.length_set, List.length_replicate, List.length_append, List.length_take, List.length_drop, List.length_cons, List.length_nil]; omega)) only [go_sem, reduceCtorEq, Nat.reduceEqDiff, Nat.reduceAdd, Nat.reduceMul, Nat.reduceSub, ↓Nat.reduceBEq, Nat.reduceLT, Nat.reduceLeDiff, Int.reduceLT, Int.reduceLE, Int.reduceNeg, Int.reduceToNat, g0, g4, g5, hbl, d1, d2, v1, e3, eB, hpl, replA_1]
              refine ⟨m + 1, ⟨by omega, rfl, ?_⟩, by omega⟩
              rw [hs, ptC_snocN, List.length_append]
              exact growC_put _ _ _ _ _ _ _ (by omega)
          · simp only [Bool.not_eq_true] at h3
            have hs := prk_no l i m h3
            rw [h3] at v1
            generalize l.getD i box0 = b1 at *
            generalize l.getD m box0 = b2 at *
            simp (maxSteps := 4000000) (disch := first | omega | (simp only [List.length_set, List.length_replicate, List.length_append, List.length_take, List.length_drop, List.length_cons, List.length_nil]; omega)) only [go_sem, reduceCtorEq, Nat.reduceEqDiff, Nat.reduceAdd, Nat.reduceMul, Nat.reduceSub, ↓Nat.reduceBEq, Nat.reduceLT, Nat.reduceLeDiff, Int.reduceLT, Int.reduceLE, Int.reduceNeg, Int.reduceToNat, g0, g4, g5, hbl, d1, d2, v1]
            refine ⟨m + 1, ⟨by omega, rfl, ?_⟩, by omega⟩
            rw [hs]
            exact growC_mono hgr (fun _ _ => rfl) (by omega)
        · obtain rfl : m = l.length := by omega
          rw [prk_end] at hgr
          simp (maxSteps := 4000000) (disch := first | omega | (simp only [List.length_set, List.length_replicate, List.length_append, List.length_take, List.length_drop, List.length_cons, List.length_nil]; omega)) only [go_sem, reduceCtorEq, Nat.reduceEqDiff, Nat.reduceAdd, Nat.reduceMul, Nat.reduceSub, ↓Nat.reduceBEq, Nat.reduceLT, Nat.reduceLeDiff, Int.reduceLT, Int.reduceLE, Int.reduceNeg, Int.reduceToNat, g0, g4, g5]
          exact ⟨i + 1, ⟨by omega, rfl, growC_mono hgr (fun _ _ => rfl) (by omega)⟩, by omega⟩
      · simp (maxSteps := 4000000) (disch := first | omega | (simp only [List.length_set, List.length_replicate, List.length_append, List.length_take, List.length_drop, List.length_cons, List.length_nil]; omega)) only [go_sem, reduceCtorEq, Nat.reduceEqDiff, Nat.reduceAdd, Nat.reduceMul, Nat.reduceSub, ↓Nat.reduceBEq, Nat.reduceLT, Nat.reduceLeDiff, Int.reduceLT, Int.reduceLE, Int.reduceNeg, Int.reduceToNat, g0, g4]
        refine ⟨by omega, ?_⟩
        rw [prk_nil]
        exact growC_mono hgr (fun _ _ => rfl) (by omega)
    · obtain rfl : i = l.length := by omega
      generalize prsP l l.length l.length = out at *
      have hpl := ptC_length out
      rcases hgr with ⟨e3, ec, e0⟩ | ⟨B, hB, e3, eB⟩
      · simp (maxSteps := 4000000) (disch := first | omega | (simp only [List.length_set, List.length_replicate, List.length_append, List.length_take, List.length_drop, List.length_cons, List.length_nil]; omega)) only [go_sem, reduceCtorEq, Nat.reduceEqDiff, Nat.reduceAdd, Nat.reduceMul, Nat.reduceSub, ↓Nat.reduceBEq, Nat.reduceLT, Nat.reduceLeDiff, Int.reduceLT, Int.reduceLE, Int.reduceNeg, Int.reduceToNat, g0, g4, e3]
        rw [List.eq_nil_of_length_eq_zero e0]; rfl
      · simp (maxSteps := 4000000) (disch := first | omega | (simp only [List.length_set, List.length_replicate, List.length_append, List.length_take, List.length_drop, List.length_cons, List.length_nil]; omega)) only [go_sem, reduceCtorEq, Nat.reduceEqDiff, Nat.reduceAdd, Nat.reduceMul, Nat.reduceSub, ↓Nat.reduceBEq, Nat.reduceLT, Nat.reduceLeDiff, Int.reduceLT, Int.reduceLE, Int.reduceNeg, Int.reduceToNat, g0, g4, e3, eB, hpl, snaps_ptC, weaks_ptC]
  · simp (maxSteps := 4000000) (disch := first | omega | (simp only [List.length_set, List.length_replicate, List.length_append, List.length_take, List.length_drop, List.length_cons, List.length_nil]; omega)) only [go_sem, reduceCtorEq, Nat.reduceEqDiff, Nat.reduceAdd, Nat.reduceMul, Nat.reduceSub, ↓Nat.reduceBEq, Nat.reduceLT, Nat.reduceLeDiff, Int.reduceLT, Int.reduceLE, Int.reduceNeg, Int.reduceToNat]
    exact growC_nil _ _ _ _
theorem boxC_dropD (l : List BoxQ) : ∀ k, List.drop (k * 16) (boxC l) = boxC (l.drop k) := by
  induction l with
  | nil => intro k; simp [boxC]
  | cons b l ih =>
    intro k
    cases k with
    | zero => simp
    | succ k =>
      rw [show (k + 1) * 16 = k * 16 + 16 by omega]
      have := ih k
      simpa [boxC] using this
theorem getD_drop2 (l : List BoxQ) (i k : Nat) : (l.drop i).getD k box0 = l.getD (i + k) box0 := by simp [List.getD_eq_getElem?_getD, List.getElem?_drop]
/-- A slice that grows, not in one block. -/
def GrowX (ne : Nat) (h : Heap) (nx : Nat) (v : AV) (cs : List AV) (n s : Nat) : Prop := (v = .ro [] 0 true ∧ cs = [] ∧ n = 0) ∨ ∃ B, (B ≠ ne ∧ B < nx) ∧ v = .sl B 0 n none s ∧ h B = some (.cells cs true false)
theorem growX_put (ne : Nat) (h : Heap) (nx b n s : Nat) (cs : List AV) (hb : b ≠ ne ∧ b < nx) : GrowX ne (upd h b (some (.cells cs true false))) nx (.sl b 0 n none s) cs n s := .inr ⟨b, hb, rfl, by simp [upd_apply]⟩
theorem growX_mono {ne : Nat} {h h' : Heap} {nx nx' : Nat} {v : AV} {cs : List AV} {n s : Nat} (hg : GrowX ne h nx v cs n s) (hh : ∀ b, b < nx → b ≠ ne → h' b = h b) (hn : nx ≤ nx') : GrowX ne h' nx' v cs n s := by
  rcases hg with h | ⟨B, h1, h2, h3⟩
  · exact .inl h
  · exact .inr ⟨B, ⟨h1.1, by omega⟩, h2, by rw [hh B h1.2 h1.1]; exact h3⟩
theorem growX_C {ne : Nat} {h h' : Heap} {nx nx' : Nat} {v : AV} {cs : List AV} {n s : Nat} (hg : GrowX ne h nx v cs n s) (hh : ∀ b, b < nx → b ≠ ne → h' b = h b) (hn : nx ≤ nx') : GrowC 0 h' nx' v cs n s := by
  rcases hg with h | ⟨B, h1, h2, h3⟩
  · exact .inl h
  · exact .inr ⟨B, by omega, h2, by rw [hh B h1.2 h1.1]; exact h3⟩
theorem growX_of {lo ne : Nat} {h h' : Heap} {nx nx' : Nat} {v : AV} {cs : List AV} {n s : Nat} (hg : GrowC lo h nx v cs n s) (hh : ∀ b, b < nx → h' b = h b) (hn : nx ≤ nx') (hne : nx ≤ ne) : GrowX ne h' nx' v cs n s := by
  rcases hg with h | ⟨B, h1, h2, h3⟩
  · exact .inl h
  · exact .inr ⟨B, by omega, h2, by rw [hh B h1.2]; exact h3⟩
set_option maxRecDepth 100000 in
set_option maxHeartbeats 8000000 in
theorem M_35 [SpC] {l : List BoxQ} {n : Nat} (hl : okB l n) (hlen : l.length < 2 ^ 16) (h : 8 * n < 2 ^ 24) :
    M X 35 [.ro (boxC l) l.length false] = some (.ro (ptC (prsP l l.length l.length)) (prsP l l.length l.length).length false) := by
  have hbl := boxC_length l
  have hll : l.length * l.length ≤ 2 ^ 16 * 2 ^ 16 := Nat.mul_le_mul (by omega) (by omega)
  refine M_of X (fn := Tryz.f35) Tryz.func35 rfl ok_35 mode_35 res_35 _ rfl _ ?_
  intro r hr
  rw [hr]
  simp (maxSteps := 4000000) (disch := first | omega | (simp only [List.length_set, List.length_replicate, List.length_append, List.length_take, List.length_drop, List.length_cons, List.length_nil]; omega)) only [go_sem, reduceCtorEq, Nat.reduceEqDiff, Nat.reduceAdd, Nat.reduceMul, Nat.reduceSub, ↓Nat.reduceBEq, Nat.reduceLT, Nat.reduceLeDiff, Int.reduceLT, Int.reduceLE, Int.reduceNeg, Int.reduceToNat]
  refine W_loop X (fun (i : Nat) s => i ≤ l.length ∧ s.env 0 = .ro (boxC l) l.length false ∧ s.env 8 = .ro (boxC l) l.length false ∧ s.env 9 = .int .i64 l.length ∧ s.env 10 = .int .i64 i ∧ GrowC 0 s.heap s.next (s.env 3) (ptC (prsP l l.length i)) (prsP l l.length i).length 2) (fun i => l.length - i) ?_ 0 _ ?_
  · rintro i ⟨env, heap, nx⟩ ⟨hi, g0, g8, g9, g10, hgr⟩
    simp only at g0 g8 g9 g10 hgr
    by_cases h1 : i < l.length
    · have r1 := hl _ (getD_mem l i h1)
      have d1 := boxC_take l i h1
      have e1 : List.take ((l.length - (i + 1)) * 16) (List.drop ((i + 1) * 16) (boxC l)) = boxC (l.drop (i + 1)) := by
        rw [boxC_dropD, List.take_of_length_le]
        rw [boxC_length, List.length_drop]; omega
      have hb2 := boxC_length (l.drop (i + 1))
      rw [List.length_drop] at hb2
      simp (maxSteps := 4000000) (disch := first | omega | (simp only [List.length_set, List.length_replicate, List.length_append, List.length_take, List.length_drop, List.length_cons, List.length_nil]; omega)) only [go_sem, reduceCtorEq, Nat.reduceEqDiff, Nat.reduceAdd, Nat.reduceMul, Nat.reduceSub, ↓Nat.reduceBEq, Nat.reduceLT, Nat.reduceLeDiff, Int.reduceLT, Int.reduceLE, Int.reduceNeg, Int.reduceToNat, g0, g8, g9, g10, hbl, d1, e1]
      refine W_loop X (fun (k : Nat) s => k ≤ l.length - (i + 1) ∧ s.env 0 = .ro (boxC l) l.length false ∧ s.env 8 = .ro (boxC l) l.length false ∧ s.env 9 = .int .i64 l.length ∧ s.env 10 = .int .i64 i ∧ s.env 4 = .int .i64 i ∧ s.env 5 = .ptr (nx + 8 + 24) 0 ∧
        s.env 18 = .ro (boxC (l.drop (i + 1))) (l.length - (i + 1)) false ∧ s.env 19 = .int .i64 ((l.length - (i + 1) : Nat) : Int) ∧ s.env 20 = .int .i64 k ∧ nx + 8 + 25 ≤ s.next ∧
        s.heap (nx + 8 + 24) = some (.cells [zS (Rat.num ((l.getD i box0).lx)), zD (Rat.num ((l.getD i box0).lx)), zS (dz ((l.getD i box0).lx)), zD (dz ((l.getD i box0).lx)), zS (Rat.num ((l.getD i box0).ly)), zD (Rat.num ((l.getD i box0).ly)), zS (dz ((l.getD i box0).ly)), zD (dz ((l.getD i box0).ly)), zS (Rat.num ((l.getD i box0).hx)), zD (Rat.num ((l.getD i box0).hx)), zS (dz ((l.getD i box0).hx)), zD (dz ((l.getD i box0).hx)), zS (Rat.num ((l.getD i box0).hy)), zD (Rat.num ((l.getD i box0).hy)), zS (dz ((l.getD i box0).hy)), zD (dz ((l.getD i box0).hy))] false false) ∧ GrowX (nx + 8 + 24) s.heap s.next (s.env 3) (ptC (prk l i (i + 1 + k))) (prk l i (i + 1 + k)).length 2) (fun k => l.length - (i + 1) - k) ?_ 0 _ ?_
      · rintro k ⟨env, heap, nx2⟩ ⟨hk, g0, g8, g9, g10, g4, g5, g18, g19, g20, hnx, ha, hgr⟩
        simp only at g0 g8 g9 g10 g4 g5 g18 g19 g20 hnx ha hgr
        have hle := prsP_len2 l i (i + 1 + k) (by omega) (by omega)
        by_cases h2 : k < l.length - (i + 1)
        · have r2 := hl _ (getD_mem l (i + 1 + k) (by omega))
          have d2 := boxC_take (l.drop (i + 1)) k (by rw [List.length_drop]; omega)
          rw [getD_drop2] at d2
          have v1 := M_19 (ax := (l.getD i box0).lx) (ay := (l.getD i box0).ly) (ax' := (l.getD i box0).hx) (ay' := (l.getD i box0).hy) (bx := (l.getD (i + 1 + k) box0).lx) (by0 := (l.getD (i + 1 + k) box0).ly) (bx' := (l.getD (i + 1 + k) box0).hx) (by' := (l.getD (i + 1 + k) box0).hy) (by omega)
          rw [show meetB (l.getD i box0).lx (l.getD i box0).ly (l.getD i box0).hx (l.getD i box0).hy (l.getD (i + 1 + k) box0).lx (l.getD (i + 1 + k) box0).ly (l.getD (i + 1 + k) box0).hx (l.getD (i + 1 + k) box0).hy = mtN l i (i + 1 + k) from rfl] at v1
          have hpl := ptC_length (prk l i (i + 1 + k))
          by_cases h3 : mtN l i (i + 1 + k) = true
          · have hs := prk_yes l i (i + 1 + k) (by omega) h3
            rw [h3] at v1
            generalize l.getD i box0 = b1 at *
            generalize l.getD (i + 1 + k) box0 = b2 at *
            generalize prk l i (i + 1 + k) = o at *
            rcases hgr with ⟨e3, ec, e0⟩ | ⟨B, hB, e3, eB⟩
            · rw [List.eq_nil_of_length_eq_zero e0] at hs
              simp (maxSteps := 4000000) (disch := first | omega | (simp only [List.length_set, List.length_replicate, List.length_append, List.length_take, List.length_drop, List.length_cons, List.length_nil]; omega)) only [go_sem, reduceCtorEq, Nat.reduceEqDiff, Nat.reduceAdd, Nat.reduceMul, Nat.reduceSub, ↓Nat.reduceBEq, Nat.reduceLT, Nat.reduceLeDiff, Int.reduceLT, Int.reduceLE, Int.reduceNeg, Int.reduceToNat, g4, g5, g18, g19, g20, ha, hb2, d2, v1, e3, replA_1]
              refine ⟨k + 1, ⟨by omega, g0, g8, g9, g10, rfl, by omega, ?_⟩, by omega⟩
              rw [show i + 1 + (k + 1) = i + 1 + k + 1 by omega, hs]
              exact growX_put _ _ _ _ _ _ _ (by omega)
            · simp (maxSteps := 4000000) (disch := first | omega | (simp only [List.length_set, List.length_replicate, List.length_append, List.length_take, List.length_drop, List.length_cons, List.length_nil]; omega)) only [go_sem, reduceCtorEq, Nat.reduceEqDiff, Nat.reduceAdd, Nat.reduceMul, Nat.reduceSub, ↓Nat.reduceBEq, Nat.reduceLT, Nat.reduceLeDiff, Int.reduceLT, Int.reduceLE, Int.reduceNeg, Int.reduceToNat, g4, g5, g18, g19, g20, ha, hb2, d2, v1, e3, eB, hpl, replA_1]
              refine ⟨k + 1, ⟨by omega, g0, g8, g9, g10, rfl, by omega, ?_⟩, by omega⟩
              rw [show i + 1 + (k + 1) = i + 1 + k + 1 by omega, hs, ptC_snocN, List.length_append]
              exact growX_put _ _ _ _ _ _ _ (by omega)
          · simp only [Bool.not_eq_true] at h3
            have hs := prk_no l i (i + 1 + k) h3
            rw [h3] at v1
            generalize l.getD i box0 = b1 at *
            generalize l.getD (i + 1 + k) box0 = b2 at *
            simp (maxSteps := 4000000) (disch := first | omega | (simp only [List.length_set, List.length_replicate, List.length_append, List.length_take, List.length_drop, List.length_cons, List.length_nil]; omega)) only [go_sem, reduceCtorEq, Nat.reduceEqDiff, Nat.reduceAdd, Nat.reduceMul, Nat.reduceSub, ↓Nat.reduceBEq, Nat.reduceLT, Nat.reduceLeDiff, Int.reduceLT, Int.reduceLE, Int.reduceNeg, Int.reduceToNat, g4, g5, g18, g19, g20, ha, hb2, d2, v1]
            refine ⟨k + 1, ⟨by omega, g0, g8, g9, g10, rfl, by omega, ?_⟩, by omega⟩
            rw [show i + 1 + (k + 1) = i + 1 + k + 1 by omega, hs]
            exact growX_mono hgr (fun b hb hne => by simp only [upd_apply]; rw [if_neg (by omega), if_neg (by omega)]) (by omega)
        · obtain rfl : k = l.length - (i + 1) := by omega
          rw [show i + 1 + (l.length - (i + 1)) = l.length by omega, prk_end] at hgr
          simp (maxSteps := 4000000) (disch := first | omega | (simp only [List.length_set, List.length_replicate, List.length_append, List.length_take, List.length_drop, List.length_cons, List.length_nil]; omega)) only [go_sem, reduceCtorEq, Nat.reduceEqDiff, Nat.reduceAdd, Nat.reduceMul, Nat.reduceSub, ↓Nat.reduceBEq, Nat.reduceLT, Nat.reduceLeDiff, Int.reduceLT, Int.reduceLE, Int.reduceNeg, Int.reduceToNat, g10, g19, g20]
          exact ⟨i + 1, ⟨by omega, g0, g8, g9, rfl, growX_C hgr (fun _ _ _ => rfl) (by omega)⟩, by omega⟩
      · simp only [upd_sel, sel_true, sel_false, ↓Nat.reduceBEq]
        refine ⟨by omega, g0, g8, g9, g10, trivial, trivial, trivial, trivial, rfl, by omega, ?_, ?_⟩
        · simp (maxSteps := 4000000) (disch := first | omega | (simp only [List.length_set, List.length_replicate, List.length_append, List.length_take, List.length_drop, List.length_cons, List.length_nil]; omega)) only [go_sem, reduceCtorEq, Nat.reduceEqDiff, Nat.reduceAdd, Nat.reduceMul, Nat.reduceSub, ↓Nat.reduceBEq, Nat.reduceLT, Nat.reduceLeDiff, Int.reduceLT, Int.reduceLE, Int.reduceNeg, Int.reduceToNat]
        · rw [Nat.add_zero, prk_nil]
          exact growX_of hgr (fun b hb => by simp only [upd_apply]; rw [if_neg (by omega), if_neg (by omega)]) (by omega) (by omega)
    · obtain rfl : i = l.length := by omega
      generalize prsP l l.length l.length = out at *
      have hpl := ptC_length out
      rcases hgr with ⟨e3, ec, e0⟩ | ⟨B, hB, e3, eB⟩
      · simp (maxSteps := 4000000) (disch := first | omega | (simp only [List.length_set, List.length_replicate, List.length_append, List.length_take, List.length_drop, List.length_cons, List.length_nil]; omega)) only [go_sem, reduceCtorEq, Nat.reduceEqDiff, Nat.reduceAdd, Nat.reduceMul, Nat.reduceSub, ↓Nat.reduceBEq, Nat.reduceLT, Nat.reduceLeDiff, Int.reduceLT, Int.reduceLE, Int.reduceNeg, Int.reduceToNat, g9, g10, e3]
        rw [List.eq_nil_of_length_eq_zero e0]; rfl
      · simp (maxSteps := 4000000) (disch := first | omega | (simp only [List.length_set, List.length_replicate, List.length_append, List.length_take, List.length_drop, List.length_cons, List.length_nil]; omega)) only [go_sem, reduceCtorEq, Nat.reduceEqDiff, Nat.reduceAdd, Nat.reduceMul, Nat.reduceSub, ↓Nat.reduceBEq, Nat.reduceLT, Nat.reduceLeDiff, Int.reduceLT, Int.reduceLE, Int.reduceNeg, Int.reduceToNat, g9, g10, e3, eB, hpl, snaps_ptC, weaks_ptC]
  · simp (maxSteps := 4000000) (disch := first | omega | (simp only [List.length_set, List.length_replicate, List.length_append, List.length_take, List.length_drop, List.length_cons, List.length_nil]; omega)) only [go_sem, reduceCtorEq, Nat.reduceEqDiff, Nat.reduceAdd, Nat.reduceMul, Nat.reduceSub, ↓Nat.reduceBEq, Nat.reduceLT, Nat.reduceLeDiff, Int.reduceLT, Int.reduceLE, Int.reduceNeg, Int.reduceToNat]
    exact growC_nil _ _ _ _
end Go.Proofs.YtjccikgdebgebaaGreatDoor.Abs
end
section
set_option linter.unusedSimpArgs false
namespace Go.Proofs.YtjccikgdebgebaaGreatDoor.Abs
open Go
abbrev SortedOk [SpC] : Prop := ∀ (l : List BoxQ) (n : Nat), okB l n → 8 * n < 2 ^ 24 → l.length < 2 ^ 16 → SpC.spec 37 [.ro (boxC l) l.length false] = some (.ro (ptC (prsP l l.length l.length)) (prsP l l.length l.length).length false)
/-- What is asked of the pairs of a list of boxes. -/
theorem pairs_all [SpC] (hSo : SortedOk) {l : List BoxQ} {n : Nat} (hl : okB l n) (hn : 8 * n < 2 ^ 24) (hlen : l.length < 2 ^ 16) : ∃ q : AV,
    M X 26 [.ro (boxC l) l.length false] = some (.ro (boxC l) l.length false) ∧ M X 35 [.ro (boxC l) l.length false] = some q ∧ M X 36 [.ro (boxC l) l.length false] = some q ∧
    M X 37 [.ro (boxC l) l.length false] = some q ∧ M X 34 [q, q] = some (.bool true) ∧ (∃ cs k, q = .ro cs k false ∧ AV.weak.go cs = cs) := by
  have hll : l.length * l.length ≤ 2 ^ 16 * 2 ^ 16 := Nat.mul_le_mul (by omega) (by omega)
  have hpl := prsP_length l l.length l.length
  have hs := M_34 (prsP l l.length l.length) (prsP l l.length l.length) (by omega) (by omega)
  rw [decide_eq_true rfl] at hs
  exact ⟨_, M_26 (by omega), M_35 hl hlen hn, M_36 hl hlen hn, (M_spec X mode_37 _).trans (hSo l n hl hn hlen), hs, _, _, rfl, weaks_ptC _⟩
set_option maxRecDepth 100000 in
set_option maxHeartbeats 16000000 in
theorem M_7 [SpC] (hSo : SortedOk) (hS : SortedSays) (l : List Int) (turn : Int) (ht : ok64 turn) (hl : okI l) (hlen : l.length < 2 ^ 60) : M X 7 [isl l, .int .i64 turn] = some (.bool true) := by
  have hB := M_18 l hl hlen
  have hL := M_17 hS
  have hm := manyB_le l
  have hok := okB_boxesN l (manyB l)
  have hbn := boxesN_length l (manyB l)
  rw [show manyB l = (boxesN l (manyB l)).length from hbn.symm] at hm
  have hB' : M X 18 [isl l] = some (.ro (boxC (boxesN l (manyB l))) (boxesN l (manyB l)).length false) := by rw [hbn]; exact hB
  clear hB hbn
  generalize boxesN l (manyB l) = B at *
  have a1 := M_12 turn ((B.length + 1 : Nat) : Int) ht (by omega)
  have b1 := arnd_bd turn ((B.length + 1 : Nat) : Int) (by omega)
  generalize arnd turn ((B.length + 1 : Nat) : Int) = k0 at *
  obtain ⟨k, rfl⟩ : ∃ k : Nat, k0 = k := ⟨k0.toNat, by omega⟩
  have hbl := boxC_length B
  obtain ⟨q, p1, p2, p3, p4, p5, qc, qn, rfl, qw⟩ := pairs_all hSo hok (by omega) (by omega)
  have hY : okB (B.drop k ++ B.take k ++ B.take (min B.length 3)) 4 := by
    intro b hb
    simp only [List.mem_append] at hb
    rcases hb with (hb | hb) | hb
    · exact hok b ((List.drop_sublist _ _).subset hb)
    · exact hok b ((List.take_sublist _ _).subset hb)
    · exact hok b ((List.take_sublist _ _).subset hb)
  obtain ⟨q', p1', p2', p3', p4', p5', qc', qn', rfl, qw'⟩ := pairs_all hSo hY (by omega) (by simp; omega)
  have e1 : List.take ((B.length - k) * 16) (List.drop (k * 16) (boxC B)) = boxC (B.drop k) := by
    rw [boxC_dropD, List.take_of_length_le]
    rw [boxC_length, List.length_drop]; omega
  have takeD : ∀ (l : List BoxQ) j, List.take (j * 16) (boxC l) = boxC (l.take j) := by
    intro l
    induction l with
    | nil => intro j; simp [boxC]
    | cons b l ih =>
      intro j
      cases j with
      | zero => simp [boxC]
      | succ j => rw [show (j + 1) * 16 = j * 16 + 16 by omega]; simp [boxC, ih j]
  have e2 := takeD B k
  have e3 := takeD B (min B.length 3)
  have boxC_mg : ∀ l m : List BoxQ, boxC l ++ boxC m = boxC (l ++ m) := by
    intro l m
    induction l with
    | nil => rfl
    | cons b l ih => simp [boxC, ← ih]
  have l1 := boxC_length (B.drop k)
  have l2 := boxC_length (B.take k)
  have l3 := boxC_length (B.take (min B.length 3))
  rw [List.length_drop] at l1
  rw [List.length_take] at l2 l3
  have hyl : (B.drop k ++ B.take k ++ B.take (min B.length 3)).length = B.length - k + k + min B.length 3 := by simp; omega
  have l4 := boxC_length (B.drop k ++ B.take k ++ B.take (min B.length 3))
  rw [hyl] at p1' p2' p3' p4' l4
  have m1 : (if (3 : Int) < (B.length : Int) then 3 else (B.length : Int)) = ((min B.length 3 : Nat) : Int) := by split <;> omega
  refine M_of X (fn := Tryz.f7) Tryz.func7 rfl ok_7 mode_7 res_7 _ rfl _ ?_
  intro r hr
  rw [hr]
  by_cases h0 : B.length = 0
  · obtain rfl : B = [] := List.eq_nil_of_length_eq_zero h0
    obtain rfl : k = 0 := by simp at b1; omega
    simp only [List.drop_nil, List.take_nil, boxC, List.length_nil, List.append_nil] at *
    have a1' : M X 12 [.int .i64 turn, .int .i64 (0 + 1)] = some (.int .i64 0) := a1
    simp (maxSteps := 4000000) (disch := first | omega | (simp only [List.length_set, List.length_replicate, List.length_append, List.length_take, List.length_drop, List.length_cons, List.length_nil]; omega)) only [go_sem, reduceCtorEq, Nat.reduceEqDiff, Nat.reduceAdd, Nat.reduceMul, Nat.reduceSub, ↓Nat.reduceBEq, Nat.reduceLT, Nat.reduceLeDiff, Int.reduceLT, Int.reduceLE, Int.reduceNeg, Int.reduceToNat, hB', a1', p1, p2, p3, p4, p5, qw, hL]
  · by_cases hk0 : k = 0
    · subst hk0
      simp only [Nat.sub_zero, List.take_zero, List.drop_zero, boxC, List.append_nil, Nat.add_zero, Nat.zero_mul] at *
      rw [Int.natCast_zero] at a1
      simp (maxSteps := 4000000) (disch := first | omega | (simp only [List.length_set, List.length_replicate, List.length_append, List.length_take, List.length_drop, List.length_cons, List.length_nil]; omega)) only [go_sem, reduceCtorEq, Nat.reduceEqDiff, Nat.reduceAdd, Nat.reduceMul, Nat.reduceSub, ↓Nat.reduceBEq, Nat.reduceLT, Nat.reduceLeDiff, Int.reduceLT, Int.reduceLE, Int.reduceNeg, Int.reduceToNat, hB', a1, e1, e2, e3, hbl, l3, p1, p2, p3, p4, p5, qw, p1', p2', p3', p4', p5', qw', m1, boxC_mg, l4, weaks_boxC, snaps_boxC, hL]
    · by_cases hk1 : k = B.length
      · subst hk1
        simp only [Nat.sub_self, List.take_length, List.drop_length, List.nil_append, Nat.zero_add] at *
        simp (maxSteps := 4000000) (disch := first | omega | (simp only [List.length_set, List.length_replicate, List.length_append, List.length_take, List.length_drop, List.length_cons, List.length_nil]; omega)) only [go_sem, reduceCtorEq, Nat.reduceEqDiff, Nat.reduceAdd, Nat.reduceMul, Nat.reduceSub, ↓Nat.reduceBEq, Nat.reduceLT, Nat.reduceLeDiff, Int.reduceLT, Int.reduceLE, Int.reduceNeg, Int.reduceToNat, hB', a1, e1, e2, e3, hbl, l3, p1, p2, p3, p4, p5, qw, p1', p2', p3', p4', p5', qw', m1, boxC_mg, l4, weaks_boxC, snaps_boxC, hL]
      · have l5 := boxC_length (B.drop k ++ B.take k)
        rw [List.length_append, List.length_drop, List.length_take] at l5
        simp only [List.append_assoc] at p1' p2' p3' p4' l4
        simp (maxSteps := 4000000) (disch := first | omega | (simp only [List.length_set, List.length_replicate, List.length_append, List.length_take, List.length_drop, List.length_cons, List.length_nil]; omega)) only [go_sem, reduceCtorEq, Nat.reduceEqDiff, Nat.reduceAdd, Nat.reduceMul, Nat.reduceSub, ↓Nat.reduceBEq, Nat.reduceLT, Nat.reduceLeDiff, Int.reduceLT, Int.reduceLE, Int.reduceNeg, Int.reduceToNat, hB', a1, e1, e2, e3, hbl, l1, l2, l3, l5, p1, p2, p3, p4, p5, qw, p1', p2', p3', p4', p5', qw', m1, boxC_mg, l4, weaks_boxC, snaps_boxC, hL]
end Go.Proofs.YtjccikgdebgebaaGreatDoor.Abs
end
section
set_option linter.unusedSimpArgs false
namespace Go.Proofs.YtjccikgdebgebaaGreatDoor.Abs
open Go
def movB (x y : Rat) (b : BoxQ) : BoxQ := ⟨b.lx + x, b.ly + y, b.hx + x, b.hy + y⟩
theorem mt_mov (x y : Rat) (a b : BoxQ) : mt (movB x y a) (movB x y b) = mt a b := by
  unfold mt meetB movB; rw [decide_eq_decide]; grind
theorem mtN_mov (x y : Rat) (l : List BoxQ) (i k : Nat) (hi : i < l.length) (hk : k < l.length) : mtN (l.map (movB x y)) i k = mtN l i k := by
  unfold mtN
  simp only [List.getD_eq_getElem?_getD, List.getElem?_map, List.getElem?_eq_getElem hi, List.getElem?_eq_getElem hk, Option.map_some, Option.getD_some]
  exact mt_mov x y _ _
theorem rowP_mov (x y : Rat) (l : List BoxQ) (i : Nat) (hi : i < l.length) : ∀ m, m ≤ l.length → rowP (l.map (movB x y)) i m = rowP l i m := by
  intro m
  induction m with
  | zero => intro _; rfl
  | succ m ih =>
    intro hm
    unfold rowP
    rw [mtN_mov x y l i m hi (by omega), ih (by omega)]
theorem prsP_mov (x y : Rat) (l : List BoxQ) : ∀ m, m ≤ l.length → prsP (l.map (movB x y)) l.length m = prsP l l.length m := by
  intro m
  induction m with
  | zero => intro _; rfl
  | succ m ih =>
    intro hm
    unfold prsP
    rw [ih (by omega), rowP_mov x y l m (by omega) _ (Nat.le_refl _)]
set_option maxRecDepth 100000 in
set_option maxHeartbeats 16000000 in
theorem M_8 [SpC] (hSo : SortedOk) (hS : SortedSays) (l m : List Int) (hl : okI l) (hlen : l.length < 2 ^ 60) (hm : okI m) (hml : m.length < 2 ^ 60) : M X 8 [isl l, isl m] = some (.bool true) := by
  have hB := M_18 l hl hlen
  have hL := M_17 hS
  have hm12 := manyB_le l
  have hok := okB_boxesN l (manyB l)
  have hbn := boxesN_length l (manyB l)
  rw [show manyB l = (boxesN l (manyB l)).length from hbn.symm] at hm12
  have hB' : M X 18 [isl l] = some (.ro (boxC (boxesN l (manyB l))) (boxesN l (manyB l)).length false) := by rw [hbn]; exact hB
  clear hB hbn
  generalize boxesN l (manyB l) = B at *
  have v1 := M_11 m 0 hm (by omega)
  have r1 := rs_numQ (atN m (0 : Int).toNat 4096)
  have r2 := rs_numQ (atN m ((0 : Int).toNat + 1) 4096)
  generalize numQ (atN m (0 : Int).toNat 4096) = vx at *
  generalize numQ (atN m ((0 : Int).toNat + 1) 4096) = vy at *
  have hbl := boxC_length B
  obtain ⟨q, p1, p2, p3, p4, p5, qc, qn, hq, qw⟩ := pairs_all hSo hok (by omega) (by omega)
  have hY : okB (B.map (movB vx vy)) 6 := by
    intro b hb
    simp only [List.mem_map] at hb
    obtain ⟨a, ha, rfl⟩ := hb
    have := hok a ha
    exact ⟨(inferInstance : RS (a.lx + vx) _), (inferInstance : RS (a.ly + vy) _), (inferInstance : RS (a.hx + vx) _), (inferInstance : RS (a.hy + vy) _)⟩
  have hyl : (B.map (movB vx vy)).length = B.length := by simp
  have g1 := M_26 (l := B.map (movB vx vy)) (by omega)
  have g2 := M_35 hY (by omega) (by omega)
  have g3 := (M_spec X mode_37 _).trans (hSo _ _ hY (by omega) (by omega))
  rw [hyl, prsP_mov vx vy B _ (Nat.le_refl _)] at g2 g3
  rw [hyl] at g1
  have p2' := M_35 hok (by omega) (by omega)
  rw [p2', hq] at p2
  injection p2 with p2
  rw [p2] at g2 g3
  subst hq
  clear p2 p2' p3
  have hym := boxC_length (B.map (movB vx vy))
  rw [hyl] at hym
  have p2 : M X 35 [.ro (boxC B) B.length false] = some (.ro qc qn false) := by
    obtain ⟨q', _, k2, _, k4, _⟩ := pairs_all hSo hok (by omega) (by omega)
    rw [k2, ← k4, p4]
  refine M_of X (fn := Tryz.f8) Tryz.func8 rfl ok_8 mode_8 res_8 _ rfl _ ?_
  intro r hr
  rw [hr]
  simp (maxSteps := 4000000) (disch := first | omega | (simp only [List.length_set, List.length_replicate, List.length_append, List.length_take, List.length_drop, List.length_cons, List.length_nil]; omega)) only [go_sem, reduceCtorEq, Nat.reduceEqDiff, Nat.reduceAdd, Nat.reduceMul, Nat.reduceSub, ↓Nat.reduceBEq, Nat.reduceLT, Nat.reduceLeDiff, Int.reduceLT, Int.reduceLE, Int.reduceNeg, Int.reduceToNat, hB', v1]
  refine W_loop X (fun (i : Nat) s => i ≤ B.length ∧ s.env 5 = .ro (boxC B) B.length false ∧ s.env 6 = .ptr 48 0 ∧ s.env 8 = .int .i64 i ∧ s.heap 48 = some (.cells [zS (Rat.num (vx)), zD (Rat.num (vx)), zS (dz (vx)), zD (dz (vx)), zS (Rat.num (vy)), zD (Rat.num (vy)), zS (dz (vy)), zD (dz (vy))] false false) ∧ 64 ≤ s.next ∧ GrowC 60 s.heap s.next (s.env 7) (boxC ((B.take i).map (movB vx vy))) i 16) (fun i => B.length - i) ?_ 0 _ ?_
  · rintro i ⟨env, heap, nx⟩ ⟨hi, g5, g6, g8, h48, hnx, hgr⟩
    simp only at g5 g6 g8 h48 hnx hgr
    by_cases h1 : i < B.length
    · have rb := hok _ (getD_mem B i h1)
      have d1 := boxC_drop B i h1
      have hge : B.getD i box0 = B[i] := by simp [List.getD_eq_getElem?_getD, List.getElem?_eq_getElem h1]
      have hs : boxC ((B.take (i + 1)).map (movB vx vy)) = boxC ((B.take i).map (movB vx vy)) ++ [zS (Rat.num ((B.getD i box0).lx + vx)), zD (Rat.num ((B.getD i box0).lx + vx)), zS (dz ((B.getD i box0).lx + vx)), zD (dz ((B.getD i box0).lx + vx)), zS (Rat.num ((B.getD i box0).ly + vy)), zD (Rat.num ((B.getD i box0).ly + vy)), zS (dz ((B.getD i box0).ly + vy)), zD (dz ((B.getD i box0).ly + vy)), zS (Rat.num ((B.getD i box0).hx + vx)), zD (Rat.num ((B.getD i box0).hx + vx)), zS (dz ((B.getD i box0).hx + vx)), zD (dz ((B.getD i box0).hx + vx)), zS (Rat.num ((B.getD i box0).hy + vy)), zD (Rat.num ((B.getD i box0).hy + vy)), zS (dz ((B.getD i box0).hy + vy)), zD (dz ((B.getD i box0).hy + vy))] := by
        rw [boxC_snoc, List.take_succ_eq_append_getElem h1, List.map_append, hge]; rfl
      generalize boxC (B.drop (i + 1)) = t1 at *
      generalize B.getD i box0 = b at *
      have a1 := M_30 (x := b.lx) (y := vx) (by omega)
      have a2 := M_30 (x := b.ly) (y := vy) (by omega)
      have a3 := M_30 (x := b.hx) (y := vx) (by omega)
      have a4 := M_30 (x := b.hy) (y := vy) (by omega)
      have hcl := boxC_length ((B.take i).map (movB vx vy))
      rw [List.length_map, List.length_take, Nat.min_eq_left (by omega)] at hcl
      rcases hgr with ⟨e3, ec, e0⟩ | ⟨C, hC, e3, eB⟩
      · rw [ec] at hs
        subst e0
        simp only [Nat.zero_mul, List.drop_zero] at d1
        simp (maxSteps := 4000000) (disch := first | omega | (simp only [List.length_set, List.length_replicate, List.length_append, List.length_take, List.length_drop, List.length_cons, List.length_nil]; omega)) only [go_sem, reduceCtorEq, Nat.reduceEqDiff, Nat.reduceAdd, Nat.reduceMul, Nat.reduceSub, ↓Nat.reduceBEq, Nat.reduceLT, Nat.reduceLeDiff, Int.reduceLT, Int.reduceLE, Int.reduceNeg, Int.reduceToNat, g5, g6, g8, h48, hbl, d1, a1, a2, a3, a4, e3, replA_1]
        refine ⟨1, ⟨by omega, rfl, ?_⟩, by omega⟩
        rw [hs]
        exact growC_put _ _ _ _ _ _ _ (by omega)
      · simp (maxSteps := 4000000) (disch := first | omega | (simp only [List.length_set, List.length_replicate, List.length_append, List.length_take, List.length_drop, List.length_cons, List.length_nil]; omega)) only [go_sem, reduceCtorEq, Nat.reduceEqDiff, Nat.reduceAdd, Nat.reduceMul, Nat.reduceSub, ↓Nat.reduceBEq, Nat.reduceLT, Nat.reduceLeDiff, Int.reduceLT, Int.reduceLE, Int.reduceNeg, Int.reduceToNat, g5, g6, g8, h48, hbl, d1, a1, a2, a3, a4, e3, eB, hcl, replA_1]
        refine ⟨i + 1, ⟨by omega, rfl, ?_⟩, by omega⟩
        rw [hs]
        exact growC_put _ _ _ _ _ _ _ (by omega)
    · obtain rfl : i = B.length := by omega
      rw [List.take_length] at hgr
      rcases hgr with ⟨e3, ec, e0⟩ | ⟨C, hC, e3, eB⟩
      · rw [ec, e0] at g1 g2 g3
        simp (maxSteps := 4000000) (disch := first | omega | (simp only [List.length_set, List.length_replicate, List.length_append, List.length_take, List.length_drop, List.length_cons, List.length_nil]; omega)) only [go_sem, reduceCtorEq, Nat.reduceEqDiff, Nat.reduceAdd, Nat.reduceMul, Nat.reduceSub, ↓Nat.reduceBEq, Nat.reduceLT, Nat.reduceLeDiff, Int.reduceLT, Int.reduceLE, Int.reduceNeg, Int.reduceToNat, g5, g8, e3, p1, p2, p4, p5, qw, g1, g2, g3, weaks_boxC, hL]
      · simp (maxSteps := 4000000) (disch := first | omega | (simp only [List.length_set, List.length_replicate, List.length_append, List.length_take, List.length_drop, List.length_cons, List.length_nil]; omega)) only [go_sem, reduceCtorEq, Nat.reduceEqDiff, Nat.reduceAdd, Nat.reduceMul, Nat.reduceSub, ↓Nat.reduceBEq, Nat.reduceLT, Nat.reduceLeDiff, Int.reduceLT, Int.reduceLE, Int.reduceNeg, Int.reduceToNat, g5, g8, e3, eB, hym, p1, p2, p4, p5, qw, g1, g2, g3, weaks_boxC, snaps_boxC, hL]
  · simp (maxSteps := 4000000) (disch := first | omega | (simp only [List.length_set, List.length_replicate, List.length_append, List.length_take, List.length_drop, List.length_cons, List.length_nil]; omega)) only [go_sem, reduceCtorEq, Nat.reduceEqDiff, Nat.reduceAdd, Nat.reduceMul, Nat.reduceSub, ↓Nat.reduceBEq, Nat.reduceLT, Nat.reduceLeDiff, Int.reduceLT, Int.reduceLE, Int.reduceNeg, Int.reduceToNat]
    exact growC_nil _ _ _ _
end Go.Proofs.YtjccikgdebgebaaGreatDoor.Abs
end
