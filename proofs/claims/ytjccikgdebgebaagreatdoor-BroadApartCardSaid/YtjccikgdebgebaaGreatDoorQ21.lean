/-
  broad.Sorted: whatever the order of a range over its map. No conditions. What the interpreter is told of broad.Sorted, and that it is so. No conditions.
-/
import Derived.Test.YtjccikgdebgebaaGreatDoorQ10
import Derived.Test.YtjccikgdebgebaaGreatDoorQ13
import Derived.Test.YtjccikgdebgebaaGreatDoorQ20
set_option linter.unusedSimpArgs false
set_option linter.unusedVariables false
section
set_option linter.unusedSimpArgs false
namespace Go.Proofs.YtjccikgdebgebaaGreatDoor.Abs
open Go
attribute [go_sem] nwQ_normal nwQ_ret nwQ_exit nsQ_normal nsQ_ret nsQ_exit nbQ_normal nbQ_ret nbQ_exit nlQ_normal nlQ_ret nlQ_exit
/-- The numbers below n, as far as they are laid. -/
def ordL (n i : Nat) : List Int := (List.range n).map fun k => if k < i then (k : Int) else 0
theorem ordL_length (n i : Nat) : (ordL n i).length = n := by simp [ordL]
theorem ordL_zero (n : Nat) : ordL n 0 = List.replicate n 0 := by
  apply List.ext_getElem (by simp [ordL])
  intro i h1 h2
  simp [ordL]
theorem ordL_set (n i : Nat) (h : i < n) : (ordL n i).set i (i : Int) = ordL n (i + 1) := by
  apply List.ext_getElem (by simp [ordL])
  intro k h1 h2
  simp only [ordL, List.getElem_set, List.getElem_map, List.getElem_range]
  by_cases hk : i = k
  · subst hk; simp
  · rw [if_neg hk]
    by_cases h3 : k < i
    · rw [if_pos h3, if_pos (by omega)]
    · rw [if_neg h3, if_neg (by omega)]
set_option maxRecDepth 100000 in
open Go.Shelf Go.RowKit Go.Lib Go.Sort in
theorem NO_sort_fin [SpC] (hsp : SpecSound X) {ops : Array Oper} {nt b0 i : Nat} {l0 : List Nat} {dst : Option Tmp} {ats : Array TypeId} {ty : TypeId} {pos : String} {af : Array Edge} {ts tf : Nat} (ho : ops[i]? = some ⟨dst, .call ⟨.value (.func 69), #[.tmp ts, .tmp tf], ats⟩, ty, pos, af, none⟩) (hdt : ∀ t, dst = some t → t < nt)
    {st : St} {x : XH} {Φ : St → XH → Prop} {l : List BoxQ} {n : Nat} (hl : okB l n) (hlen : l.length < 2 ^ 20) (hn : 2 * n < 2 ^ 24) {O P : Nat} (hOP : O ≠ P) (hs : st.env ts = .sl O 0 l.length (some l.length) 1) (hf : st.env tf = .func (.func 70) [] [.ptr P 0])
    (h0 : st.heap P = some (.cells [.ro (boxC l) l.length false] false false)) (hO : st.heap O = some (.cells (ints (ordL l.length l.length)) false false))
    (h : ∀ ord : List Nat, ord.Perm (List.range l.length) → ord.Pairwise (fun a b => ¬ lxN l b < lxN l a) → NO X nt ops b0 l0 { st with env := putEnv st.env dst (.tuple []), heap := upd st.heap O (some (.cells (ints (ord.map fun k : Nat => (k : Int))) false false)) } x Φ) :
    NO X nt ops b0 (i :: l0) st x Φ := by
  by_cases hz : l.length = 0
  · refine NO_sort0 ho Tryz.sortInt0 rfl rfl rfl hdt (s := .sl O 0 0 (some 0) 1) (f := .func (.func 70) [] [.ptr P 0]) (by simp only [evalsA_cons, evalsA_nil, evalA_tmp, hs, hf, nx_some, mp_some, hz]) (.inl ⟨_, _, _, _, rfl⟩) ⟨_, Tryz.func69, ok_69⟩ ?_
    have h1 := h [] (by simp [hz]) (by simp)
    have h2 : upd st.heap O (some (.cells (ints (([] : List Nat).map fun k : Nat => (k : Int))) false false)) = st.heap := by
      funext b
      by_cases hb : b = O
      · subst hb; rw [upd_eq, hO, hz]; rfl
      · rw [upd_ne _ _ hb]
    rw [h2] at h1
    exact h1
  · haveI : Inhabited (Fin l.length) := ⟨⟨0, by omega⟩⟩
    obtain ⟨d, hdl⟩ : ∃ d : Array (Fin l.length), d.toList = List.finRange l.length := ⟨(List.finRange l.length).toArray, rfl⟩
    have hds : d.size = l.length := by rw [← Array.length_toList, hdl]; simp
    have hdm : (d.toList.map fun k => ((k.val : Nat) : Int)) = ordL l.length l.length := by
      rw [hdl]
      apply List.ext_getElem (by simp [ordL])
      intro i h1 h2
      simp only [ordL, List.getElem_map, List.getElem_finRange, List.getElem_range]
      rw [if_pos (by simpa using h1)]
      rfl
    have hlt : ∀ x y : Fin l.length, ltOf (fun x y : Fin l.length => cmpQ (l.getD ((x.val : Nat) : Int).toNat box0).lx (l.getD ((y.val : Nat) : Int).toNat box0).lx) x y = decide (lxN l x.val < lxN l y.val) := by
      intro x y
      unfold ltOf
      rw [decide_eq_decide, cmpQ_neg]
      simp only [Int.toNat_natCast, lxN]
    have hswo : SWO (ltOf (fun x y : Fin l.length => cmpQ (l.getD ((x.val : Nat) : Int).toNat box0).lx (l.getD ((y.val : Nat) : Int).toNat box0).lx)) := by
      refine ⟨fun x => ?_, fun x y z h1 h2 => ?_, fun x y z h1 h2 => ?_⟩
      · rw [hlt]; simp
      · rw [hlt] at *; simp only [decide_eq_true_eq] at *; grind
      · rw [hlt] at *; simp only [decide_eq_false_iff_not] at *; grind
    have hw : weaks [AV.rptr [.ro (boxC l) l.length false]] = [.rptr [.ro (boxC l) l.length false]] := by
      simp [AV.weak.go, AV.weak, weaks_boxC]
    refine NO_sort ho rfl rfl hdt (O := O) (n := l.length) (sz := 1) (cap := some l.length) (G := 70) (caps := [.ptr P 0]) (xs := [.rptr [.ro (boxC l) l.length false]]) (ids := [P]) (by simp only [evalsA_cons, evalsA_nil, evalA_tmp, hs, hf, nx_some, mp_some]) hO ⟨_, Tryz.func69, ok_69⟩
      (by simp only [depthA, snaps_cons, snaps_nil, snap_ptr, h0, snapP_some, List.drop_zero, snap_ro, nx_some, mp_some, List.append_nil]) (by simpa using hOP)
      (γ := Array (Fin l.length)) (fun y => PermIn 0 d.size d y ∧ SortedIn (ltOf (fun x y : Fin l.length => cmpQ (l.getD ((x.val : Nat) : Int).toNat box0).lx (l.getD ((y.val : Nat) : Int).toNat box0).lx)) 0 d.size y)
      (fun y => y.toList.map fun k => .int .i64 ((k.val : Nat) : Int)) (fun y => ints (y.toList.map fun k => ((k.val : Nat) : Int))) ?_ ?_ ?_ ?_
    · rintro y ⟨⟨h1, _⟩, _⟩
      simp [ints_length, ordL_length, h1, hds]
    · rintro y _ i v a hv ha
      simp only [ints, List.map_map, List.getElem?_map, Option.map_eq_some_iff] at hv ha
      obtain ⟨k, hk, rfl⟩ := hv
      obtain ⟨k', hk', rfl⟩ := ha
      rw [hk] at hk'; cases hk'
      exact ⟨fun _ _ _ => .int _ _ _, rfl⟩
    · intro base w W W1 μ hh B off c cb arr e harr hle hcells hb hW1 hsub hsim hargs
      have hS := sort_ints mixed hsp Tryz.sortInt (fun k : Fin l.length => ((k.val : Nat) : Int)) _ hswo (F := 69) (G := 70) rfl ⟨_, Tryz.func70, ok_70⟩ (d := d) (xs := [.rptr [.ro (boxC l) l.length false]]) (by omega) (fun x y => by
        rw [hw]
        exact M_70 hl (by omega) hn _ _ ⟨by omega, by have := x.isLt; omega⟩ ⟨by omega, by have := y.isLt; omega⟩) base w W W1 μ hh B off c cb arr e harr (by rw [hdm]; exact hle) (by rw [hdm]; exact hcells) hb hW1 hsub hsim hargs
      rw [hds] at hS ⊢
      exact hS
    · rintro y ⟨⟨h1, _, h3⟩, h4⟩
      have hy : y.size = l.length := by rw [h1, hds]
      have hp : (y.toList.map (·.val)).Perm (List.range l.length) := by
        have h3' : (List.take d.size y.toList).Perm d.toList := by simpa using h3
        rw [List.take_of_length_le (by simp [h1])] at h3'
        have h6 := h3'.map (fun k : Fin l.length => k.val)
        rw [hdl] at h6
        have h7 : (List.finRange l.length).map (fun k : Fin l.length => k.val) = List.range l.length := by
          apply List.ext_getElem (by simp)
          intro i h1 h2
          simp
        rw [h7] at h6
        exact h6
      have h8 := h (y.toList.map (·.val)) hp (by
        rw [List.pairwise_iff_getElem]
        intro i j hi hj hij
        simp only [List.length_map, Array.length_toList] at hi hj
        have h9 := h4 i j (by omega) hij (by omega)
        rw [getElem!_pos y j hj, getElem!_pos y i hi, hlt, decide_eq_false_iff_not] at h9
        simpa using h9)
      rw [List.map_map] at h8
      exact h8
theorem prC_eq (l : List Pt) : prC l = ptC l := by
  induction l with
  | nil => rfl
  | cons p l ih => simp only [prC, ptC, ih]
theorem lexlt_nodup {m : List Pt} (h : m.Pairwise lexlt) : m.Nodup := h.imp fun {a b} hab e => by subst e; exact lexlt_irrefl _ hab
set_option maxRecDepth 100000 in
open Go.Shelf Go.RowKit Go.Lib Go.Sort in
theorem NO_sort_prs [SpC] (hsp : SpecSound X) {ops : Array Oper} {nt b0 i : Nat} {l0 : List Nat} {dst : Option Tmp} {ats : Array TypeId} {ty : TypeId} {pos : String} {af : Array Edge} {ts : Nat} (ho : ops[i]? = some ⟨dst, .call ⟨.value (.func 71), #[.tmp ts, .func 72], ats⟩, ty, pos, af, none⟩) (hdt : ∀ t, dst = some t → t < nt)
    {st : St} {x : XH} {Φ : St → XH → Prop} {lo nx : Nat} {out m : List Pt} (hg : GrowC lo st.heap nx (st.env ts) (ptC out) out.length 2) (hlen : out.length < 2 ^ 40) (hn : out.Nodup) (hm : m.Pairwise lexlt) (hmem : ∀ p, p ∈ out ↔ p ∈ m)
    (h : ∀ heap', GrowC lo heap' nx (st.env ts) (ptC m) m.length 2 → NO X nt ops b0 l0 { st with env := putEnv st.env dst (.tuple []), heap := heap' } x Φ) :
    NO X nt ops b0 (i :: l0) st x Φ := by
  have hme := merge_eq out m hn hm hmem
  have hml : m.length = out.length := by rw [← hme, List.length_mergeSort]
  rcases hg with ⟨e3, ec, e0⟩ | ⟨B, hB, e3, eB⟩
  · obtain rfl : m = [] := List.eq_nil_of_length_eq_zero (by omega)
    refine NO_sort0 ho Tryz.sortPair rfl rfl rfl hdt (s := .ro [] 0 true) (f := .func (.func 72) [] []) (by simp only [evalsA_cons, evalsA_nil, evalA_tmp, evalA_func, e3, nx_some, mp_some]) (.inr ⟨_, rfl⟩) ⟨_, Tryz.func71, ok_71⟩ ?_
    exact h st.heap (.inl ⟨e3, rfl, rfl⟩)
  · have hlt : ∀ x y : Pt, ltOf cfP x y = decide (cfP x y < 0) := fun _ _ => rfl
    have hswo : SWO (ltOf cfP) := by
      refine ⟨fun x => ?_, fun x y z h1 h2 => ?_, fun x y z h1 h2 => ?_⟩
      · rw [hlt, decide_eq_false_iff_not, cfP_neg]; exact lexlt_irrefl x
      · rw [hlt] at *; simp only [decide_eq_true_eq, cfP_neg] at *; exact lexlt_trans h1 h2
      · rw [hlt] at *; simp only [decide_eq_false_iff_not, cfP_neg] at *; unfold lexlt at *; omega
    refine NO_sort ho rfl rfl hdt (O := B) (n := out.length) (sz := 2) (cap := none) (G := 72) (caps := []) (xs := []) (ids := []) (by simp only [evalsA_cons, evalsA_nil, evalA_tmp, evalA_func, e3, nx_some, mp_some]) eB ⟨_, Tryz.func71, ok_71⟩
      (by simp only [snaps_nil]) (by simp) (γ := Unit) (fun _ => True) (fun _ => (flatK encP 2 m.toArray).toList.map id) (fun _ => ptC m) ?_ ?_ ?_ ?_
    · intro _ _
      simp only [ptC_length, List.length_map, Array.length_toList, size_flatK, List.size_toArray, hml]
      exact ⟨trivial, by omega⟩
    · intro _ _ i v a hv ha
      have hi : i < 2 * m.length := by rw [← ptC_length]; exact (List.getElem?_eq_some_iff.1 ha).1
      have hf := flatP_get m.toArray i (by simpa using hi)
      rw [← prC_eq] at ha
      simp only [List.map_id, Array.getElem?_toList] at hv
      rw [hv, ha] at hf
      rw [prC_get] at ha
      obtain ⟨p, hp, rfl⟩ := Option.map_eq_some_iff.1 ha
      simp only [Option.map_some, Option.some.injEq] at hf
      subst hf
      exact ⟨fun _ _ _ => .int _ _ _, rfl⟩
    · intro base w W W1 μ hh B' off c cb arr e harr hle hcells hb hW1 hsub hsim hargs
      have hS := sort_pairs mixed hsp Tryz.sortPair Tryz.isAgg87 Tryz.sizeOf87 cfP hswo (fun x y h1 h2 => by
        rw [hlt] at *; simp only [decide_eq_false_iff_not, cfP_neg] at *; exact lexlt_total h1 h2) (F := 71) (G := 72) rfl ⟨_, Tryz.func72, ok_72⟩ (d := out.toArray) (xs := []) (by simpa using hlen) (fun x y => M_72 x.1 x.2 y.1 y.2)
        base w W W1 μ hh B' off c cb arr e harr (by rw [prC_eq]; exact hle) (by rw [prC_eq]; exact hcells) hb hW1 hsub hsim hargs
      rw [List.size_toArray] at hS
      refine hS.mono ?_
      rintro en w' ⟨he, ho⟩
      refine ⟨he, (), trivial, ?_⟩
      have : (out.mergeSort fun x y => !(ltOf cfP) y x) = m := hme
      rw [show out.toArray.toList = out from rfl, this] at ho
      exact ho
    · intro _ _
      exact h _ (.inr ⟨B, hB, by rw [hml]; exact e3, upd_eq _ _ _⟩)
set_option maxRecDepth 100000 in
set_option maxHeartbeats 8000000 in
theorem spec_Sorted [SpC] (hsp : SpecSound X) {l : List BoxQ} {n : Nat} (hl : okB l n) (hlen : l.length < 2 ^ 16) (hn : 8 * n < 2 ^ 24) :
    SpecAt X 37 [.ro (boxC l) l.length false] (.ro (ptC (prsP l l.length l.length)) (prsP l l.length l.length).length false) := by
  have hbl := boxC_length l
  refine spec_of (X := X) (fn := Tryz.f37) Tryz.func37 rfl ok_37 [.ro (boxC l) l.length false] rfl (.ro (ptC (prsP l l.length l.length)) (prsP l l.length l.length).length false) ?_
  show @NH X 82 ⟨_⟩ _ _ _
  refine NH_seqD mixed hsp (by kernel_rfl) ?_
  simp (maxSteps := 4000000) (disch := first | omega | (simp only [List.length_set, List.length_replicate, List.length_append, List.length_take, List.length_drop, List.length_cons, List.length_nil]; omega)) only [go_sem, reduceCtorEq, Nat.reduceEqDiff, Nat.reduceAdd, Nat.reduceMul, Nat.reduceSub, ↓Nat.reduceBEq, Nat.reduceLT, Nat.reduceLeDiff, Int.reduceLT, Int.reduceLE, Int.reduceNeg, Int.reduceToNat]
  refine NH_seqD mixed hsp (by kernel_rfl) ?_
  simp (maxSteps := 4000000) (disch := first | omega | (simp only [List.length_set, List.length_replicate, List.length_append, List.length_take, List.length_drop, List.length_cons, List.length_nil]; omega)) only [go_sem, reduceCtorEq, Nat.reduceEqDiff, Nat.reduceAdd, Nat.reduceMul, Nat.reduceSub, ↓Nat.reduceBEq, Nat.reduceLT, Nat.reduceLeDiff, Int.reduceLT, Int.reduceLE, Int.reduceNeg, Int.reduceToNat, hbl]
  refine NH_seqD mixed hsp (by kernel_rfl) ?_
  simp (maxSteps := 4000000) (disch := first | omega | (simp only [List.length_set, List.length_replicate, List.length_append, List.length_take, List.length_drop, List.length_cons, List.length_nil]; omega)) only [go_sem, reduceCtorEq, Nat.reduceEqDiff, Nat.reduceAdd, Nat.reduceMul, Nat.reduceSub, ↓Nat.reduceBEq, Nat.reduceLT, Nat.reduceLeDiff, Int.reduceLT, Int.reduceLE, Int.reduceNeg, Int.reduceToNat, hbl]
  refine W_loop X (fun (i : Nat) s => i ≤ l.length ∧ s.env 1 = .ptr 0 0 ∧ s.env 3 = .sl 32 0 l.length (some l.length) 1 ∧ s.env 14 = .int .i64 l.length ∧ s.env 15 = .int .i64 i ∧ s.heap 0 = some (.cells [.ro (boxC l) l.length false] false false) ∧ s.heap 32 = some (.cells (ints (ordL l.length i)) false false) ∧ 48 ≤ s.next) (fun i => l.length - i) ?_ 0 _ ?_
  · rintro i ⟨env, heap, nx⟩ ⟨hi, g1, g3, g14, g15, h0, h32, hnx⟩
    simp only at g1 g3 g14 g15 h0 h32 hnx
    by_cases h1 : i < l.length
    · simp (maxSteps := 4000000) (disch := first | omega | (simp only [List.length_set, List.length_replicate, List.length_append, List.length_take, List.length_drop, List.length_cons, List.length_nil]; omega)) only [go_sem, reduceCtorEq, Nat.reduceEqDiff, Nat.reduceAdd, Nat.reduceMul, Nat.reduceSub, ↓Nat.reduceBEq, Nat.reduceLT, Nat.reduceLeDiff, Int.reduceLT, Int.reduceLE, Int.reduceNeg, Int.reduceToNat, g1, g3, g14, g15, h0, h32, ordL_length, ints_splice]
      refine ⟨i + 1, ?_, by omega⟩
      rw [ints_splice _ _ _ (by rw [ordL_length]; exact h1), ordL_set _ _ h1]
      exact ⟨by omega, rfl, rfl⟩
    · obtain rfl : i = l.length := by omega
      simp (maxSteps := 4000000) (disch := first | omega | (simp only [List.length_set, List.length_replicate, List.length_append, List.length_take, List.length_drop, List.length_cons, List.length_nil]; omega)) only [go_sem, reduceCtorEq, Nat.reduceEqDiff, Nat.reduceAdd, Nat.reduceMul, Nat.reduceSub, ↓Nat.reduceBEq, Nat.reduceLT, Nat.reduceLeDiff, Int.reduceLT, Int.reduceLE, Int.reduceNeg, Int.reduceToNat, g1, g3, g14, g15, h0, h32, ordL_length]
      refine NH_seq ?_
      refine NH_region ?_
      refine NO_step mixed hsp rfl (by decide) (by rintro t ⟨⟩; decide) ?_
      simp (maxSteps := 4000000) (disch := first | omega | (simp only [List.length_set, List.length_replicate, List.length_append, List.length_take, List.length_drop, List.length_cons, List.length_nil]; omega)) only [go_sem, reduceCtorEq, Nat.reduceEqDiff, Nat.reduceAdd, Nat.reduceMul, Nat.reduceSub, ↓Nat.reduceBEq, Nat.reduceLT, Nat.reduceLeDiff, Int.reduceLT, Int.reduceLE, Int.reduceNeg, Int.reduceToNat, g1, g3, g14, g15, h0, h32, ordL_length]
      refine NO_step mixed hsp rfl (by decide) (by rintro t ⟨⟩; decide) ?_
      simp (maxSteps := 4000000) (disch := first | omega | (simp only [List.length_set, List.length_replicate, List.length_append, List.length_take, List.length_drop, List.length_cons, List.length_nil]; omega)) only [go_sem, reduceCtorEq, Nat.reduceEqDiff, Nat.reduceAdd, Nat.reduceMul, Nat.reduceSub, ↓Nat.reduceBEq, Nat.reduceLT, Nat.reduceLeDiff, Int.reduceLT, Int.reduceLE, Int.reduceNeg, Int.reduceToNat, g1, g3, g14, g15, h0, h32, ordL_length]
      refine NO_sort_fin hsp rfl (by rintro t ⟨⟩; decide) hl (by omega) (by omega) (O := 32) (P := 0) (by decide) rfl rfl h0 h32 fun ord hperm hsorted => NO_nil ?_
      have hol : ord.length = l.length := by rw [hperm.length_eq, List.length_range]
      refine NH_seq ?_
      refine NH_region ?_
      refine NO_makeMap (t := 26) (ty := 98) rfl rfl rfl rfl (by decide) fun bm hbm => ?_
      refine NO_step mixed hsp rfl (by decide) (by rintro t ⟨⟩; decide) ?_
      simp (maxSteps := 4000000) (disch := first | omega | (simp only [List.length_set, List.length_replicate, List.length_append, List.length_take, List.length_drop, List.length_cons, List.length_nil]; omega)) only [go_sem, reduceCtorEq, Nat.reduceEqDiff, Nat.reduceAdd, Nat.reduceMul, Nat.reduceSub, ↓Nat.reduceBEq, Nat.reduceLT, Nat.reduceLeDiff, Int.reduceLT, Int.reduceLE, Int.reduceNeg, Int.reduceToNat]
      refine NO_nil ?_
      refine NH_seqD mixed hsp (by kernel_rfl) ?_
      simp (maxSteps := 4000000) (disch := first | omega | (simp only [List.length_set, List.length_replicate, List.length_append, List.length_take, List.length_drop, List.length_cons, List.length_nil]; omega)) only [go_sem, reduceCtorEq, Nat.reduceEqDiff, Nat.reduceAdd, Nat.reduceMul, Nat.reduceSub, ↓Nat.reduceBEq, Nat.reduceLT, Nat.reduceLeDiff, Int.reduceLT, Int.reduceLE, Int.reduceNeg, Int.reduceToNat]
      refine NH_seq ?_
      refine NH_seqD mixed hsp (by kernel_rfl) ?_
      simp (maxSteps := 4000000) (disch := first | omega | (simp only [List.length_set, List.length_replicate, List.length_append, List.length_take, List.length_drop, List.length_cons, List.length_nil]; omega)) only [go_sem, reduceCtorEq, Nat.reduceEqDiff, Nat.reduceAdd, Nat.reduceMul, Nat.reduceSub, ↓Nat.reduceBEq, Nat.reduceLT, Nat.reduceLeDiff, Int.reduceLT, Int.reduceLE, Int.reduceNeg, Int.reduceToNat, g3]
      refine NH_block ?_
      refine NH_loop (fun (t : Nat) s x => ∃ ks clock out, t ≤ l.length ∧ s.env 1 = .ptr 0 0 ∧ s.env 5 = .ext (.map (some bm)) ∧ s.env 27 = .sl 32 0 l.length (some l.length) 1 ∧ s.env 28 = .int .i64 l.length ∧ s.env 29 = .int .i64 t ∧
        s.heap 0 = some (.cells [.ro (boxC l) l.length false] false false) ∧ s.heap 32 = some (.cells (ints (ord.map fun k : Nat => (k : Int))) false false) ∧ 48 ≤ s.next ∧ GrowC 40 s.heap s.next (s.env 6) (ptC out) out.length 2 ∧
        x bm = some (.map (mEs ks) clock) ∧ Inv l (ord.take t) (ord.drop t) ks clock out) (fun t => l.length - t) ?_ 0 _ _ ?_
      · rintro t ⟨env, heap, nx⟩ x ⟨ks, clock, out, ht, g1, g5, g27, g28, g29, h0, h32, hnx, hgr, hx, hinv⟩
        simp only at g1 g5 g27 g28 g29 h0 h32 hnx hgr
        refine NH_seqD mixed hsp (by kernel_rfl) ?_
        by_cases ht1 : t < l.length
        · simp (maxSteps := 4000000) (disch := first | omega | (simp only [List.length_set, List.length_replicate, List.length_append, List.length_take, List.length_drop, List.length_cons, List.length_nil]; omega)) only [go_sem, reduceCtorEq, Nat.reduceEqDiff, Nat.reduceAdd, Nat.reduceMul, Nat.reduceSub, ↓Nat.reduceBEq, Nat.reduceLT, Nat.reduceLeDiff, Int.reduceLT, Int.reduceLE, Int.reduceNeg, Int.reduceToNat, g28, g29]
          refine NH_seqD mixed hsp (by kernel_rfl) ?_
          simp (maxSteps := 4000000) (disch := first | omega | (simp only [List.length_set, List.length_replicate, List.length_append, List.length_take, List.length_drop, List.length_cons, List.length_nil]; omega)) only [go_sem, reduceCtorEq, Nat.reduceEqDiff, Nat.reduceAdd, Nat.reduceMul, Nat.reduceSub, ↓Nat.reduceBEq, Nat.reduceLT, Nat.reduceLeDiff, Int.reduceLT, Int.reduceLE, Int.reduceNeg, Int.reduceToNat]
          refine NH_seq ?_
          refine NH_block ?_
          refine NH_seqD mixed hsp (by kernel_rfl) ?_
          have hdt : ord.drop t = ord[t] :: ord.drop (t + 1) := List.drop_eq_getElem_cons (by omega)
          have htk : ord.take (t + 1) = ord.take t ++ [ord[t]] := by rw [List.take_succ_eq_append_getElem]
          have hge : (ord.map fun k : Nat => (k : Int)).getD t 0 = ((ord[t] : Nat) : Int) := by simp [List.getD_eq_getElem?_getD, List.getElem?_eq_getElem (show t < ord.length by omega)]
          have hml : (ord.map fun k : Nat => (k : Int)).length = l.length := by simp [hol]
          have hnd : ord.Nodup := hperm.nodup_iff.2 List.nodup_range
          have hmem : ∀ k ∈ ord, k < l.length := fun k hk => by simpa using hperm.mem_iff.1 hk
          have hm0 : ord[t] < l.length := hmem _ (List.getElem_mem _)
          have hnot : ord[t] ∉ ord.take t := by
            intro hc
            rw [← List.take_append_drop t ord, hdt] at hnd
            exact (List.nodup_append.1 hnd).2.2 _ hc _ List.mem_cons_self rfl
          have hsort : ∀ m ∈ ord.drop (t + 1), ¬ lxN l m < lxN l ord[t] := by
            intro m hm
            rw [← List.take_append_drop t ord, hdt] at hsorted
            exact (List.pairwise_cons.1 (List.pairwise_append.1 hsorted).2.1).1 m hm
          have htd : ∀ k ∈ ord.take t, k < l.length := fun k hk => hmem k ((List.take_sublist t ord).subset hk)
          rw [hdt] at hinv
          simp (maxSteps := 4000000) (disch := first | omega | (simp only [List.length_set, List.length_replicate, List.length_append, List.length_take, List.length_drop, List.length_cons, List.length_nil]; omega)) only [go_sem, reduceCtorEq, Nat.reduceEqDiff, Nat.reduceAdd, Nat.reduceMul, Nat.reduceSub, ↓Nat.reduceBEq, Nat.reduceLT, Nat.reduceLeDiff, Int.reduceLT, Int.reduceLE, Int.reduceNeg, Int.reduceToNat, g27, g29, h32, hml, hge]
          clear hsorted hnd
          generalize hn0 : ord[t] = n0 at *
          generalize hre : ord.drop (t + 1) = rest at *
          generalize hdo : ord.take t = done at *
          refine NH_seq ?_
          refine NH_seq ?_
          refine NH_region ?_
          refine NO_step mixed hsp rfl (by decide) (by rintro t ⟨⟩; decide) ?_
          simp (maxSteps := 4000000) (disch := first | omega | (simp only [List.length_set, List.length_replicate, List.length_append, List.length_take, List.length_drop, List.length_cons, List.length_nil]; omega)) only [go_sem, reduceCtorEq, Nat.reduceEqDiff, Nat.reduceAdd, Nat.reduceMul, Nat.reduceSub, ↓Nat.reduceBEq, Nat.reduceLT, Nat.reduceLeDiff, Int.reduceLT, Int.reduceLE, Int.reduceNeg, Int.reduceToNat, g5]
          refine NO_range (bm := bm) (t := 34) rfl rfl rfl rfl (by decide) und_98 rfl hx fun r hr => NO_nil ?_
          have hrb : r ≠ bm := by rintro rfl; rw [hx] at hr; simp at hr
          simp only [nsQ_normal]
          refine NH_block ?_
          refine NH_loop (fun (g : List (Int × Nat) × Array Nat) s x => ∃ V out, s.env 1 = .ptr 0 0 ∧ s.env 5 = .ext (.map (some bm)) ∧ s.env 8 = .int .i64 (n0 : Nat) ∧ s.env 27 = .sl 32 0 l.length (some l.length) 1 ∧ s.env 28 = .int .i64 l.length ∧ s.env 29 = .int .i64 t ∧
            s.env 34 = .ext (.pointer (some ⟨r, 0, none⟩)) ∧
            s.heap 0 = some (.cells [.ro (boxC l) l.length false] false false) ∧ s.heap 32 = some (.cells (ints (ord.map fun k : Nat => (k : Int))) false false) ∧ 48 ≤ s.next ∧ GrowC 40 s.heap s.next (s.env 6) (ptC out) out.length 2 ∧
            x bm = some (.map (mEs g.1) clock) ∧ x r = some (.mapIter (some bm) clock g.2 clock) ∧ Inn l done rest n0 g.1 clock g.2 V out) (fun g => leftN g.1 g.2) ?_ (ks, #[]) _ _ ?_
          · rintro ⟨ks, seen⟩ ⟨env, heap, nx⟩ x ⟨V, out, g1, g5, g8, g27, g28, g29, g34, h0, h32, hnx, hgr, hx, hxr, hinn⟩
            simp only at g1 g5 g8 g27 g28 g29 g34 h0 h32 hnx hgr hx hxr hinn
            refine NH_seq ?_
            refine NH_region ?_
            refine NO_next (bm := bm) (r := r) (since := clock) (c0 := clock) (clock := clock) (seen := seen) (ks := ks) (t := 35) rfl rfl rfl rfl (by decide) g34 hx hxr hinn.old (Nat.le_refl _) ?_ ?_
            · intro hall
              refine NO_step mixed hsp rfl (by decide) (by rintro t ⟨⟩; decide) ?_
              simp (maxSteps := 4000000) (disch := first | omega | (simp only [List.length_set, List.length_replicate, List.length_append, List.length_take, List.length_drop, List.length_cons, List.length_nil]; omega)) only [go_sem, reduceCtorEq, Nat.reduceEqDiff, Nat.reduceAdd, Nat.reduceMul, Nat.reduceSub, ↓Nat.reduceBEq, Nat.reduceLT, Nat.reduceLeDiff, Int.reduceLT, Int.reduceLE, Int.reduceNeg, Int.reduceToNat]
              refine NO_nil ?_
              refine NH_seqD mixed hsp (by kernel_rfl) ?_
              simp (maxSteps := 4000000) (disch := first | omega | (simp only [List.length_set, List.length_replicate, List.length_append, List.length_take, List.length_drop, List.length_cons, List.length_nil]; omega)) only [go_sem, reduceCtorEq, Nat.reduceEqDiff, Nat.reduceAdd, Nat.reduceMul, Nat.reduceSub, ↓Nat.reduceBEq, Nat.reduceLT, Nat.reduceLeDiff, Int.reduceLT, Int.reduceLE, Int.reduceNeg, Int.reduceToNat]
              refine NH_region ?_
              refine NO_step mixed hsp rfl (by decide) (by rintro t ⟨⟩; decide) ?_
              simp (maxSteps := 4000000) (disch := first | omega | (simp only [List.length_set, List.length_replicate, List.length_append, List.length_take, List.length_drop, List.length_cons, List.length_nil]; omega)) only [go_sem, reduceCtorEq, Nat.reduceEqDiff, Nat.reduceAdd, Nat.reduceMul, Nat.reduceSub, ↓Nat.reduceBEq, Nat.reduceLT, Nat.reduceLeDiff, Int.reduceLT, Int.reduceLE, Int.reduceNeg, Int.reduceToNat, g5]
              refine NO_step mixed hsp rfl (by decide) (by rintro t ⟨⟩; decide) ?_
              simp (maxSteps := 4000000) (disch := first | omega | (simp only [List.length_set, List.length_replicate, List.length_append, List.length_take, List.length_drop, List.length_cons, List.length_nil]; omega)) only [go_sem, reduceCtorEq, Nat.reduceEqDiff, Nat.reduceAdd, Nat.reduceMul, Nat.reduceSub, ↓Nat.reduceBEq, Nat.reduceLT, Nat.reduceLeDiff, Int.reduceLT, Int.reduceLE, Int.reduceNeg, Int.reduceToNat, g8]
              refine NO_update (bm := bm) (clock := clock) (n := (n0 : Nat)) (ks := ks) rfl rfl rfl rfl und_98 und_3 rfl rfl hx (fun p hp he => ?_) (NO_nil ?_)
              · obtain ⟨k, hk, hpk⟩ := hinn.isd p hp
                have : k = n0 := by omega
                subst this
                exact hnot hk
              · refine NH_det mixed hsp (by kernel_rfl) ?_
                simp (maxSteps := 4000000) (disch := first | omega | (simp only [List.length_set, List.length_replicate, List.length_append, List.length_take, List.length_drop, List.length_cons, List.length_nil]; omega)) only [go_sem, reduceCtorEq, Nat.reduceEqDiff, Nat.reduceAdd, Nat.reduceMul, Nat.reduceSub, ↓Nat.reduceBEq, Nat.reduceLT, Nat.reduceLeDiff, Int.reduceLT, Int.reduceLE, Int.reduceNeg, Int.reduceToNat, g29]
                refine ⟨t + 1, ⟨ks ++ [((n0 : Int), clock)], clock + 1, out, by omega, g1, g5, g27, g28, rfl, h0, h32, growC_mono hgr (fun _ _ => rfl) (by omega), xput_same _ _ _, ?_⟩, by omega⟩
                rw [htk, hre]
                exact hinn.leave hnot hall
            · intro p hp hps
              obtain ⟨k, hkd, hpk⟩ := hinn.isd p hp
              have hkl := htd k hkd
              refine NO_step mixed hsp rfl (by decide) (by rintro t ⟨⟩; decide) ?_
              simp (maxSteps := 4000000) (disch := first | omega | (simp only [List.length_set, List.length_replicate, List.length_append, List.length_take, List.length_drop, List.length_cons, List.length_nil]; omega)) only [go_sem, reduceCtorEq, Nat.reduceEqDiff, Nat.reduceAdd, Nat.reduceMul, Nat.reduceSub, ↓Nat.reduceBEq, Nat.reduceLT, Nat.reduceLeDiff, Int.reduceLT, Int.reduceLE, Int.reduceNeg, Int.reduceToNat]
              refine NO_nil ?_
              refine NH_seqD mixed hsp (by kernel_rfl) ?_
              simp (maxSteps := 4000000) (disch := first | omega | (simp only [List.length_set, List.length_replicate, List.length_append, List.length_take, List.length_drop, List.length_cons, List.length_nil]; omega)) only [go_sem, reduceCtorEq, Nat.reduceEqDiff, Nat.reduceAdd, Nat.reduceMul, Nat.reduceSub, ↓Nat.reduceBEq, Nat.reduceLT, Nat.reduceLeDiff, Int.reduceLT, Int.reduceLE, Int.reduceNeg, Int.reduceToNat]
              refine NH_block ?_
              refine NH_seq ?_
              refine NH_region ?_
              have hxr' : (xput x r (.mapIter (some bm) clock (seen.push p.2) clock)) r = some (.mapIter (some bm) clock (seen.push p.2) clock) := xput_same _ _ _
              have hx' : (xput x r (.mapIter (some bm) clock (seen.push p.2) clock)) bm = some (.map (mEs ks) clock) := by rw [xput_ne _ _ _ _ (Ne.symm hrb)]; exact hx
              refine NO_entry (bm := bm) (r := r) (since := clock) (clock := clock) (seen := seen) (ks := ks) (p := p) (t := 37) (t0 := 34) rfl rfl rfl rfl (by decide) g34 hx' hxr' hp hinn.births ?_
              generalize xput x r (.mapIter (some bm) clock (seen.push p.2) clock) = x1 at *
              refine NO_step mixed hsp rfl (by decide) (by rintro t ⟨⟩; decide) ?_
              simp (maxSteps := 4000000) (disch := first | omega | (simp only [List.length_set, List.length_replicate, List.length_append, List.length_take, List.length_drop, List.length_cons, List.length_nil]; omega)) only [go_sem, reduceCtorEq, Nat.reduceEqDiff, Nat.reduceAdd, Nat.reduceMul, Nat.reduceSub, ↓Nat.reduceBEq, Nat.reduceLT, Nat.reduceLeDiff, Int.reduceLT, Int.reduceLE, Int.reduceNeg, Int.reduceToNat]
              refine NO_step mixed hsp rfl (by decide) (by rintro t ⟨⟩; decide) ?_
              simp (maxSteps := 4000000) (disch := first | omega | (simp only [List.length_set, List.length_replicate, List.length_append, List.length_take, List.length_drop, List.length_cons, List.length_nil]; omega)) only [go_sem, reduceCtorEq, Nat.reduceEqDiff, Nat.reduceAdd, Nat.reduceMul, Nat.reduceSub, ↓Nat.reduceBEq, Nat.reduceLT, Nat.reduceLeDiff, Int.reduceLT, Int.reduceLE, Int.reduceNeg, Int.reduceToNat]
              refine NO_nil ?_
              refine NH_block ?_
              refine NH_seqD mixed hsp (by kernel_rfl) ?_
              have r1 := hl _ (getD_mem l k hkl)
              have r2 := hl _ (getD_mem l n0 hm0)
              have d1 := boxC_drop l k hkl
              have d2 := boxC_drop l n0 hm0
              have hst : hxN l k = (l.getD k box0).hx := rfl
              have hst2 : lxN l n0 = (l.getD n0 box0).lx := rfl
              have hst3 : mtN l k n0 = mt (l.getD k box0) (l.getD n0 box0) := rfl
              have hclose := fun (j : Nat) (p' : Int × Nat) (hj : ks[j]? = some p') (hk' : p'.1 = (k : Nat)) => hinn.close hsort hj (k := k) hk'
              have hlook := hinn.look hnot hp hps hpk
              rw [hst, hst2] at hclose
              rw [hst3] at hlook
              generalize boxC (l.drop (k + 1)) = t1 at *
              generalize boxC (l.drop (n0 + 1)) = t2 at *
              generalize l.getD k box0 = b1 at *
              generalize l.getD n0 box0 = b2 at *
              have c1 := M_59 (x := b1.hx) (y := b2.lx) (by omega)
              have c2 := M_19 (ax := b1.lx) (ay := b1.ly) (ax' := b1.hx) (ay' := b1.hy) (bx := b2.lx) (by0 := b2.ly) (bx' := b2.hx) (by' := b2.hy) (by omega)
              rw [show meetB b1.lx b1.ly b1.hx b1.hy b2.lx b2.ly b2.hx b2.hy = mt b1 b2 from rfl] at c2
              have hol2 := hinn.len htd hm0
              have hll : l.length * l.length ≤ 2 ^ 16 * 2 ^ 16 := Nat.mul_le_mul (by omega) (by omega)
              by_cases hfar : b1.hx < b2.lx
              · have hneg : cmpQ b1.hx b2.lx < 0 := (cmpQ_neg _ _).2 hfar
                simp (maxSteps := 4000000) (disch := first | omega | (simp only [List.length_set, List.length_replicate, List.length_append, List.length_take, List.length_drop, List.length_cons, List.length_nil]; omega)) only [go_sem, reduceCtorEq, Nat.reduceEqDiff, Nat.reduceAdd, Nat.reduceMul, Nat.reduceSub, ↓Nat.reduceBEq, Nat.reduceLT, Nat.reduceLeDiff, Int.reduceLT, Int.reduceLE, Int.reduceNeg, Int.reduceToNat, g1, g8, h0, hpk, hbl, d1, d2, c1]
                refine NH_cond true rfl (fun _ => ?_) (by simp)
                refine NH_region ?_
                refine NO_step mixed hsp rfl (by decide) (by rintro t ⟨⟩; decide) ?_
                simp (maxSteps := 4000000) (disch := first | omega | (simp only [List.length_set, List.length_replicate, List.length_append, List.length_take, List.length_drop, List.length_cons, List.length_nil]; omega)) only [go_sem, reduceCtorEq, Nat.reduceEqDiff, Nat.reduceAdd, Nat.reduceMul, Nat.reduceSub, ↓Nat.reduceBEq, Nat.reduceLT, Nat.reduceLeDiff, Int.reduceLT, Int.reduceLE, Int.reduceNeg, Int.reduceToNat, g5]
                refine NO_step mixed hsp rfl (by decide) (by rintro t ⟨⟩; decide) ?_
                simp (maxSteps := 4000000) (disch := first | omega | (simp only [List.length_set, List.length_replicate, List.length_append, List.length_take, List.length_drop, List.length_cons, List.length_nil]; omega)) only [go_sem, reduceCtorEq, Nat.reduceEqDiff, Nat.reduceAdd, Nat.reduceMul, Nat.reduceSub, ↓Nat.reduceBEq, Nat.reduceLT, Nat.reduceLeDiff, Int.reduceLT, Int.reduceLE, Int.reduceNeg, Int.reduceToNat]
                refine NO_delete (bm := bm) (clock := clock) (n := (k : Nat)) (ks := ks) rfl rfl rfl rfl und_98 und_3 rfl rfl hx' ⟨p, hp, hpk⟩ fun j p' hj hp' => NO_nil ?_
                obtain rfl : p' = p := nodup_inj hinn.keys (List.mem_of_getElem? hj) hp (by omega)
                simp only [nbQ_normal, nlQ_normal]
                refine ⟨(ks.eraseIdx j, seen.push p'.2), ⟨V, out, ?_⟩, Nat.lt_of_le_of_lt (leftN_erase j) (leftN_look hp hps)⟩
                simp only [upd_sel, sel_true, sel_false, ↓Nat.reduceBEq]
                exact ⟨g1, g5, g8, g27, g28, g29, g34, h0, h32, by omega, growC_mono hgr (fun _ _ => rfl) (by omega), xput_same _ _ _, by rw [xput_ne _ _ _ _ hrb]; exact hxr', hclose j _ hj hp' hfar⟩
              · have hneg : ¬ cmpQ b1.hx b2.lx < 0 := fun h => hfar ((cmpQ_neg _ _).1 h)
                simp (maxSteps := 4000000) (disch := first | omega | (simp only [List.length_set, List.length_replicate, List.length_append, List.length_take, List.length_drop, List.length_cons, List.length_nil]; omega)) only [go_sem, reduceCtorEq, Nat.reduceEqDiff, Nat.reduceAdd, Nat.reduceMul, Nat.reduceSub, ↓Nat.reduceBEq, Nat.reduceLT, Nat.reduceLeDiff, Int.reduceLT, Int.reduceLE, Int.reduceNeg, Int.reduceToNat, g1, g8, h0, hpk, hbl, d1, d2, c1]
                refine NH_cond false rfl (by simp) fun _ => ?_
                refine NH_seqD mixed hsp (by kernel_rfl) ?_
                simp (maxSteps := 4000000) (disch := first | omega | (simp only [List.length_set, List.length_replicate, List.length_append, List.length_take, List.length_drop, List.length_cons, List.length_nil]; omega)) only [go_sem, reduceCtorEq, Nat.reduceEqDiff, Nat.reduceAdd, Nat.reduceMul, Nat.reduceSub, ↓Nat.reduceBEq, Nat.reduceLT, Nat.reduceLeDiff, Int.reduceLT, Int.reduceLE, Int.reduceNeg, Int.reduceToNat, g1, g8, h0, hpk, hbl, d1, d2, c2]
                refine NH_det mixed hsp (by kernel_rfl) ?_
                by_cases hmt : mt b1 b2 = true
                · rw [if_pos hmt] at hlook
                  have m1 : (if (n0 : Int) < (k : Int) then (n0 : Int) else (k : Int)) = ((min k n0 : Nat) : Int) := by split <;> omega
                  have m2 : (if (k : Int) < (n0 : Int) then (n0 : Int) else (k : Int)) = ((max k n0 : Nat) : Int) := by split <;> omega
                  rcases hgr with ⟨e3, ec, e0⟩ | ⟨B, hB, e3, eB⟩
                  · simp (maxSteps := 4000000) (disch := first | omega | (simp only [List.length_set, List.length_replicate, List.length_append, List.length_take, List.length_drop, List.length_cons, List.length_nil]; omega)) only [go_sem, reduceCtorEq, Nat.reduceEqDiff, Nat.reduceAdd, Nat.reduceMul, Nat.reduceSub, ↓Nat.reduceBEq, Nat.reduceLT, Nat.reduceLeDiff, Int.reduceLT, Int.reduceLE, Int.reduceNeg, Int.reduceToNat, g8, hmt, e3, replA_1, m1, m2]
                    obtain rfl : out = [] := List.eq_nil_of_length_eq_zero e0
                    exact ⟨(ks, seen.push p.2), ⟨k :: V, [prN k n0], g1, g5, g27, g28, g29, g34, h0, h32, growC_put _ _ _ _ _ _ _ (by omega), hx', hxr', hlook⟩, leftN_look hp hps⟩
                  · simp (maxSteps := 4000000) (disch := first | omega | (simp only [List.length_set, List.length_replicate, List.length_append, List.length_take, List.length_drop, List.length_cons, List.length_nil]; omega)) only [go_sem, reduceCtorEq, Nat.reduceEqDiff, Nat.reduceAdd, Nat.reduceMul, Nat.reduceSub, ↓Nat.reduceBEq, Nat.reduceLT, Nat.reduceLeDiff, Int.reduceLT, Int.reduceLE, Int.reduceNeg, Int.reduceToNat, g8, hmt, e3, eB, ptC_length, replA_1, m1, m2]
                    refine ⟨(ks, seen.push p.2), ⟨k :: V, out ++ [prN k n0], g1, g5, g27, g28, g29, g34, h0, h32, ?_, hx', hxr', hlook⟩, leftN_look hp hps⟩
                    rw [ptC_snocN, List.length_append]
                    exact growC_put _ _ _ _ _ _ _ (by omega)
                · rw [if_neg hmt] at hlook
                  simp only [Bool.not_eq_true] at hmt
                  simp (maxSteps := 4000000) (disch := first | omega | (simp only [List.length_set, List.length_replicate, List.length_append, List.length_take, List.length_drop, List.length_cons, List.length_nil]; omega)) only [go_sem, reduceCtorEq, Nat.reduceEqDiff, Nat.reduceAdd, Nat.reduceMul, Nat.reduceSub, ↓Nat.reduceBEq, Nat.reduceLT, Nat.reduceLeDiff, Int.reduceLT, Int.reduceLE, Int.reduceNeg, Int.reduceToNat, hmt]
                  exact ⟨(ks, seen.push p.2), ⟨k :: V, out, g1, g5, g8, g27, g28, g29, g34, h0, h32, growC_mono hgr (fun _ _ => rfl) (by omega), hx', hxr', hlook⟩, leftN_look hp hps⟩
          · refine ⟨[], out, ?_⟩
            simp only [upd_sel, sel_true, sel_false, ↓Nat.reduceBEq]
            exact ⟨g1, g5, trivial, g27, g28, g29, trivial, h0, h32, by omega, growC_mono hgr (fun _ _ => rfl) (by omega), by rw [xput_ne _ _ _ _ (Ne.symm hrb)]; exact hx, xput_same _ _ _, hinv.enter⟩
        · simp (maxSteps := 4000000) (disch := first | omega | (simp only [List.length_set, List.length_replicate, List.length_append, List.length_take, List.length_drop, List.length_cons, List.length_nil]; omega)) only [go_sem, reduceCtorEq, Nat.reduceEqDiff, Nat.reduceAdd, Nat.reduceMul, Nat.reduceSub, ↓Nat.reduceBEq, Nat.reduceLT, Nat.reduceLeDiff, Int.reduceLT, Int.reduceLE, Int.reduceNeg, Int.reduceToNat, g28, g29]
          refine NH_seqD mixed hsp (by kernel_rfl) ?_
          simp (maxSteps := 4000000) (disch := first | omega | (simp only [List.length_set, List.length_replicate, List.length_append, List.length_take, List.length_drop, List.length_cons, List.length_nil]; omega)) only [go_sem, reduceCtorEq, Nat.reduceEqDiff, Nat.reduceAdd, Nat.reduceMul, Nat.reduceSub, ↓Nat.reduceBEq, Nat.reduceLT, Nat.reduceLeDiff, Int.reduceLT, Int.reduceLE, Int.reduceNeg, Int.reduceToNat]
          obtain rfl : t = l.length := by omega
          have hol2 := hinv.len (N := l.length) fun k hk => by simpa using hperm.mem_iff.1 ((List.take_sublist _ ord).subset hk)
          have hll : l.length * l.length ≤ 2 ^ 16 * 2 ^ 16 := Nat.mul_le_mul (by omega) (by omega)
          have hmem : ∀ p, p ∈ out ↔ p ∈ prsP l l.length l.length := by
            intro p
            rw [hinv.mem p, mem_prsP, List.take_of_length_le (by omega)]
            constructor
            · rintro ⟨i, k, h1, h2, h3, h4, h5⟩
              exact ⟨i, k, by simpa using hperm.mem_iff.1 h2, h1, by simpa using hperm.mem_iff.1 h3, h4, h5⟩
            · rintro ⟨i, k, h1, h2, h3, h4, h5⟩
              exact ⟨i, k, h2, hperm.mem_iff.2 (by simpa using h1), hperm.mem_iff.2 (by simpa using h3), h4, h5⟩
          have hprs := prsP_sorted l l.length l.length
          generalize prsP l l.length l.length = m at *
          refine NH_seq ?_
          refine NH_region ?_
          refine NO_step mixed hsp rfl (by decide) (by rintro t ⟨⟩; decide) ?_
          simp (maxSteps := 4000000) (disch := first | omega | (simp only [List.length_set, List.length_replicate, List.length_append, List.length_take, List.length_drop, List.length_cons, List.length_nil]; omega)) only [go_sem, reduceCtorEq, Nat.reduceEqDiff, Nat.reduceAdd, Nat.reduceMul, Nat.reduceSub, ↓Nat.reduceBEq, Nat.reduceLT, Nat.reduceLeDiff, Int.reduceLT, Int.reduceLE, Int.reduceNeg, Int.reduceToNat]
          refine NO_sort_prs hsp (ts := 79) (lo := 40) (nx := nx) (out := out) rfl (by rintro t ⟨⟩; decide) hgr (by omega) hinv.nodup hprs hmem fun heap' hgr' => NO_nil ?_
          simp only [upd_sel, sel_true, sel_false, ↓Nat.reduceBEq] at hgr'
          refine NH_seqD mixed hsp (by kernel_rfl) ?_
          simp (maxSteps := 4000000) (disch := first | omega | (simp only [List.length_set, List.length_replicate, List.length_append, List.length_take, List.length_drop, List.length_cons, List.length_nil]; omega)) only [go_sem, reduceCtorEq, Nat.reduceEqDiff, Nat.reduceAdd, Nat.reduceMul, Nat.reduceSub, ↓Nat.reduceBEq, Nat.reduceLT, Nat.reduceLeDiff, Int.reduceLT, Int.reduceLE, Int.reduceNeg, Int.reduceToNat]
          refine NH_det mixed hsp (by kernel_rfl) ?_
          simp (maxSteps := 4000000) (disch := first | omega | (simp only [List.length_set, List.length_replicate, List.length_append, List.length_take, List.length_drop, List.length_cons, List.length_nil]; omega)) only [go_sem, reduceCtorEq, Nat.reduceEqDiff, Nat.reduceAdd, Nat.reduceMul, Nat.reduceSub, ↓Nat.reduceBEq, Nat.reduceLT, Nat.reduceLeDiff, Int.reduceLT, Int.reduceLE, Int.reduceNeg, Int.reduceToNat]
          rw [outN_ret]
          refine ⟨env 6, rfl, ?_⟩
          rcases hgr' with ⟨e3, ec, e0⟩ | ⟨B, hB, e3, eB⟩
          · obtain rfl : m = [] := List.eq_nil_of_length_eq_zero e0
            exact ⟨.ro [] 0 true, [], by rw [e3]; rfl, rfl⟩
          · refine ⟨.ro (ptC m) m.length false, [B], ?_, ?_⟩
            · rw [e3]
              simp only [depthA, snap_sl, eB, ptC_length, List.drop_zero]
              rw [if_pos (by omega), List.take_of_length_le (by rw [ptC_length]; omega), snaps_ptC, mp_some]
            · simp only [AV.weak, weaks_ptC]
      · refine ⟨[], 0, [], by omega, ?_⟩
        simp only [upd_sel, sel_true, sel_false, ↓Nat.reduceBEq]
        refine ⟨g1, trivial, trivial, trivial, rfl, h0, trivial, by omega, growC_nil _ _ _ _, xput_same _ _ _, ?_⟩
        exact ⟨by simp, by simp, by simp, by simp, by simp, by simp, by simp⟩
  · simp (maxSteps := 4000000) (disch := first | omega | (simp only [List.length_set, List.length_replicate, List.length_append, List.length_take, List.length_drop, List.length_cons, List.length_nil]; omega)) only [go_sem, reduceCtorEq, Nat.reduceEqDiff, Nat.reduceAdd, Nat.reduceMul, Nat.reduceSub, ↓Nat.reduceBEq, Nat.reduceLT, Nat.reduceLeDiff, Int.reduceLT, Int.reduceLE, Int.reduceNeg, Int.reduceToNat, hbl]
    rw [ordL_zero]
end Go.Proofs.YtjccikgdebgebaaGreatDoor.Abs
end
section
set_option linter.unusedSimpArgs false
namespace Go.Proofs.YtjccikgdebgebaaGreatDoor.Abs
open Go
theorem ints_inj : ∀ {a b : List Int}, ints a = ints b → a = b
  | [], [], _ => rfl
  | [], y :: b, h => by simp [ints] at h
  | x :: a, [], h => by simp [ints] at h
  | x :: a, y :: b, h => by
    rw [ints_cons, ints_cons] at h
    injection h with h1 h2
    injection h1 with _ h3
    rw [h3, ints_inj h2]
theorem z_inj {a b : Int} (h1 : zS a = zS b) (h2 : zD a = zD b) : a = b := by
  unfold zS at h1; unfold zD isl at h2
  injection h1 with h1
  injection h2 with h2 _ _
  have h3 := congrArg val (ints_inj h2)
  rw [val_digs, val_digs] at h3
  have h4 : a < 0 ↔ b < 0 := by
    constructor
    · intro h; by_cases hb : b < 0
      · exact hb
      · simp [h, hb] at h1
    · intro h; by_cases ha : a < 0
      · exact ha
      · simp [h, ha] at h1
  omega
theorem q_inj {x y : Rat} (h1 : x.num = y.num) (h2 : dz x = dz y) : x = y := by
  have hx := x.den_pos; have hy := y.den_pos
  refine Rat.ext h1 ?_
  unfold dz at h2
  split at h2 <;> split at h2 <;> omega
theorem boxC_inj : ∀ {l m : List BoxQ}, boxC l = boxC m → l = m
  | [], [], _ => rfl
  | [], b :: m, h => by simp [boxC] at h
  | a :: l, [], h => by simp [boxC] at h
  | a :: l, b :: m, h => by
    simp only [boxC, List.cons_append, List.nil_append, List.cons.injEq] at h
    obtain ⟨a1, a2, a3, a4, b1, b2, b3, b4, c1, c2, c3, c4, d1, d2, d3, d4, ht⟩ := h
    obtain ⟨ax, ay, ax', ay'⟩ := a
    obtain ⟨bx, by0, bx', by'⟩ := b
    simp only at *
    rw [q_inj (z_inj a1 a2) (z_inj a3 a4), q_inj (z_inj b1 b2) (z_inj b3 b4), q_inj (z_inj c1 c2) (z_inj c3 c4), q_inj (z_inj d1 d2) (z_inj d3 d4), boxC_inj ht]
def SortOf (args : List AV) (l : List BoxQ) : Prop := (∃ n, okB l n ∧ 8 * n < 2 ^ 24) ∧ l.length < 2 ^ 16 ∧ args = [.ro (boxC l) l.length false]
def sortR (l : List BoxQ) : AV := .ro (ptC (prsP l l.length l.length)) (prsP l l.length l.length).length false
open Classical in
noncomputable def sortS (args : List AV) : Option AV := if h : ∃ l, SortOf args l then some (sortR (Classical.choose h)) else none
theorem sortS_eq {l : List BoxQ} {n : Nat} (hl : okB l n) (hn : 8 * n < 2 ^ 24) (hlen : l.length < 2 ^ 16) : sortS [.ro (boxC l) l.length false] = some (sortR l) := by
  have h : ∃ l', SortOf [.ro (boxC l) l.length false] l' := ⟨l, ⟨n, hl, hn⟩, hlen, rfl⟩
  unfold sortS
  rw [dif_pos h]
  have hc := (Classical.choose_spec h).2.2
  generalize Classical.choose h = m at hc
  have h2 : boxC l = boxC m := (show boxC l = boxC m ∧ l.length = m.length by simpa using (List.cons.inj hc).1).1
  rw [boxC_inj h2]
@[reducible] noncomputable def spc0 : SpC := ⟨fun _ _ => none⟩
@[reducible] noncomputable def spc1 : SpC := ⟨fun f args => if f = 37 then sortS args else none⟩
theorem sp0 : SpecSound (@X spc0) := by
  refine specSound_of fun f g hm args r hr => ?_
  unfold X at hm
  try simp only at hm
  split at hm
  · injection hm with hm
    rw [← hm] at hr
    have hr : (none : Option AV) = some r := hr
    simp at hr
  · split at hm
    · simp at hm
    · split at hm <;> simp at hm
theorem sp1 : SpecSound (@X spc1) := by
  refine specSound_of fun f g hm args r hr => ?_
  unfold X at hm
  try simp only at hm
  split at hm
  · injection hm with hm
    rw [← hm] at hr
    replace hr : (if f = 37 then sortS args else none) = some r := hr
    by_cases hf : f = 37
    · rw [if_pos hf] at hr
      subst hf
      unfold sortS at hr
      split at hr
      · rename_i h
        injection hr with hr
        subst hr
        obtain ⟨⟨n, h1, h2⟩, h3, h4⟩ := Classical.choose_spec h
        generalize Classical.choose h = l at *
        subst h4
        exact SpecAt.same (X := @X spc0) (Y := @X spc1) rfl rfl (@spec_Sorted spc0 sp0 l n h1 h3 h2)
      · simp at hr
    · rw [if_neg hf] at hr
      simp at hr
  · split at hm
    · simp at hm
    · split at hm <;> simp at hm
theorem spec1_eq {l : List BoxQ} {n : Nat} (hl : okB l n) (hn : 8 * n < 2 ^ 24) (hlen : l.length < 2 ^ 16) : @SpC.spec spc1 37 [.ro (boxC l) l.length false] = some (sortR l) := by
  show (if 37 = 37 then sortS _ else none) = _
  rw [if_pos rfl]; exact sortS_eq hl hn hlen
end Go.Proofs.YtjccikgdebgebaaGreatDoor.Abs
end
