/-
  Package gantryref15: Valid. Package model: rope, Valid. Models of the generator, and with one or two things changed, and what Valid answers. No conditions.
-/
import Derived.Test.YtenhjccadhlgoaaGreatQ20
import Derived.Test.YtenhjccadhlgoaaGreatQ08
import Derived.Test.YtenhjccadhlgoaaGreatQ07
import Derived.Test.YtenhjccadhlgoaaGreatQ10
import Derived.Test.YtenhjccadhlgoaaGreatQ09
set_option linter.unusedSimpArgs false
set_option linter.unusedVariables false
set_option maxRecDepth 100000
set_option maxHeartbeats 16000000
namespace Go.Proofs.YtenhjccadhlgoaaGreat.Abs
open Go
def dofV (d : DofR) : Bool := d.load.ok && dofOk d
def partV (n : Int) (p : PartR) : Bool := partOk n (vldW p.shape) p
def colsMany (p : PartR) : Bool := decide (3 < p.cols.length)
def skipFit (n : Int) (x : Pt) : Bool := decide (0 ≤ x.1) && decide (x.1 < x.2) && decide (x.2 < n)
def skipLess (y x : Pt) : Bool := !(decide (x.1 < y.1) || (decide (y.1 = x.1) && decide (x.2 ≤ y.2)))
def skipAt (l : List Pt) (n : Int) (i : Nat) : Bool := skipFit n (l.getD i (0, 0)) && (decide (i = 0) || skipLess (l.getD (i - 1) (0, 0)) (l.getD i (0, 0)))
def validE (m : MdlR) : Int :=
 if 12 < m.dofs.length ∨ 12 < m.parts.length ∨ 4 < m.ropes.length ∨ 16 < m.skip.length then 4
 else if m.parts.any colsMany = true then 4
 else if m.dofs.all dofV = false then 1
 else if m.parts.all (partV m.dofs.length) = false then 1
 else if m.ropes.all (ropeOk m.parts.length) = false then 1
 else if (List.range m.skip.length).all (skipAt m.skip m.parts.length) = false then 1 else 0
structure MdlB (m : MdlR) (N : Nat) : Prop where
 dl : m.dofs.length < 2 ^ 10
 pl : m.parts.length < 2 ^ 10
 rl : m.ropes.length < 2 ^ 10
 sl : m.skip.length < 2 ^ 10
 dof : ∀ d ∈ m.dofs, DofB d N
 part : ∀ p ∈ m.parts, PartB p N
 cols : ∀ p ∈ m.parts, p.cols.length < 2 ^ 10
 shp : ∀ p ∈ m.parts, (∀ q ∈ p.shape, okw q) ∧ p.shape.length < 2 ^ 10
 rope : ∀ r ∈ m.ropes, RopeB r N
 skip : ∀ x ∈ m.skip, (-1000 ≤ x.1 ∧ x.1 ≤ 1000) ∧ (-1000 ≤ x.2 ∧ x.2 ≤ 1000)
theorem all_miss {α : Type} {f : α → Bool} {l : List α} {i : Nat} {x : α} (h : l[i]? = some x) (hf : f x = false) : l.all f = false := by
 cases hc : l.all f with
 | false => rfl
 | true =>
  have := List.all_eq_true.1 hc x (List.mem_of_getElem? h)
  rw [hf] at this; cases this
theorem M_11 [SpC] (m : MdlR) (N : Nat) (hm : MdlB m N) (hN : N < 2 ^ 18) : M X 11 [.agg (mdlA m)] = some (.int .i64 (validE m)) := by
 refine M_of X (fn := Tryz.f11) Tryz.func11 rfl ok_11 mode_11 res_11 _ rfl _ ?_
 intro r hr
 have h1 := hm.dl
 have h2 := hm.pl
 have h3 := hm.rl
 have h4 := hm.sl
 have cd := cat_length (f := dofA) m.dofs
 have cp := cat_length (f := partA) m.parts
 have cr := cat_length (f := ropeA) m.ropes
 have cs := ptC_length m.skip
 unfold validE at hr
 by_cases c1 : 12 < m.dofs.length
 ·rw [if_pos (.inl c1)] at hr
  simp (maxSteps := 9^7) (disch := first | omega | simp only [LL]; omega) only [go_sem, mdlA_eq]
  rw [hr]
 by_cases c2 : 12 < m.parts.length
 ·rw [if_pos (.inr (.inl c2))] at hr
  simp (maxSteps := 9^7) (disch := first | omega | simp only [LL]; omega) only [go_sem, mdlA_eq]
  rw [hr]
 by_cases c3 : 4 < m.ropes.length
 ·rw [if_pos (.inr (.inr (.inl c3)))] at hr
  simp (maxSteps := 9^7) (disch := first | omega | simp only [LL]; omega) only [go_sem, mdlA_eq]
  rw [hr]
 by_cases c4 : 16 < m.skip.length
 ·rw [if_pos (.inr (.inr (.inr c4)))] at hr
  simp (maxSteps := 9^7) (disch := first | omega | simp only [LL]; omega) only [go_sem, mdlA_eq]
  rw [hr]
 rw [if_neg (by omega)] at hr
 simp (maxSteps := 9^7) (disch := first | omega | simp only [LL]; omega) only [go_sem, mdlA_eq]
 refine W_loop X (fun (k : Nat) t => k ≤ m.parts.length ∧ (m.parts.take k).any colsMany = false ∧ t.env 1 = .ptr 0 0 ∧ t.env 3 = .int .i64 k ∧ 8 ≤ t.next ∧ t.heap 0 = some (.cells (mdlA m) false false)) (fun k => m.parts.length - k) ?_ 0 _ ?_
 ·rintro k ⟨env, heap, nx⟩ ⟨hk, hb, g1, g3, hnx, e0⟩
  simp only at g1 g3 hnx e0
  rw [mdlA_eq] at e0
  by_cases hlt : k < m.parts.length
  ·have hg := List.getElem?_eq_getElem hlt
   have hd := cat_drop (f := partA) hg
   have hcl := hm.cols _ (List.mem_of_getElem? hg)
   have hsucc := any_take_succ colsMany hg
   have hhit := fun h => any_hit (f := colsMany) hg h
   generalize m.parts[k] = p at *
   rw [partA_eq] at hd
   by_cases hB : 3 < p.cols.length
   ·rw [if_pos (hhit (decide_eq_true hB))] at hr
    clear hhit hsucc
    simp (maxSteps := 9^7) (disch := first | omega | simp only [LL]; omega) only [go_sem, g1, g3, e0, cp, hd]
    rw [hr]
   ·rw [hb, show colsMany p = false from decide_eq_false hB] at hsucc
    clear hhit
    simp (maxSteps := 9^7) (disch := first | omega | simp only [LL]; omega) only [go_sem, g1, g3, e0, cp, hd]
    refine ⟨k + 1, ?_, by omega⟩
    repeat' apply And.intro
    all_goals first | omega | rfl | exact hsucc | (rw [mdlA_eq]; done)
  ·obtain rfl : k = m.parts.length := by omega
   rw [List.take_length] at hb
   rw [if_neg (by rw [hb]; decide)] at hr
   simp (maxSteps := 9^7) (disch := first | omega | simp only [LL]; omega) only [go_sem, g1, g3, e0, cp]
   refine W_loop X (fun (k : Nat) t => k ≤ m.dofs.length ∧ (m.dofs.take k).all dofV = true ∧ t.env 1 = .ptr 0 0 ∧ t.env 4 = .int .i64 k ∧ 8 ≤ t.next ∧ t.heap 0 = some (.cells (mdlA m) false false)) (fun k => m.dofs.length - k) ?_ 0 _ ?_
   ·clear hb g1 g3 hnx e0 hk
    rintro k ⟨env, heap, nx⟩ ⟨hk, hb, g1, g4, hnx, e0⟩
    simp only at g1 g4 hnx e0
    rw [mdlA_eq] at e0
    by_cases hlt : k < m.dofs.length
    ·have hg := List.getElem?_eq_getElem hlt
     have hd := cat_take (f := dofA) hg
     have w1 := M_65 m.dofs[k] N (hm.dof _ (List.mem_of_getElem? hg)) hN
     have hsucc := all_take_succ dofV hg
     have hmiss := fun h => all_miss (f := dofV) hg h
     rw [show (m.dofs[k].load.ok && dofOk m.dofs[k]) = dofV m.dofs[k] from rfl] at w1
     generalize m.dofs[k] = d at *
     rw [dofA_eq] at hd w1
     cases hB : dofV d with
     | false =>
      rw [if_pos (hmiss hB)] at hr
      rw [hB] at w1
      clear hmiss hsucc
      simp (maxSteps := 9^7) (disch := first | omega | simp only [LL]; omega) only [go_sem, g1, g4, e0, cd, hd, w1]
      rw [hr]
     | true =>
      rw [hb, hB] at hsucc
      rw [hB] at w1
      clear hmiss
      simp (maxSteps := 9^7) (disch := first | omega | simp only [LL]; omega) only [go_sem, g1, g4, e0, cd, hd, w1]
      refine ⟨k + 1, ?_, by omega⟩
      repeat' apply And.intro
      all_goals first | omega | rfl | exact hsucc | (rw [mdlA_eq]; done) | (rw [mdlA_eq, e0]; done)
    ·obtain rfl : k = m.dofs.length := by omega
     rw [List.take_length] at hb
     rw [if_neg (by rw [hb]; decide)] at hr
     simp (maxSteps := 9^7) (disch := first | omega | simp only [LL]; omega) only [go_sem, g1, g4, e0, cd]
     refine W_loop X (fun (k : Nat) t => k ≤ m.parts.length ∧ (m.parts.take k).all (partV m.dofs.length) = true ∧ t.env 1 = .ptr 0 0 ∧ t.env 5 = .int .i64 k ∧ 8 ≤ t.next ∧ t.heap 0 = some (.cells (mdlA m) false false)) (fun k => m.parts.length - k) ?_ 0 _ ?_
     ·clear hb g1 g4 hnx e0 hk
      rintro k ⟨env, heap, nx⟩ ⟨hk, hb, g1, g5, hnx, e0⟩
      simp only at g1 g5 hnx e0
      rw [mdlA_eq] at e0
      by_cases hlt : k < m.parts.length
      ·have hg := List.getElem?_eq_getElem hlt
       have hd := cat_take (f := partA) hg
       obtain ⟨s1, s2⟩ := hm.shp _ (List.mem_of_getElem? hg)
       have w1 := M_66 m.parts[k] m.dofs.length (vldW m.parts[k].shape) N (hm.part _ (List.mem_of_getElem? hg)) hN (by omega) (M_132 m.parts[k].shape s1 (by omega))
       have hsucc := all_take_succ (partV m.dofs.length) hg
       have hmiss := fun h => all_miss (f := partV m.dofs.length) hg h
       have hcp := cat_length (f := colA) m.parts[k].cols
       rw [show partOk m.dofs.length (vldW m.parts[k].shape) m.parts[k] = partV m.dofs.length m.parts[k] from rfl] at w1
       generalize m.parts[k] = p at *
       rw [partA_eq] at hd w1
       cases hB : partV m.dofs.length p with
       | false =>
        rw [if_pos (hmiss hB)] at hr
        rw [hB] at w1
        clear hmiss hsucc
        simp (maxSteps := 9^7) (disch := first | omega | simp only [LL]; omega) only [go_sem, g1, g5, e0, cp, hd, weaks_cat, weaks_ptC, w1]
        rw [hr]
       | true =>
        rw [hb, hB] at hsucc
        rw [hB] at w1
        clear hmiss
        simp (maxSteps := 9^7) (disch := first | omega | simp only [LL]; omega) only [go_sem, g1, g5, e0, cp, hd, weaks_cat, weaks_ptC, w1]
        refine ⟨k + 1, ?_, by omega⟩
        repeat' apply And.intro
        all_goals first | omega | rfl | exact hsucc | (rw [mdlA_eq]; done) | (rw [mdlA_eq, e0]; done)
      ·obtain rfl : k = m.parts.length := by omega
       rw [List.take_length] at hb
       rw [if_neg (by rw [hb]; decide)] at hr
       simp (maxSteps := 9^7) (disch := first | omega | simp only [LL]; omega) only [go_sem, g1, g5, e0, cp]
       refine W_loop X (fun (k : Nat) t => k ≤ m.ropes.length ∧ (m.ropes.take k).all (ropeOk m.parts.length) = true ∧ t.env 1 = .ptr 0 0 ∧ t.env 6 = .int .i64 k ∧ 8 ≤ t.next ∧ t.heap 0 = some (.cells (mdlA m) false false)) (fun k => m.ropes.length - k) ?_ 0 _ ?_
       ·clear hb g1 g5 hnx e0 hk
        rintro k ⟨env, heap, nx⟩ ⟨hk, hb, g1, g6, hnx, e0⟩
        simp only at g1 g6 hnx e0
        rw [mdlA_eq] at e0
        by_cases hlt : k < m.ropes.length
        ·have hg := List.getElem?_eq_getElem hlt
         have hd := cat_take (f := ropeA) hg
         have w1 := M_67 m.ropes[k] m.parts.length N (hm.rope _ (List.mem_of_getElem? hg)) hN (by omega)
         have hsucc := all_take_succ (ropeOk m.parts.length) hg
         have hmiss := fun h => all_miss (f := ropeOk m.parts.length) hg h
         generalize m.ropes[k] = q at *
         rw [ropeA_eq] at hd w1
         cases hB : ropeOk m.parts.length q with
         | false =>
          rw [if_pos (hmiss hB)] at hr
          rw [hB] at w1
          clear hmiss hsucc
          simp (maxSteps := 9^7) (disch := first | omega | simp only [LL]; omega) only [go_sem, g1, g6, e0, cr, hd, weaks_cat, weaks_ptC, w1]
          rw [hr]
         | true =>
          rw [hb, hB] at hsucc
          rw [hB] at w1
          clear hmiss
          simp (maxSteps := 9^7) (disch := first | omega | simp only [LL]; omega) only [go_sem, g1, g6, e0, cr, hd, weaks_cat, weaks_ptC, w1]
          refine ⟨k + 1, ?_, by omega⟩
          repeat' apply And.intro
          all_goals first | omega | rfl | exact hsucc | (rw [mdlA_eq]; done) | (rw [mdlA_eq, e0]; done)
        ·obtain rfl : k = m.ropes.length := by omega
         rw [List.take_length] at hb
         rw [if_neg (by rw [hb]; decide)] at hr
         simp (maxSteps := 9^7) (disch := first | omega | simp only [LL]; omega) only [go_sem, g1, g6, e0, cr]
         refine W_loop X (fun (k : Nat) t => k ≤ m.skip.length ∧ (List.range k).all (skipAt m.skip m.parts.length) = true ∧ t.env 1 = .ptr 0 0 ∧ t.env 7 = .int .i64 k ∧ 8 ≤ t.next ∧ t.heap 0 = some (.cells (mdlA m) false false)) (fun k => m.skip.length - k) ?_ 0 _ ?_
         ·clear hb g1 g6 hnx e0 hk
          rintro k ⟨env, heap, nx⟩ ⟨hk, hb, g1, g7, hnx, e0⟩
          simp only at g1 g7 hnx e0
          rw [mdlA_eq] at e0
          by_cases hlt : k < m.skip.length
          ·have hg := getD_some (l := m.skip) (i := k) hlt (0, 0)
           have hd := ptC_take m.skip k hlt
           obtain ⟨⟨x1, x2⟩, x3, x4⟩ := hm.skip _ (List.mem_of_getElem? hg)
           have hsk := allR_succ (skipAt m.skip m.parts.length) k
           have hmiss := fun h => allR_miss (P := skipAt m.skip m.parts.length) hlt h
           have hat : skipAt m.skip m.parts.length k = (skipFit m.parts.length (m.skip.getD k (0, 0)) && (decide (k = 0) || skipLess (m.skip.getD (k - 1) (0, 0)) (m.skip.getD k (0, 0)))) := rfl
           have hft : skipFit m.parts.length (m.skip.getD k (0, 0)) = (decide (0 ≤ (m.skip.getD k (0, 0)).1) && decide ((m.skip.getD k (0, 0)).1 < (m.skip.getD k (0, 0)).2) && decide ((m.skip.getD k (0, 0)).2 < m.parts.length)) := rfl
           have hls : skipLess (m.skip.getD (k - 1) (0, 0)) (m.skip.getD k (0, 0)) = !(decide ((m.skip.getD k (0, 0)).1 < (m.skip.getD (k - 1) (0, 0)).1) || (decide ((m.skip.getD (k - 1) (0, 0)).1 = (m.skip.getD k (0, 0)).1) && decide ((m.skip.getD k (0, 0)).2 ≤ (m.skip.getD (k - 1) (0, 0)).2))) := rfl
           rw [hb] at hsk
           by_cases d1 : (m.skip.getD k (0, 0)).1 < 0
           ·rw [decide_eq_false (show ¬ 0 ≤ (m.skip.getD k (0, 0)).1 by omega), Bool.false_and, Bool.false_and] at hft
            rw [hft, Bool.false_and] at hat
            rw [if_pos (hmiss hat)] at hr
            clear hmiss hat hft hls hsk hg
            generalize m.skip.getD k (0, 0) = x at *
            simp (maxSteps := 9^7) (disch := first | omega | simp only [LL]; omega) only [go_sem, g1, g7, e0, cs, hd]
            rw [hr]
           by_cases d2 : (m.skip.getD k (0, 0)).2 ≤ (m.skip.getD k (0, 0)).1
           ·rw [decide_eq_false (show ¬ (m.skip.getD k (0, 0)).1 < (m.skip.getD k (0, 0)).2 by omega), Bool.and_false, Bool.false_and] at hft
            rw [hft, Bool.false_and] at hat
            rw [if_pos (hmiss hat)] at hr
            clear hmiss hat hft hls hsk hg
            generalize m.skip.getD k (0, 0) = x at *
            simp (maxSteps := 9^7) (disch := first | omega | simp only [LL]; omega) only [go_sem, g1, g7, e0, cs, hd]
            rw [hr]
           by_cases d3 : (m.parts.length : Int) ≤ (m.skip.getD k (0, 0)).2
           ·rw [decide_eq_false (show ¬ (m.skip.getD k (0, 0)).2 < m.parts.length by omega), Bool.and_false] at hft
            rw [hft, Bool.false_and] at hat
            rw [if_pos (hmiss hat)] at hr
            clear hmiss hat hft hls hsk hg
            generalize m.skip.getD k (0, 0) = x at *
            simp (maxSteps := 9^7) (disch := first | omega | simp only [LL]; omega) only [go_sem, g1, g7, e0, cs, hd]
            rw [hr]
           rw [decide_eq_true (show 0 ≤ (m.skip.getD k (0, 0)).1 by omega), decide_eq_true (show (m.skip.getD k (0, 0)).1 < (m.skip.getD k (0, 0)).2 by omega), decide_eq_true (show (m.skip.getD k (0, 0)).2 < m.parts.length by omega), Bool.and_self, Bool.and_self] at hft
           rw [hft, Bool.true_and] at hat
           by_cases d4 : k = 0
           ·rw [decide_eq_true d4, Bool.true_or] at hat
            rw [hat] at hsk
            clear hmiss hat hft hls hg
            generalize m.skip.getD k (0, 0) = x at *
            simp (maxSteps := 9^7) (disch := first | omega | simp only [LL]; omega) only [go_sem, g1, g7, e0, cs, hd]
            refine ⟨k + 1, ?_, by omega⟩
            repeat' apply And.intro
            all_goals first | omega | rfl | exact hsk | (rw [mdlA_eq]; done)
           ·have hg2 := getD_some (l := m.skip) (i := k - 1) (by omega) (0, 0)
            have hd2 := ptC_take m.skip (k - 1) (by omega)
            have hk1 : ((k : Int) - 1).toNat = k - 1 := by omega
            obtain ⟨⟨y1, y2⟩, y3, y4⟩ := hm.skip _ (List.mem_of_getElem? hg2)
            rw [decide_eq_false d4, Bool.false_or] at hat
            rw [hat] at hmiss
            clear hg hg2 hft
            generalize m.skip.getD k (0, 0) = x at *
            generalize m.skip.getD (k - 1) (0, 0) = y at *
            by_cases e1 : x.1 < y.1
            ·rw [decide_eq_true e1, Bool.true_or] at hls
             rw [if_pos (hmiss hls)] at hr
             clear hmiss hat hls hsk
             simp (maxSteps := 9^7) (disch := first | omega | simp only [LL]; omega) only [go_sem, g1, g7, e0, cs, hd, hd2, hk1]
             rw [hr]
            by_cases e2 : y.1 = x.1
            ·by_cases e3 : x.2 ≤ y.2
             ·rw [decide_eq_true e2, decide_eq_true e3, Bool.and_self, Bool.or_true] at hls
              rw [if_pos (hmiss hls)] at hr
              clear hmiss hat hls hsk
              simp (maxSteps := 9^7) (disch := first | omega | simp only [LL]; omega) only [go_sem, g1, g7, e0, cs, hd, hd2, hk1]
              rw [hr]
             ·rw [decide_eq_false e1, decide_eq_false e3, Bool.and_false, Bool.or_false] at hls
              rw [hat, hls] at hsk
              clear hmiss hat hls
              simp (maxSteps := 9^7) (disch := first | omega | simp only [LL]; omega) only [go_sem, g1, g7, e0, cs, hd, hd2, hk1]
              refine ⟨k + 1, ?_, by omega⟩
              repeat' apply And.intro
              all_goals first | omega | rfl | exact hsk | (rw [mdlA_eq]; done)
            ·rw [decide_eq_false e1, decide_eq_false e2, Bool.false_and, Bool.or_false] at hls
             rw [hat, hls] at hsk
             clear hmiss hat hls
             simp (maxSteps := 9^7) (disch := first | omega | simp only [LL]; omega) only [go_sem, g1, g7, e0, cs, hd, hd2, hk1]
             refine ⟨k + 1, ?_, by omega⟩
             repeat' apply And.intro
             all_goals first | omega | rfl | exact hsk | (rw [mdlA_eq]; done)
          ·obtain rfl : k = m.skip.length := by omega
           rw [if_neg (by rw [hb]; decide)] at hr
           simp (maxSteps := 9^7) (disch := first | omega | simp only [LL]; omega) only [go_sem, g1, g7, e0, cs]
           rw [hr]
         ·simp (maxSteps := 9^7) (disch := first | omega | simp only [LL]; omega) only [go_sem, g1]
          repeat' apply And.intro
          all_goals first | omega | rfl | (rw [mdlA_eq]; done) | (rw [mdlA_eq, e0]; done)
       ·simp (maxSteps := 9^7) (disch := first | omega | simp only [LL]; omega) only [go_sem, g1]
        repeat' apply And.intro
        all_goals first | omega | rfl | (rw [mdlA_eq]; done) | (rw [mdlA_eq, e0]; done)
     ·simp (maxSteps := 9^7) (disch := first | omega | simp only [LL]; omega) only [go_sem, g1]
      repeat' apply And.intro
      all_goals first | omega | rfl | (rw [mdlA_eq]; done) | (rw [mdlA_eq, e0]; done)
   ·simp (maxSteps := 9^7) (disch := first | omega | simp only [LL]; omega) only [go_sem, g1]
    repeat' apply And.intro
    all_goals first | omega | rfl | (rw [mdlA_eq]; done) | (rw [mdlA_eq, e0]; done)
 ·simp (maxSteps := 9^7) (disch := first | omega | simp only [LL]; omega) only [go_sem]
  repeat' apply And.intro
  all_goals first | omega | rfl | (rw [mdlA_eq]; done)
theorem ind_dir [SpC] (l : List Dr) (d : Dr) (hl : l.length < 2 ^ 30) :
  ∃ z : Int, M X 194 [.ro (cat dirA l) l.length false, .agg [.int .i64 d.1, .int .i64 d.2.1, .int .i64 d.2.2]] = some (.int .i64 z) ∧ decide (0 ≤ z) = l.any fun e => decide (d = e) := by
 suffices h : ∃ r, (∃ z : Int, r = .int .i64 z ∧ decide (0 ≤ z) = l.any fun e => decide (d = e)) ∧ M X 194 [.ro (cat dirA l) l.length false, .agg [.int .i64 d.1, .int .i64 d.2.1, .int .i64 d.2.2]] = some r by
  obtain ⟨r, ⟨z, rfl, h1⟩, h2⟩ := h
  exact ⟨z, h2, h1⟩
 refine M_ex (fn := Tryz.f194) Tryz.func194 rfl ok_194 mode_194 res_194 _ rfl _ ?_
 have hl2 := cat_length (f := dirA) l
 simp (maxSteps := 9^7) (disch := first | omega | simp only [LL]; omega) only [go_sem, hl2]
 refine W_loop X (fun (k : Nat) s => k ≤ l.length ∧ (∀ j e, j < k → l[j]? = some e → decide (d = e) = false) ∧ s.env 0 = .ro (cat dirA l) l.length false ∧ s.env 3 = .ptr 0 0 ∧ s.env 7 = .int .i64 l.length ∧ s.env 8 = .int .i64 k ∧ 8 ≤ s.next ∧ s.heap 0 = some (.cells [.int .i64 d.1, .int .i64 d.2.1, .int .i64 d.2.2] false false)) (fun k => l.length - k) ?_ 0 _ ?_
 ·rintro k ⟨env, heap, nx⟩ ⟨hk, hj, g0, g3, g7, g8, hnx, e0⟩
  simp only at g0 g3 g7 g8 hnx e0
  by_cases h1 : k < l.length
  ·have hn := List.getElem?_eq_getElem h1
   have hd := cat_take (f := dirA) hn
   rw [dirA_eq] at hd
   have hmem : l[k] ∈ l := List.getElem_mem h1
   have hxy := dir_eq d l[k]
   cases h2 : decide (d = l[k]) with
   | true =>
    rw [h2] at hxy
    have hany : (l.any fun e => decide (d = e)) = true := List.any_eq_true.2 ⟨_, hmem, h2⟩
    generalize l[k] = e at *
    simp (maxSteps := 9^7) (disch := first | omega | simp only [LL]; omega) only [go_sem, hl2, hd, g0, g3, g7, g8, e0, hxy]
    exact ⟨_, rfl, by rw [hany]; exact decide_eq_true (by omega)⟩
   | false =>
    rw [h2] at hxy
    have hj' : ∀ j e, j < k + 1 → l[j]? = some e → decide (d = e) = false := by
     intro j e h3 h4
     rcases Nat.lt_or_ge j k with h5 | h5
     ·exact hj j e h5 h4
     ·obtain rfl : j = k := by omega
      rw [hn] at h4; cases h4; exact h2
    clear hj
    generalize l[k] = e at *
    simp (maxSteps := 9^7) (disch := first | omega | simp only [LL]; omega) only [go_sem, hl2, hd, g0, g3, g7, g8, e0, hxy]
    refine ⟨k + 1, ?_, by omega⟩
    refine ⟨by omega, hj', ?_⟩
    repeat' apply And.intro
    all_goals first | omega | rfl
  ·have hany : (l.any fun e => decide (d = e)) = false := by
    rw [List.any_eq_false]
    intro e he
    obtain ⟨j, h3, rfl⟩ := List.getElem_of_mem he
    have := hj j _ (by omega) (List.getElem?_eq_getElem h3)
    rw [this]; simp
   clear hj
   simp (maxSteps := 9^7) (disch := first | omega | simp only [LL]; omega) only [go_sem, hl2, g0, g3, g7, g8, e0]
   exact ⟨_, rfl, by rw [hany]; rfl⟩
 ·simp (maxSteps := 9^7) (disch := first | omega | simp only [LL]; omega) only [go_sem]
  exact fun j e h => absurd h (Nat.not_lt_zero j)
theorem has_dir [SpC] (l : List Dr) (d : Dr) (hl : l.length < 2 ^ 30) : M X 130 [.ro (cat dirA l) l.length false, .agg [.int .i64 d.1, .int .i64 d.2.1, .int .i64 d.2.2]] = some (.bool (l.any fun e => decide (d = e))) := by
 refine M_of X (fn := Tryz.f130) Tryz.func130 rfl ok_130 mode_130 res_130 _ rfl _ ?_
 intro r hr
 obtain ⟨z, h1, h2⟩ := ind_dir l d hl
 have hl2 := cat_length (f := dirA) l
 simp (maxSteps := 9^7) (disch := first | omega | simp only [LL]; omega) only [go_sem, hl2, weaks_cat, h1]
 rw [hr, h2]
theorem any_take (l : List Dr) (i : Nat) (hi : i ≤ l.length) (d : Dr) : ((l.take i).any fun e => decide (d = e)) = !(List.range i).all fun k => !decide (l.getD k (0, 0, 0) = d) := by
 induction i with
 | zero => rfl
 | succ i ih =>
  have hg := getD_some (l := l) (i := i) (by omega) (0, 0, 0)
  rw [any_take_succ _ hg, ih (by omega), allR_succ]
  have : decide (d = l.getD i (0, 0, 0)) = decide (l.getD i (0, 0, 0) = d) := by
   by_cases h : d = l.getD i (0, 0, 0)
   ·rw [decide_eq_true h, decide_eq_true h.symm]
   ·rw [decide_eq_false h, decide_eq_false fun h' => h h'.symm]
  rw [this]
  cases decide (l.getD i (0, 0, 0) = d) <;> cases (List.range i).all fun k => !decide (l.getD k (0, 0, 0) = d) <;> rfl
theorem M_63 [SpC] (q : RopeR) (n : Int) (N : Nat) (hq : RopeB q N) (hN : N < 2 ^ 18) (hn : 0 ≤ n ∧ n < 2 ^ 30) : M X 63 [.agg (ropeA q), .int .i64 n] = some (.bool (ropeOk n q)) := by
 refine M_of X (fn := Tryz.f63) Tryz.func63 rfl ok_63 mode_63 res_63 _ rfl _ ?_
 intro r hr
 obtain ⟨i1, i2, i3, i4, i5, ⟨a1, a2⟩, ⟨b1, b2⟩, hdl, hdd⟩ := hq
 have hcl := cat_length (f := dirA) q.dirs
 have s1 := M_69 (x := q.len)
 have hro : ropeOk n q = (endsOk n q && dirsOk q.dirs) := rfl
 have heo : endsOk n q = (decide (0 ≤ q.a) && decide (q.a < n) && decide (-1 ≤ q.b) && decide (q.b < n) && decide (q.a ≠ q.b) && decide (0 < q.dirs.length) && decide (q.dirs.length ≤ 8) && decide (0 ≤ cmpQ q.len 0)) := rfl
 generalize cmpQ q.len 0 = u at *
 rw [hro] at hr
 unfold dirsOk at hr
 simp (maxSteps := 9^7) (disch := first | omega | simp only [LL]; omega) only [go_sem, ropeA_eq, hcl]
 refine W_loop X (fun (i : Nat) t => i ≤ q.dirs.length ∧ (List.range i).all (dirOk q.dirs) = true ∧ t.env 1 = .int .i64 n ∧ t.env 2 = .ptr 0 0 ∧ t.env 8 = .ro (cat dirA q.dirs) q.dirs.length false ∧ t.env 9 = .int .i64 q.dirs.length ∧ t.env 10 = .int .i64 i ∧ 8 ≤ t.next ∧ t.heap 0 = some (.cells (ropeA q) false false)) (fun i => q.dirs.length - i) ?_ 0 _ ?_
 ·rintro i ⟨env, heap, nx⟩ ⟨hi, hall2, g1, g2, g8, g9, g10, hnx, e0⟩
  simp only at g1 g2 g8 g9 g10 hnx e0
  rw [ropeA_eq] at e0
  by_cases hlt : i < q.dirs.length
  ·have hg := getD_some (l := q.dirs) (i := i) hlt (0, 0, 0)
   have hdi := cat_take (f := dirA) hg
   have htk := cat_takel (f := dirA) q.dirs i
   have htl : (q.dirs.take i).length = i := by rw [List.length_take]; omega
   have hno := nor_mod _ (hdd _ (List.mem_of_getElem? hg))
   have hha := has_dir (q.dirs.take i) (q.dirs.getD i (0, 0, 0)) (by omega)
   rw [any_take q.dirs i (by omega), htl] at hha
   have hdo : dirOk q.dirs i = (norB (q.dirs.getD i (0, 0, 0)) && (List.range i).all fun k => !decide (q.dirs.getD k (0, 0, 0) = q.dirs.getD i (0, 0, 0))) := rfl
   have hsk := allR_succ (dirOk q.dirs) i
   rw [dirA_eq] at hdi
   cases hnb : norB (q.dirs.getD i (0, 0, 0)) with
   | false =>
    rw [hnb, Bool.false_and] at hdo
    rw [hnb] at hno
    rw [allR_miss hlt hdo, Bool.and_false] at hr
    simp (maxSteps := 9^7) (disch := first | omega | simp only [LL]; omega) only [go_sem, g1, g2, g8, g9, g10, e0, hcl, hdi, hno]
    rw [hr]
   | true =>
    rw [hnb, Bool.true_and] at hdo
    rw [hnb] at hno
    cases hc : (List.range i).all fun k => !decide (q.dirs.getD k (0, 0, 0) = q.dirs.getD i (0, 0, 0)) with
    | false =>
     rw [hc] at hdo hha
     rw [allR_miss hlt hdo, Bool.and_false] at hr
     simp (maxSteps := 9^7) (disch := first | omega | simp only [LL]; omega) only [go_sem, g1, g2, g8, g9, g10, e0, hcl, hdi, hno, htk, hha, weaks_cat]
     rw [hr]
    | true =>
     rw [hc] at hdo hha
     rw [hall2, hdo] at hsk
     simp (maxSteps := 9^7) (disch := first | omega | simp only [LL]; omega) only [go_sem, g1, g2, g8, g9, g10, e0, hcl, hdi, hno, htk, hha, weaks_cat]
     refine ⟨i + 1, ?_, by omega⟩
     repeat' apply And.intro
     all_goals first | omega | rfl | exact hsk | (rw [ropeA_eq]; done)
  ·obtain rfl : i = q.dirs.length := by omega
   rw [hall2, Bool.and_true, heo] at hr
   clear hro heo
   by_cases c1 : 0 ≤ q.a
   ·by_cases c2 : q.a < n
    ·by_cases c3 : -1 ≤ q.b
     ·by_cases c4 : q.b < n
      ·by_cases c5 : q.a = q.b
       ·simp (maxSteps := 9^7) (disch := first | omega | simp only [LL]; omega) only [go_sem, g1, g2, g8, g9, g10, e0, hcl, s1]
        rw [hr]; simp [c5]
       ·by_cases c6 : 0 < q.dirs.length
        ·by_cases c7 : q.dirs.length ≤ 8
         ·simp (maxSteps := 9^7) (disch := first | omega | simp only [LL]; omega) only [go_sem, g1, g2, g8, g9, g10, e0, hcl, s1]
          rw [hr]; simp [c1, c2, c3, c4, c5, c6, c7]
         ·simp (maxSteps := 9^7) (disch := first | omega | simp only [LL]; omega) only [go_sem, g1, g2, g8, g9, g10, e0, hcl, s1]
          rw [hr]; simp [c7]
        ·simp (maxSteps := 9^7) (disch := first | omega | simp only [LL]; omega) only [go_sem, g1, g2, g8, g9, g10, e0, hcl, s1]
         rw [hr]; simp [c6]
      ·simp (maxSteps := 9^7) (disch := first | omega | simp only [LL]; omega) only [go_sem, g1, g2, g8, g9, g10, e0, hcl, s1]
       rw [hr]; simp [c4]
     ·simp (maxSteps := 9^7) (disch := first | omega | simp only [LL]; omega) only [go_sem, g1, g2, g8, g9, g10, e0, hcl, s1]
      rw [hr]; simp [c3]
    ·simp (maxSteps := 9^7) (disch := first | omega | simp only [LL]; omega) only [go_sem, g1, g2, g8, g9, g10, e0, hcl, s1]
     rw [hr]; simp [c2]
   ·simp (maxSteps := 9^7) (disch := first | omega | simp only [LL]; omega) only [go_sem, g1, g2, g8, g9, g10, e0, hcl, s1]
    rw [hr]; simp [c1]
 ·simp (maxSteps := 9^7) (disch := first | omega | simp only [LL]; omega) only [go_sem]
  repeat' apply And.intro
  all_goals first | omega | rfl | (rw [ropeA_eq]; done)
theorem M_62 [SpC] (m : MdlR) (hm : m.parts.length < 2 ^ 20) (q : RopeR) (N : Nat) (hq : RopeB q N) (hN : N < 2 ^ 18) : M X 62 [.agg (ropeA q), .rptr (mdlA m)] = some (.bool (!ropeOk m.parts.length q)) := by
 refine M_of X (fn := Tryz.f62) Tryz.func62 rfl ok_62 mode_62 res_62 _ rfl _ ?_
 intro r hr
 have w := M_63 q m.parts.length N hq hN (by omega)
 have hpl := cat_length (f := partA) m.parts
 have hdl := cat_length (f := dirA) q.dirs
 rw [ropeA_eq] at w
 simp (maxSteps := 9^7) (disch := first | omega | simp only [LL]; omega) only [go_sem, ropeA_eq, mdlA_eq, hpl, hdl, weaks_cat, weaks_ptC, w]
 rw [hr]
theorem cmp_skip (y x : Pt) : decide (0 ≤ lexL [y.1, y.2] [x.1, x.2]) = !skipLess y x := by
 unfold skipLess lexL lexL lexL
 rw [Bool.not_not]
 by_cases h1 : y.1 < x.1
 ·rw [if_pos h1, decide_eq_false (show ¬ x.1 < y.1 by omega), decide_eq_false (show ¬ y.1 = x.1 by omega)]; rfl
 ·rw [if_neg h1]
  by_cases h2 : x.1 < y.1
  ·rw [if_pos h2, decide_eq_true h2]; rfl
  ·rw [if_neg h2, decide_eq_false h2, decide_eq_true (show y.1 = x.1 by omega)]
   by_cases h3 : y.2 < x.2
   ·rw [if_pos h3, decide_eq_false (show ¬ x.2 ≤ y.2 by omega)]; rfl
   ·rw [if_neg h3, decide_eq_true (show x.2 ≤ y.2 by omega)]
    split <;> rfl
theorem nums_ok (m : MdlR) : ((numsV m).all Nm.ok && m.dofs.all dofOk) = m.dofs.all dofV := by
 have h1 : (m.parts.flatMap partN).all Nm.ok = true := by
  rw [List.all_eq_true]
  intro n hn
  obtain ⟨p, _, hp⟩ := List.mem_flatMap.1 hn
  unfold partN at hp
  rcases List.mem_append.1 hp with hp | hp
  ·simp only [parN, List.mem_cons, List.not_mem_nil, or_false] at hp
   rcases hp with rfl | rfl | rfl | rfl <;> exact ok_ofQ _
  ·obtain ⟨c, _, hc⟩ := List.mem_flatMap.1 hp
   simp only [colN, List.mem_cons, List.not_mem_nil, or_false] at hc
   rcases hc with rfl | rfl | rfl <;> exact ok_ofQ _
 have h2 : (m.ropes.flatMap ropN).all Nm.ok = true := by
  rw [List.all_eq_true]
  intro n hn
  obtain ⟨q, _, hp⟩ := List.mem_flatMap.1 hn
  simp only [ropN, List.mem_cons, List.not_mem_nil, or_false] at hp
  rcases hp with rfl | rfl | rfl | rfl | rfl <;> exact ok_ofQ _
 unfold numsV
 rw [List.all_append, List.all_append, h1, h2, Bool.and_true, Bool.and_true]
 induction m.dofs with
 | nil => rfl
 | cons d l ih =>
  have hd : (dofN d).all Nm.ok = d.load.ok := by simp only [dofN, List.all_cons, List.all_nil, ok_ofQ, Bool.true_and, Bool.and_true]
  rw [List.flatMap_cons, List.all_append, List.all_cons, List.all_cons, ← ih, hd]
  unfold dofV
  cases d.load.ok <;> cases dofOk d <;> cases (l.flatMap dofN).all Nm.ok <;> rfl
theorem any_not {α : Type} (f : α → Bool) (l : List α) : (l.any fun x => !f x) = !l.all f := by
 induction l with
 | nil => rfl
 | cons x l ih => rw [List.any_cons, List.all_cons, ih]; cases f x <;> rfl
theorem M_10 [SpC] (m : MdlR) (N : Nat) (hm : MdlB m N) (hN : N < 2 ^ 18) : M X 10 [.agg (mdlA m)] = some (.int .i64 (validE m)) := by
 refine M_of X (fn := Tryz.f10) Tryz.func10 rfl ok_10 mode_10 res_10 _ rfl _ ?_
 intro r hr
 have h1 := hm.dl
 have h2 := hm.pl
 have h3 := hm.rl
 have h4 := hm.sl
 have cd := cat_length (f := dofA) m.dofs
 have cp := cat_length (f := partA) m.parts
 have cr := cat_length (f := ropeA) m.ropes
 have cs := ptC_length m.skip
 unfold validE at hr
 by_cases c1 : 12 < m.dofs.length
 ·rw [if_pos (.inl c1)] at hr
  simp (maxSteps := 9^7) (disch := first | omega | simp only [LL]; omega) only [go_sem, mdlA_eq]
  rw [hr]
 by_cases c2 : 12 < m.parts.length
 ·rw [if_pos (.inr (.inl c2))] at hr
  simp (maxSteps := 9^7) (disch := first | omega | simp only [LL]; omega) only [go_sem, mdlA_eq]
  rw [hr]
 by_cases c3 : 4 < m.ropes.length
 ·rw [if_pos (.inr (.inr (.inl c3)))] at hr
  simp (maxSteps := 9^7) (disch := first | omega | simp only [LL]; omega) only [go_sem, mdlA_eq]
  rw [hr]
 by_cases c4 : 16 < m.skip.length
 ·rw [if_pos (.inr (.inr (.inr c4)))] at hr
  simp (maxSteps := 9^7) (disch := first | omega | simp only [LL]; omega) only [go_sem, mdlA_eq]
  rw [hr]
 rw [if_neg (by omega)] at hr
 have k1 := con_part0 53 mode_53 colsMany m.parts (fun p hp => by have := hm.cols p hp; exact M_53 p) (by omega) false
 cases a1 : m.parts.any colsMany with
 | true =>
  rw [if_pos a1] at hr
  rw [a1] at k1
  simp (maxSteps := 9^7) (disch := first | omega | simp only [LL]; omega) only [go_sem, mdlA_eq, cp, weaks_cat, k1]
  rw [hr]
 | false =>
 rw [if_neg (by rw [a1]; decide)] at hr
 rw [a1] at k1
 have hc3 : ∀ p ∈ m.parts, p.cols.length ≤ 3 := fun p hp => by
  have := List.any_eq_false.1 a1 p hp
  unfold colsMany at this
  simp only [decide_eq_true_eq] at this
  omega
 have nu := M_55 m (by omega) (by omega) (by omega) (fun p hp => by have := hc3 p hp; omega)
 have hnl : (numsV m).length < 2 ^ 30 := by
  have h1 := flat_len dofN 4 m.dofs (fun x _ => Nat.le_refl _)
  have h3 := flat_len ropN 5 m.ropes (fun x _ => Nat.le_refl _)
  have h2 := flat_len partN 16 m.parts (fun x hx => by
   have h1 := hc3 x hx
   have h2 := flat_len colN 3 x.cols (fun _ _ => Nat.le_refl _)
   unfold partN
   rw [List.length_append]
   have h3 : (parN x).length = 4 := rfl
   omega)
  unfold numsV
  rw [List.length_append, List.length_append]
  omega
 have hnb : ∀ n ∈ numsV m, nmB n := by
  intro n hn
  unfold numsV at hn
  rcases List.mem_append.1 hn with hn | hn
  ·rcases List.mem_append.1 hn with hn | hn
   ·obtain ⟨d, hd, hn⟩ := List.mem_flatMap.1 hn
    obtain ⟨i1, i2, i3, i4⟩ := hm.dof d hd
    simp only [dofN, List.mem_cons, List.not_mem_nil, or_false] at hn
    rcases hn with rfl | rfl | rfl | rfl
    ·exact nmB_ofQ i1 (by omega)
    ·exact i2
    ·exact nmB_ofQ i3 (by omega)
    ·exact nmB_ofQ i4 (by omega)
   ·obtain ⟨p, hp, hn⟩ := List.mem_flatMap.1 hn
    obtain ⟨i1, i2, i3, i4, _, i6⟩ := hm.part p hp
    unfold partN at hn
    rcases List.mem_append.1 hn with hn | hn
    ·simp only [parN, List.mem_cons, List.not_mem_nil, or_false] at hn
     rcases hn with rfl | rfl | rfl | rfl
     ·exact nmB_ofQ i1 (by omega)
     ·exact nmB_ofQ i2 (by omega)
     ·exact nmB_ofQ i3 (by omega)
     ·exact nmB_ofQ i4 (by omega)
    ·obtain ⟨c, hc, hn⟩ := List.mem_flatMap.1 hn
     obtain ⟨_, j1, j2, j3⟩ := i6 c hc
     simp only [colN, List.mem_cons, List.not_mem_nil, or_false] at hn
     rcases hn with rfl | rfl | rfl
     ·exact nmB_ofQ j1 (by omega)
     ·exact nmB_ofQ j2 (by omega)
     ·exact nmB_ofQ j3 (by omega)
  ·obtain ⟨q, hq, hn⟩ := List.mem_flatMap.1 hn
   obtain ⟨i1, i2, i3, i4, i5, _⟩ := hm.rope q hq
   simp only [ropN, List.mem_cons, List.not_mem_nil, or_false] at hn
   rcases hn with rfl | rfl | rfl | rfl | rfl
   ·exact nmB_ofQ i1 (by omega)
   ·exact nmB_ofQ i2 (by omega)
   ·exact nmB_ofQ i3 (by omega)
   ·exact nmB_ofQ i4 (by omega)
   ·exact nmB_ofQ i5 (by omega)
 have ca := M_54 (numsV m) hnl hnb
 have cn := cat_length (f := nmA) (numsV m)
 have k2 := con_dof 57 mode_57 (fun d => !dofOk d) m.dofs (fun d hd => by
  obtain ⟨_, _, i1, i2⟩ := hm.dof d hd
  exact M_57 d (by omega)) (by omega) false
 rw [any_not] at k2
 have hno := nums_ok m
 have wm : AV.weak.go (mdlA m) = mdlA m := weaks_all (fun c hc => by
  rw [mdlA_eq] at hc
  simp only [List.mem_cons, List.not_mem_nil, or_false] at hc
  rcases hc with rfl | rfl | rfl | rfl <;> simp only [weak_ro, weaks_cat, weaks_ptC])
 have k3 := con_part1 59 mode_59 (mdlA m) wm (fun p => !partV m.dofs.length p) m.parts (fun p hp => by
   obtain ⟨_, _, i1, i2, i3, i4⟩ := hm.part p hp
   obtain ⟨s1, s2⟩ := hm.shp p hp
   exact M_59 m (by omega) p (vldW p.shape) (by omega) (fun c hc => (i4 c hc).1) (by omega) (pvalid_pt p.shape s1 (by omega))) (by omega) false
 rw [any_not] at k3
 have k4 := con_rope1 62 mode_62 (mdlA m) wm (fun q => !ropeOk m.parts.length q) m.ropes (fun q hq => M_62 m (by omega) q N (hm.rope q hq) hN) (by omega) false
 rw [any_not] at k4
 rw [mdlA_eq] at nu k3 k4
 rw [← hno] at hr
 cases b1 : (numsV m).all Nm.ok with
 | false =>
  rw [b1, Bool.false_and, if_pos rfl] at hr
  rw [b1] at ca
  simp (maxSteps := 9^7) (disch := first | omega | simp only [LL]; omega) only [go_sem, mdlA_eq, cd, cp, cn, cr, cs, weaks_cat, weaks_ptC, weak_rptr, nu, ca, k1, k2]
  rw [hr]
 | true =>
 rw [b1, Bool.true_and] at hr
 rw [b1] at ca
 cases b2 : m.dofs.all dofOk with
 | false =>
  rw [b2, if_pos rfl] at hr
  rw [b2] at k2
  simp (maxSteps := 9^7) (disch := first | omega | simp only [LL]; omega) only [go_sem, mdlA_eq, cd, cp, cn, cr, cs, weaks_cat, weaks_ptC, weak_rptr, nu, ca, k1, k2]
  rw [hr]
 | true =>
 rw [b2, if_neg (by decide)] at hr
 rw [b2] at k2
 cases b3 : m.parts.all (partV m.dofs.length) with
 | false =>
  rw [b3, if_pos rfl] at hr
  rw [b3] at k3
  simp (maxSteps := 9^7) (disch := first | omega | simp only [LL]; omega) only [go_sem, mdlA_eq, cd, cp, cn, cr, cs, weaks_cat, weaks_ptC, weak_rptr, nu, ca, k1, k2, k3]
  rw [hr]
 | true =>
 rw [b3, if_neg (by decide)] at hr
 rw [b3] at k3
 cases b4 : m.ropes.all (ropeOk m.parts.length) with
 | false =>
  rw [b4, if_pos rfl] at hr
  rw [b4] at k4
  simp (maxSteps := 9^7) (disch := first | omega | simp only [LL]; omega) only [go_sem, mdlA_eq, cd, cp, cn, cr, cs, weaks_cat, weaks_ptC, weak_rptr, nu, ca, k1, k2, k3, k4]
  rw [hr]
 | true =>
 rw [b4, if_neg (by decide)] at hr
 rw [b4] at k4
 simp (maxSteps := 9^7) (disch := first | omega | simp only [LL]; omega) only [go_sem, mdlA_eq, cd, cp, cn, cr, cs, weaks_cat, weaks_ptC, weak_rptr, nu, ca, k1, k2, k3, k4]
 clear nu ca k1 k2 k3 k4
 refine W_loop X (fun (k : Nat) t => k ≤ m.skip.length ∧ (List.range k).all (skipAt m.skip m.parts.length) = true ∧ t.env 1 = .ptr 0 0 ∧ t.env 52 = .ro (ptC m.skip) m.skip.length false ∧ t.env 53 = .int .i64 m.skip.length ∧ t.env 54 = .int .i64 k ∧ 8 ≤ t.next ∧ t.heap 0 = some (.cells (mdlA m) false false)) (fun k => m.skip.length - k) ?_ 0 _ ?_
 ·rintro k ⟨env, heap, nx⟩ ⟨hk, hb, g1, g52, g53, g54, hnx, e0⟩
  simp only at g1 g52 g53 g54 hnx e0
  rw [mdlA_eq] at e0
  by_cases hlt : k < m.skip.length
  ·have hg := getD_some (l := m.skip) (i := k) hlt (0, 0)
   have hd := ptC_take m.skip k hlt
   obtain ⟨⟨x1, x2⟩, x3, x4⟩ := hm.skip _ (List.mem_of_getElem? hg)
   have hsk := allR_succ (skipAt m.skip m.parts.length) k
   have hmiss := fun h => allR_miss (P := skipAt m.skip m.parts.length) hlt h
   have hat : skipAt m.skip m.parts.length k = (skipFit m.parts.length (m.skip.getD k (0, 0)) && (decide (k = 0) || skipLess (m.skip.getD (k - 1) (0, 0)) (m.skip.getD k (0, 0)))) := rfl
   have hft : skipFit m.parts.length (m.skip.getD k (0, 0)) = (decide (0 ≤ (m.skip.getD k (0, 0)).1) && decide ((m.skip.getD k (0, 0)).1 < (m.skip.getD k (0, 0)).2) && decide ((m.skip.getD k (0, 0)).2 < m.parts.length)) := rfl
   rw [hb] at hsk
   by_cases d1 : (m.skip.getD k (0, 0)).1 < 0
   ·rw [decide_eq_false (show ¬ 0 ≤ (m.skip.getD k (0, 0)).1 by omega), Bool.false_and, Bool.false_and] at hft
    rw [hft, Bool.false_and] at hat
    rw [if_pos (hmiss hat)] at hr
    clear hmiss hat hft hsk hg
    generalize m.skip.getD k (0, 0) = x at *
    simp (maxSteps := 9^7) (disch := first | omega | simp only [LL]; omega) only [go_sem, g1, g52, g53, g54, e0, cs, hd]
    rw [hr]
   by_cases d2 : (m.skip.getD k (0, 0)).2 ≤ (m.skip.getD k (0, 0)).1
   ·rw [decide_eq_false (show ¬ (m.skip.getD k (0, 0)).1 < (m.skip.getD k (0, 0)).2 by omega), Bool.and_false, Bool.false_and] at hft
    rw [hft, Bool.false_and] at hat
    rw [if_pos (hmiss hat)] at hr
    clear hmiss hat hft hsk hg
    generalize m.skip.getD k (0, 0) = x at *
    simp (maxSteps := 9^7) (disch := first | omega | simp only [LL]; omega) only [go_sem, g1, g52, g53, g54, e0, cs, hd]
    rw [hr]
   by_cases d3 : (m.parts.length : Int) ≤ (m.skip.getD k (0, 0)).2
   ·rw [decide_eq_false (show ¬ (m.skip.getD k (0, 0)).2 < m.parts.length by omega), Bool.and_false] at hft
    rw [hft, Bool.false_and] at hat
    rw [if_pos (hmiss hat)] at hr
    clear hmiss hat hft hsk hg
    generalize m.skip.getD k (0, 0) = x at *
    simp (maxSteps := 9^7) (disch := first | omega | simp only [LL]; omega) only [go_sem, g1, g52, g53, g54, e0, cs, hd]
    rw [hr]
   rw [decide_eq_true (show 0 ≤ (m.skip.getD k (0, 0)).1 by omega), decide_eq_true (show (m.skip.getD k (0, 0)).1 < (m.skip.getD k (0, 0)).2 by omega), decide_eq_true (show (m.skip.getD k (0, 0)).2 < m.parts.length by omega), Bool.and_self, Bool.and_self] at hft
   rw [hft, Bool.true_and] at hat
   by_cases d4 : k = 0
   ·rw [decide_eq_true d4, Bool.true_or] at hat
    rw [hat] at hsk
    clear hmiss hat hft hg
    generalize m.skip.getD k (0, 0) = x at *
    simp (maxSteps := 9^7) (disch := first | omega | simp only [LL]; omega) only [go_sem, g1, g52, g53, g54, e0, cs, hd]
    refine ⟨k + 1, ?_, by omega⟩
    repeat' apply And.intro
    all_goals first | omega | rfl | exact hsk | (rw [mdlA_eq]; done)
   ·have hg2 := getD_some (l := m.skip) (i := k - 1) (by omega) (0, 0)
    have hd2 := ptC_drop m.skip (k - 1) (by omega)
    have hk1 : ((k : Int) - 1).toNat = k - 1 := by omega
    obtain ⟨⟨y1, y2⟩, y3, y4⟩ := hm.skip _ (List.mem_of_getElem? hg2)
    have cc := M_64 [(m.skip.getD (k - 1) (0, 0)).1, (m.skip.getD (k - 1) (0, 0)).2] [(m.skip.getD k (0, 0)).1, (m.skip.getD k (0, 0)).2] (by simp) (by simp)
    have cl := cmp_skip (m.skip.getD (k - 1) (0, 0)) (m.skip.getD k (0, 0))
    have i2 : ∀ x y : Int, isl [x, y] = .ro [.int .i64 x, .int .i64 y] 2 false := fun _ _ => rfl
    rw [i2, i2] at cc
    rw [decide_eq_false d4, Bool.false_or] at hat
    clear hg hg2 hft
    generalize lexL [(m.skip.getD (k - 1) (0, 0)).1, (m.skip.getD (k - 1) (0, 0)).2] [(m.skip.getD k (0, 0)).1, (m.skip.getD k (0, 0)).2] = z at *
    cases hsl : skipLess (m.skip.getD (k - 1) (0, 0)) (m.skip.getD k (0, 0)) with
    | false =>
     rw [hsl] at hat cl
     have hz : 0 ≤ z := of_decide_eq_true cl
     rw [if_pos (hmiss hat)] at hr
     clear hmiss hat hsk hsl cl
     generalize m.skip.getD k (0, 0) = x at *
     generalize m.skip.getD (k - 1) (0, 0) = y at *
     simp (maxSteps := 9^7) (disch := first | omega | simp only [LL]; omega) only [go_sem, g1, g52, g53, g54, e0, cs, hd, hd2, hk1, cc]
     rw [hr]
    | true =>
     rw [hsl] at hat cl
     have hz : ¬ 0 ≤ z := of_decide_eq_false cl
     rw [hat] at hsk
     clear hmiss hat hsl cl
     generalize m.skip.getD k (0, 0) = x at *
     generalize m.skip.getD (k - 1) (0, 0) = y at *
     simp (maxSteps := 9^7) (disch := first | omega | simp only [LL]; omega) only [go_sem, g1, g52, g53, g54, e0, cs, hd, hd2, hk1, cc]
     refine ⟨k + 1, ?_, by omega⟩
     repeat' apply And.intro
     all_goals first | omega | rfl | exact hsk | (rw [mdlA_eq]; done)
  ·obtain rfl : k = m.skip.length := by omega
   rw [if_neg (by rw [hb]; decide)] at hr
   simp (maxSteps := 9^7) (disch := first | omega | simp only [LL]; omega) only [go_sem, g1, g52, g53, g54, e0, cs]
   rw [hr]
 ·simp (maxSteps := 9^7) (disch := first | omega | simp only [LL]; omega) only [go_sem]
  repeat' apply And.intro
  all_goals first | omega | rfl | (rw [mdlA_eq]; done)
def okwk (k : Nat) (p : Pt) : Prop := (-2097152 - 8 * (k : Int) ≤ p.1 ∧ p.1 ≤ 2097152 + 8 * (k : Int)) ∧ (-2097152 - 8 * (k : Int) ≤ p.2 ∧ p.2 ≤ 2097152 + 8 * (k : Int))
theorem okwk.mono {k k' : Nat} {p : Pt} (h : okwk k p) (hk : k ≤ k') : okwk k' p := by
 unfold okwk at *
 omega
theorem okwk.okw {k : Nat} {p : Pt} (h : okwk k p) (hk : k ≤ 1000) : okw p := by
 unfold okwk at h
 unfold Abs.okw
 omega
theorem getD_mem {α : Type} {l : List α} {i : Nat} (h : i < l.length) (d : α) : l.getD i d ∈ l := List.mem_of_getElem? (getD_some (l := l) h d)
theorem mem_set' {α : Type} {l : List α} {i : Nat} {a x : α} (h : x ∈ l.set i a) : x ∈ l ∨ x = a := List.mem_or_eq_of_mem_set h
theorem revK_mem (l : List Pt) : ∀ i, i ≤ l.length / 2 → ∀ q ∈ revK l i, q ∈ l
 | 0, _, _, h => h
 | i + 1, hi, q, h => by
  have hl := revK_len l i
  unfold revK at h
  have hg : ∀ j, j < l.length → (revK l i).getD j (0, 0) ∈ l := fun j hj => revK_mem l i (by omega) _ (getD_mem (by omega) _)
  rcases mem_set' h with h | rfl
  ·rcases mem_set' h with h | rfl
   ·exact revK_mem l i (by omega) q h
   ·exact hg _ (by omega)
  ·exact hg _ (by omega)
theorem bigZ_bd (by0 : Int) : -2097152 ≤ bigZ by0 ∧ bigZ by0 ≤ 2097152 := by
 have h := tmod_bd by0
 have b := arnd_bd by0 4 (by decide)
 unfold bigZ
 generalize arnd by0 4 = w at *
 rcases (by omega : w = 0 ∨ w = 1 ∨ w = 2 ∨ w = 3) with rfl | rfl | rfl | rfl
 ·show -2097152 ≤ (1048577 : Int) ∧ (1048577 : Int) ≤ 2097152; omega
 ·show -2097152 ≤ (-1048577 : Int) ∧ (-1048577 : Int) ≤ 2097152; omega
 ·show -2097152 ≤ (1048576 : Int) ∧ (1048576 : Int) ≤ 2097152; omega
 ·show -2097152 ≤ by0.tmod 2097152 ∧ by0.tmod 2097152 ≤ 2097152; omega
theorem bentP_bd (l : List Pt) (at0 how by0 : Int) (h0 : 0 < l.length) {k : Nat} (h : ∀ q ∈ l, okwk k q) : (∀ q ∈ bentP l at0 how by0, okwk (k + 1) q) ∧ l.length ≤ (bentP l at0 how by0).length + 1 ∧ (bentP l at0 how by0).length ≤ l.length + 1 := by
 have b1 := arnd_bd at0 (l.length : Int) (by omega)
 have b2 := arnd_bd by0 9 (by decide)
 have b3 := bigZ_bd by0
 have hp := h _ (getD_mem (l := l) (i := (arnd at0 (l.length : Int)).toNat) (by omega) (0, 0))
 have h' : ∀ q ∈ l, okwk (k + 1) q := fun q hq => (h q hq).mono (by omega)
 unfold bentP
 dsimp only
 generalize l.getD (arnd at0 (l.length : Int)).toNat (0, 0) = p at *
 generalize arnd at0 (l.length : Int) = i at *
 have hset : ∀ p' : Pt, okwk (k + 1) p' → (∀ q ∈ l.set i.toNat p', okwk (k + 1) q) ∧ l.length ≤ (l.set i.toNat p').length + 1 ∧ (l.set i.toNat p').length ≤ l.length + 1 := fun p' hp' => by
  rw [List.length_set]
  refine ⟨fun q hq => ?_, by omega, by omega⟩
  rcases mem_set' hq with hq | rfl
  ·exact h' q hq
  ·exact hp'
 split
 ·refine hset _ ?_
  unfold okwk at *
  dsimp only
  omega
 split
 ·refine hset _ ?_
  unfold okwk at *
  dsimp only
  omega
 split
 ·refine ⟨fun q hq => ?_, ?_, ?_⟩
  ·rcases List.mem_append.1 hq with hq | hq
   ·exact h' q (List.mem_of_mem_take hq)
   ·exact h' q (List.mem_of_mem_drop hq)
  ·rw [List.length_append, List.length_take, List.length_drop]; omega
  ·rw [List.length_append, List.length_take, List.length_drop]; omega
 split
 ·refine ⟨fun q hq => ?_, by simp; omega, by simp⟩
  rcases List.mem_append.1 hq with hq | hq
  ·exact h' q hq
  ·simp only [List.mem_cons, List.not_mem_nil, or_false] at hq
   subst hq
   exact hp.mono (by omega)
 split
 ·exact ⟨fun q hq => h' q (revK_mem l _ (Nat.le_refl _) q hq), by rw [revK_len]; omega, by rw [revK_len]; omega⟩
 ·refine hset _ ?_
  unfold okwk at *
  dsimp only
  omega
structure PartK (p : PartR) (k : Nat) : Prop where
 hx : RS p.hx (1 + 2 * k)
 hy : RS p.hy 1
 ro : RS p.ro 1
 bo : RS p.bo 1
 cl : p.cols.length ≤ 3 + k
 cols : ∀ c ∈ p.cols, ok64 c.dof ∧ RS c.x 1 ∧ RS c.y 1 ∧ RS c.s 1
 shp : ∀ q ∈ p.shape, okwk k q
 sl : 3 ≤ p.shape.length + k
 sl2 : p.shape.length ≤ 5 + k
structure BenB (m : MdlR) (k : Nat) : Prop where
 dl : 0 < m.dofs.length ∧ m.dofs.length ≤ 10 + 13 * k
 pl : 1 < m.parts.length ∧ m.parts.length ≤ 6
 rl : m.ropes.length ≤ 1 + k
 sl : m.skip.length ≤ 1 + k
 dof : ∀ d ∈ m.dofs, DofB d 1
 part : ∀ p ∈ m.parts, PartK p k
 cne : ∀ (i : Nat) p, 1 ≤ i → m.parts[i]? = some p → 0 < p.cols.length
 rope : ∀ r ∈ m.ropes, RopeB r 2
 skip : ∀ x ∈ m.skip, (0 ≤ x.1 ∧ x.1 ≤ 3) ∧ (0 ≤ x.2 ∧ x.2 ≤ 3)
theorem DofB.mono {d : DofR} {n n' : Nat} (h : DofB d n) (hn : n ≤ n') : DofB d n' := ⟨h.inv.mono hn, h.load, h.lo.mono hn, h.hi.mono hn⟩
theorem RopeB.mono {r : RopeR} {n n' : Nat} (h : RopeB r n) (hn : n ≤ n') : RopeB r n' := ⟨h.fx.mono hn, h.fy.mono hn, h.tx.mono hn, h.ty.mono hn, h.len.mono hn, h.a, h.b, h.dl, h.dirs⟩
theorem BenB.mdlB {m : MdlR} {k : Nat} (h : BenB m k) (hk : k ≤ 2) : MdlB m 8 where
 dl := by have := h.dl; omega
 pl := by have := h.pl; omega
 rl := by have := h.rl; omega
 sl := by have := h.sl; omega
 dof := fun d hd => (h.dof d hd).mono (by omega)
 part := fun p hp => by
  have q := h.part p hp
  exact ⟨q.hx.mono (by omega), q.hy.mono (by omega), q.ro.mono (by omega), q.bo.mono (by omega), by have := q.cl; omega, fun c hc => by
   obtain ⟨a, b, c', d⟩ := q.cols c hc
   exact ⟨a, b.mono (by omega), c'.mono (by omega), d.mono (by omega)⟩⟩
 cols := fun p hp => by have := (h.part p hp).cl; omega
 shp := fun p hp => ⟨fun q hq => ((h.part p hp).shp q hq).okw (by omega), by have := (h.part p hp).sl2; omega⟩
 rope := fun r hr => (h.rope r hr).mono (by omega)
 skip := fun x hx => by have := h.skip x hx; omega
theorem numM_rs (by0 : Int) : RS (numM by0) 1 := by
 have b := arnd_bd by0 9 (by decide)
 exact rs_small (by omega) (by decide)
theorem PartK.up {p : PartR} {k : Nat} (h : PartK p k) : PartK p (k + 1) := ⟨h.hx.mono (by omega), h.hy, h.ro, h.bo, by have := h.cl; omega, h.cols, fun q hq => (h.shp q hq).mono (by omega), by have := h.sl; omega, by have := h.sl2; omega⟩
theorem bentPart_k {p : PartR} {k : Nat} (h : PartK p k) (hk : k ≤ 2) (h0 : 0 < p.cols.length) (at0 how by0 : Int) : PartK (bentPart p at0 how by0) (k + 1) ∧ 0 < (bentPart p at0 how by0).cols.length := by
 have n := numM_rs by0
 have b5 := arnd_bd by0 8 (by decide)
 have o : RS (Rat.divInt 1 1) 1 := rs_small (by decide) (by decide)
 have z : RS (0 : Rat) 1 := rs_zero
 have u := h.up
 unfold bentPart
 split
 ·obtain ⟨a, b, c⟩ := bentP_bd p.shape at0 how by0 (by have := h.sl; omega) h.shp
  have h1 := h.sl
  have h2 := h.sl2
  exact ⟨⟨u.hx, u.hy, u.ro, u.bo, u.cl, u.cols, a, by dsimp only; omega, by dsimp only; omega⟩, h0⟩
 split
 ·refine ⟨⟨u.hx, u.hy, u.ro, u.bo, by have := h.cl; show p.cols.length + 1 ≤ 3 + (k + 1); omega, fun c hc => ?_, u.shp, u.sl, u.sl2⟩, by simp⟩
  rcases List.mem_cons.1 hc with rfl | hc
  ·exact ⟨by unfold ok64; dsimp only; omega, o, z, z⟩
  ·exact u.cols c hc
 split
 ·exact ⟨⟨u.hx, u.hy, n, u.bo, u.cl, u.cols, u.shp, u.sl, u.sl2⟩, h0⟩
 split
 ·exact ⟨⟨u.hx, u.hy, u.ro, n, u.cl, u.cols, u.shp, u.sl, u.sl2⟩, h0⟩
 split
 ·refine ⟨⟨u.hx, u.hy, u.ro, u.bo, by rw [List.length_set]; exact u.cl, fun c hc => ?_, u.shp, u.sl, u.sl2⟩, by rw [List.length_set]; exact h0⟩
  rcases mem_set' hc with hc | rfl
  ·exact u.cols c hc
  ·exact ⟨(u.cols _ (getD_mem h0 col0)).1, z, z, z⟩
 split
 ·have hx := h.hx
  have : RS (p.hx + numM by0) (1 + 2 * k + 1 + 1) := inferInstance
  exact ⟨⟨this.mono (by omega), u.hy, u.ro, u.bo, u.cl, u.cols, u.shp, u.sl, u.sl2⟩, h0⟩
 ·exact ⟨u, h0⟩
theorem bentDofs_k {l : List DofR} (h : ∀ d ∈ l, DofB d 1) (h0 : 0 < l.length) (at0 how by0 : Int) : (∀ d ∈ bentDofs l at0 how by0, DofB d 1) ∧ 0 < (bentDofs l at0 how by0).length ∧ (bentDofs l at0 how by0).length ≤ l.length + 13 := by
 have n := numM_rs by0
 have b1 := arnd_bd at0 (l.length : Int) (by omega)
 have b2 := arnd_bd by0 14 (by decide)
 have b4 := arnd_bd by0 4 (by decide)
 have o : RS (Rat.divInt 1 1) 1 := rs_small (by decide) (by decide)
 have z : RS (0 : Rat) 1 := rs_zero
 have hx := h _ (getD_mem (l := l) (i := (arnd at0 (l.length : Int)).toNat) (by omega) dofZ)
 unfold bentDofs
 dsimp only
 generalize l.getD (arnd at0 (l.length : Int)).toNat dofZ = x at *
 have hset : ∀ x' : DofR, DofB x' 1 → (∀ q ∈ l.set (arnd at0 (l.length : Int)).toNat x', DofB q 1) ∧ 0 < (l.set (arnd at0 (l.length : Int)).toNat x').length ∧ (l.set (arnd at0 (l.length : Int)).toNat x').length ≤ l.length + 13 := fun x' hx' => by
  rw [List.length_set]
  refine ⟨fun q hq => ?_, by omega, by omega⟩
  rcases mem_set' hq with hq | rfl
  ·exact h q hq
  ·exact hx'
 split
 ·exact hset _ ⟨n, hx.load, hx.lo, hx.hi⟩
 split
 ·exact hset _ ⟨hx.inv, hx.load, n, hx.hi⟩
 split
 ·exact hset _ ⟨hx.inv, hx.load, hx.lo, hx.hi⟩
 split
 ·refine ⟨fun q hq => ?_, by rw [List.length_append]; omega, by rw [List.length_append, List.length_replicate]; omega⟩
  rcases List.mem_append.1 hq with hq | hq
  ·exact h q hq
  ·have := List.eq_of_mem_replicate hq
   subst this
   exact ⟨o, nmB_ofQ z (by decide), z, z⟩
 split
 ·refine hset _ ⟨hx.inv, ?_, hx.lo, hx.hi⟩
  dsimp only
  have ndl : ∀ z : Int, 0 ≤ z ∧ z < 1000 → nd z < 2 ^ 20 := fun z hz => by
   have h1 : nd z ≤ 1 := nd_lit (by simp only [Bn]; omega)
   omega
  generalize arnd by0 4 = w at *
  rcases (by omega : w = 0 ∨ w = 1 ∨ w = 2 ∨ w = 3) with rfl | rfl | rfl | rfl
  ·exact trivial
  ·exact ⟨ndl 1 (by omega), ndl 2 (by omega)⟩
  ·exact ⟨ndl 2 (by omega), ndl 2 (by omega)⟩
  ·exact ⟨ndl 3 (by omega), ndl 2 (by omega)⟩
 ·exact ⟨h, h0, by omega⟩
theorem bentRope_b (at0 by0 : Int) : RopeB (bentRope at0 by0) 2 := by
 have b4 := arnd_bd by0 4 (by decide)
 have b5 := arnd_bd by0 5 (by decide)
 have b2 := arnd_bd at0 2 (by decide)
 have z : RS (0 : Rat) 2 := rs_zero.mono (by decide)
 have o : RS (Rat.divInt 50 1) 2 := RS.mono (n := 1) (rs_small (by decide) (by decide)) (by decide)
 have tm2 : by0.tmod 2 = -1 ∨ by0.tmod 2 = 0 ∨ by0.tmod 2 = 1 := by
  rcases Int.le_total 0 by0 with h | h
  ·have := Int.tmod_lt_of_pos by0 (show (0 : Int) < 2 by decide)
   have := Int.tmod_nonneg 2 h
   omega
  ·have e : by0.tmod 2 = -((-by0).tmod 2) := by rw [Int.neg_tmod, Int.neg_neg]
   have := Int.tmod_lt_of_pos (-by0) (show (0 : Int) < 2 by decide)
   have := Int.tmod_nonneg 2 (show 0 ≤ -by0 by omega)
   omega
 have hd : ∀ d ∈ ([(1, 0, 1), (3 + by0.tmod 2, 4, 5)] : List Dr), d ∈ dirsG := fun d hd => by
  rcases tm2 with e | e | e <;> (rw [e] at hd; simp at hd; unfold dirsG; rcases hd with rfl | rfl <;> simp)
 refine ⟨z, z, z, z, o, ?_, ?_, ?_, fun d h => hd d (List.mem_of_mem_take h)⟩
 ·show -1000 ≤ arnd by0 4 - 1 ∧ arnd by0 4 - 1 ≤ 1000; omega
 ·show -1000 ≤ arnd by0 5 - 2 ∧ arnd by0 5 - 2 ≤ 1000; omega
 ·show (List.take _ _).length < 2 ^ 10
  rw [List.length_take]
  exact Nat.lt_of_le_of_lt (Nat.min_le_right _ _) (by show 2 < 2 ^ 10; omega)
theorem bentM_k {m : MdlR} {k : Nat} (h : BenB m k) (hk : k ≤ 1) (at0 how by0 : Int) : BenB (bentM m at0 how by0) (k + 1) := by
 have b1 := arnd_bd at0 ((m.parts.length : Int) - 1) (by have := h.pl; omega)
 have hkp : (1 + arnd at0 ((m.parts.length : Int) - 1)).toNat < m.parts.length := by omega
 have gp := getD_some (l := m.parts) hkp part0
 obtain ⟨d1, d2, d3⟩ := bentDofs_k h.dof h.dl.1 at0 how by0
 have hpn := h.cne _ _ (by omega) gp
 obtain ⟨p1, p2⟩ := bentPart_k (h.part _ (List.mem_of_getElem? gp)) (by omega) hpn at0 how by0
 have b3 := arnd_bd at0 3 (by decide)
 have b4 := arnd_bd by0 4 (by decide)
 have hd := h.dl
 have hr := h.rl
 have hs := h.sl
 unfold bentM
 dsimp only
 generalize m.parts.getD (1 + arnd at0 ((m.parts.length : Int) - 1)).toNat part0 = p at *
 refine ⟨⟨d2, by dsimp only; omega⟩, by dsimp only; rw [List.length_set]; exact h.pl, ?_, ?_, d1, fun q hq => ?_, fun i q hi hq => ?_, fun r hr => ?_, fun x hx => ?_⟩
 ·dsimp only; split
  ·rw [List.length_append]; simp; omega
  ·omega
 ·dsimp only; split
  ·rw [List.length_append]; simp; omega
  ·omega
 ·rcases mem_set' hq with hq | rfl
  ·exact (h.part q hq).up
  ·exact p1
 ·dsimp only at hq
  by_cases e : (1 + arnd at0 ((m.parts.length : Int) - 1)).toNat = i
  ·subst e
   rw [List.getElem?_set_self hkp] at hq
   cases hq
   exact p2
  ·rw [List.getElem?_set_ne e] at hq
   exact h.cne i q hi hq
 ·dsimp only at hr
  split at hr
  ·rcases List.mem_append.1 hr with hr | hr
   ·exact h.rope r hr
   ·simp only [List.mem_cons, List.not_mem_nil, or_false] at hr
    subst hr
    exact bentRope_b at0 by0
  ·exact h.rope r hr
 ·dsimp only at hx
  split at hx
  ·rcases List.mem_append.1 hx with hx | hx
   ·exact h.skip x hx
   ·simp only [List.mem_cons, List.not_mem_nil, or_false] at hx
    subst hx
    dsimp only
    omega
  ·exact h.skip x hx
def mxY (k : Int) : Int := if k = 0 then 2 else if k = 1 then 2 else if k = 2 then 3 else if k = 3 then 4 else if k = 4 then 4 else 1
theorem mxY_hgt (k : Int) (h : 0 < hgt k) : mxY k = hgt k := by
 unfold mxY hgt at *
 repeat' split
 all_goals simp_all
def apartP (p q : PartR) : Prop := (sidesR p.shape q.shape).any (opens (q.hx - p.hx) (q.hy - p.hy)) = true
structure BlkAt (p : PartR) (k x y : Int) : Prop where
 sh : p.shape = shp k
 hx : p.hx = Rat.divInt x 1
 hy : p.hy = Rat.divInt y 1
 kb : 0 ≤ k ∧ k < 6
 yb : 0 ≤ y ∧ y ≤ 8
 xb : x = -8 ∨ x = 2 ∨ x = 12 ∨ x = 22 ∨ x = 32
structure IsG (p : PartR) : Prop where
 sh : p.shape = groundP
 hx : p.hx = 0
 hy : p.hy = 0
 cols : p.cols = []
def six : List Int := [0, 1, 2, 3, 4, 5]
theorem six_mem {k : Int} (h : 0 ≤ k ∧ k < 6) : k ∈ six := by
 have : k = 0 ∨ k = 1 ∨ k = 2 ∨ k = 3 ∨ k = 4 ∨ k = 5 := by omega
 unfold six
 rcases this with rfl | rfl | rfl | rfl | rfl | rfl <;> simp
def openXY (es : List Ed) (x y : Int) : Bool := es.any (opens (Rat.divInt x 1) (Rat.divInt y 1))
def chkX (a b dx : Int) : Bool := (List.range 17).all fun y => openXY (sidesR (shp a) (shp b)) dx ((y : Int) - 8)
def chkY (a b : Int) : Bool := (List.range 9).all fun y => !decide (mxY a ≤ (y : Int)) || openXY (sidesR (shp a) (shp b)) 0 (y : Int)
def chkG (b x : Int) : Bool := (List.range 9).all fun y => openXY (sidesR groundP (shp b)) x (y : Int)
theorem chkX10 : (six.all fun a => six.all fun b => chkX a b 10) = true := by kernel_rfl
theorem chkX20 : (six.all fun a => six.all fun b => chkX a b 20) = true := by kernel_rfl
theorem chkX30 : (six.all fun a => six.all fun b => chkX a b 30) = true := by kernel_rfl
theorem chkX40 : (six.all fun a => six.all fun b => chkX a b 40) = true := by kernel_rfl
theorem chkYs : (six.all fun a => six.all fun b => chkY a b) = true := by kernel_rfl
theorem chkGs : (six.all fun b => [-8, 2, 12, 22, 32].all fun x => chkG b x) = true := by kernel_rfl
theorem openX {a b dx dy : Int} (ha : 0 ≤ a ∧ a < 6) (hb : 0 ≤ b ∧ b < 6) (hx : dx = 10 ∨ dx = 20 ∨ dx = 30 ∨ dx = 40) (hy : -8 ≤ dy ∧ dy ≤ 8) : openXY (sidesR (shp a) (shp b)) dx dy = true := by
 have h : chkX a b dx = true := by
  rcases hx with rfl | rfl | rfl | rfl
  ·exact List.all_eq_true.1 (List.all_eq_true.1 chkX10 a (six_mem ha)) b (six_mem hb)
  ·exact List.all_eq_true.1 (List.all_eq_true.1 chkX20 a (six_mem ha)) b (six_mem hb)
  ·exact List.all_eq_true.1 (List.all_eq_true.1 chkX30 a (six_mem ha)) b (six_mem hb)
  ·exact List.all_eq_true.1 (List.all_eq_true.1 chkX40 a (six_mem ha)) b (six_mem hb)
 have := List.all_eq_true.1 h (dy + 8).toNat (by simp; omega)
 rwa [show (((dy + 8).toNat : Nat) : Int) - 8 = dy by omega] at this
theorem openY {a b dy : Int} (ha : 0 ≤ a ∧ a < 6) (hb : 0 ≤ b ∧ b < 6) (hy : mxY a ≤ dy ∧ 0 ≤ dy ∧ dy ≤ 8) : openXY (sidesR (shp a) (shp b)) 0 dy = true := by
 have h : chkY a b = true := List.all_eq_true.1 (List.all_eq_true.1 chkYs a (six_mem ha)) b (six_mem hb)
 have := List.all_eq_true.1 h dy.toNat (by simp; omega)
 rw [show ((dy.toNat : Nat) : Int) = dy by omega] at this
 simpa [hy.1] using this
theorem openG {b x y : Int} (hb : 0 ≤ b ∧ b < 6) (hx : x = -8 ∨ x = 2 ∨ x = 12 ∨ x = 22 ∨ x = 32) (hy : 0 ≤ y ∧ y ≤ 8) : openXY (sidesR groundP (shp b)) x y = true := by
 have h : chkG b x = true := List.all_eq_true.1 (List.all_eq_true.1 chkGs b (six_mem hb)) x (by simp; omega)
 have := List.all_eq_true.1 h y.toNat (by simp; omega)
 rwa [show ((y.toNat : Nat) : Int) = y by omega] at this
theorem divInt_sub1 (a b : Int) : Rat.divInt a 1 - Rat.divInt b 1 = Rat.divInt (a - b) 1 := by
 rw [Rat.divInt_sub_divInt _ _ (by decide) (by decide)]
 simp only [Int.mul_one]
theorem divInt_add1 (a b : Int) : Rat.divInt a 1 + Rat.divInt b 1 = Rat.divInt (a + b) 1 := by
 rw [Rat.divInt_add_divInt _ _ (by decide) (by decide)]
 simp only [Int.mul_one]
theorem rat_zero1 : (0 : Rat) = Rat.divInt 0 1 := by rfl
theorem apart_gnd {p q : PartR} (hp : IsG p) {k x y : Int} (hq : BlkAt q k x y) : apartP p q := by
 unfold apartP
 rw [hp.sh, hq.sh, hp.hx, hp.hy, hq.hx, hq.hy, rat_zero1, divInt_sub1, divInt_sub1]
 have := openG hq.kb hq.xb hq.yb
 rwa [← Int.sub_zero x, ← Int.sub_zero y] at this
theorem apart_blk {p q : PartR} {k1 x1 y1 k2 x2 y2 : Int} (hp : BlkAt p k1 x1 y1) (hq : BlkAt q k2 x2 y2) (h : x1 < x2 ∨ (x1 = x2 ∧ y1 + mxY k1 ≤ y2)) : apartP p q := by
 unfold apartP
 rw [hp.sh, hq.sh, hp.hx, hp.hy, hq.hx, hq.hy, divInt_sub1, divInt_sub1]
 have y1b := hp.yb
 have y2b := hq.yb
 rcases h with h | ⟨rfl, h⟩
 ·exact openX hp.kb hq.kb (by have := hp.xb; have := hq.xb; omega) (by omega)
 ·rw [Int.sub_self]
  have hm : 0 ≤ mxY k1 := by
   unfold mxY
   repeat' split
   all_goals decide
  exact openY hp.kb hq.kb ⟨by omega, by omega, by omega⟩
structure GInv (g : GenS) (j : Nat) : Prop where
 jb : j ≤ 3
 ro : g.m.ropes = []
 sk : g.m.skip = []
 d1 : 2 * j ≤ g.m.dofs.length
 d2 : g.m.dofs.length ≤ 3 * j
 x : g.x = -18 ∨ g.x = -8 ∨ g.x = 2 ∨ g.x = 12
 xj : g.x ≤ -18 + 10 * (j : Int)
 top : 0 ≤ g.top ∧ g.top ≤ 4 + 2 * (j : Int)
 top0 : 0 < g.top → -8 ≤ g.x
 dof : ∀ d ∈ g.m.dofs, d.bd = false ∧ d.lo = 0 ∧ d.hi = 0
 pt : ∃ g0 bs, g.m.parts = g0 :: bs ∧ IsG g0 ∧ bs.length = j ∧ ∀ p ∈ bs, ∃ k x y, BlkAt p k x y ∧ x ≤ g.x ∧ (x = g.x → 0 < g.top → y + mxY k ≤ g.top)
 cols : ∀ p ∈ g.m.parts, okCols g.m.dofs.length 1 p.cols
 ap : g.m.parts.Pairwise apartP
theorem okCols.mono {n n' N : Nat} {l : List ColR} (h : okCols n N l) (hn : n ≤ n') : okCols n' N l := ⟨h.1, fun c hc => by
 obtain ⟨⟨a, b⟩, c⟩ := h.2 c hc
 exact ⟨⟨a, by omega⟩, c⟩⟩
theorem gen0_inv (l : List Int) : GInv (gen0 l) 0 where
 jb := by omega
 ro := rfl
 sk := rfl
 d1 := by simp [gen0]
 d2 := by simp [gen0]
 x := .inl rfl
 xj := by simp [gen0]
 top := by simp [gen0]
 top0 := by simp [gen0]
 dof := by intro d hd; cases hd
 pt := ⟨_, [], rfl, ⟨rfl, rfl, rfl, rfl⟩, rfl, by intro p hp; cases hp⟩
 cols := by
  intro p hp
  simp only [gen0, List.mem_cons, List.not_mem_nil, or_false] at hp
  subst hp
  exact ⟨by simp, by intro c hc; cases hc⟩
 ap := List.pairwise_singleton _ _
def newCols (D : Nat) (w : Bool) : List ColR := [⟨D, Rat.divInt 1 1, 0, 0⟩, ⟨D + 1, 0, Rat.divInt 1 1, 0⟩] ++ (if w then [⟨D + 2, 0, 0, Rat.divInt 1 1⟩] else [])
theorem newCols_ok (D : Nat) (w : Bool) : okCols (D + (if w = true then 3 else 2)) 1 (newCols D w) := by
 have o : RS (Rat.divInt 1 1) 1 := rs_small (by decide) (by decide)
 have z : RS (0 : Rat) 1 := rs_zero
 refine ⟨by cases w <;> simp [newCols], fun c hc => ?_⟩
 cases w with
 | true =>
  simp only [newCols, if_true, List.cons_append, List.nil_append, List.mem_cons, List.not_mem_nil, or_false] at hc ⊢
  rcases hc with rfl | rfl | rfl
  ·exact ⟨⟨by dsimp only; omega, by dsimp only; omega⟩, o, z, z⟩
  ·exact ⟨⟨by dsimp only; omega, by dsimp only; omega⟩, z, o, z⟩
  ·exact ⟨⟨by dsimp only; omega, by dsimp only; omega⟩, z, z, o⟩
 | false =>
  simp only [newCols, Bool.false_eq_true, if_false, List.append_nil, List.mem_cons, List.not_mem_nil, or_false] at hc ⊢
  rcases hc with rfl | rfl
  ·exact ⟨⟨by dsimp only; omega, by dsimp only; omega⟩, o, z, z⟩
  ·exact ⟨⟨by dsimp only; omega, by dsimp only; omega⟩, z, o, z⟩
theorem block_inv {m : MdlR} {j : Nat} {x y top x' y' n k : Int} {w : Bool} (h : GInv ⟨m, x, y, top⟩ j) (hj : j < 3) (hk : 0 ≤ k ∧ k < 6)
  (hxy : (x' = x ∧ y' = top ∧ 0 < top) ∨ (x' = x + 10 ∧ 0 ≤ y' ∧ y' ≤ 4)) : GInv ⟨blockV m (shp k) x' y' n w, x', y', if 0 < hgt k then y' + hgt k else 0⟩ (j + 1) := by
 obtain ⟨_, ro, sk, d1, d2, hx, hxj, htop, htop0, hdof, ⟨g0, bs, e1, e2, e3, e4⟩, hcols, hap⟩ := h
 simp only at ro sk d1 d2 hx hxj htop htop0 hdof e1 e4 hcols hap
 obtain ⟨l1, l2, l3, l4⟩ := blockV_len m (shp k) x' y' n w
 have hyb : 0 ≤ y' ∧ y' ≤ 8 := by omega
 have hxb : x' = -8 ∨ x' = 2 ∨ x' = 12 := by omega
 let q : PartR := ⟨shp k, Rat.divInt x' 1, Rat.divInt y' 1, newCols m.dofs.length w, Rat.divInt (n / 9 % 4) 2, Rat.divInt (n / 36 % 3) 2⟩
 have hq : BlkAt q k x' y' := ⟨rfl, rfl, rfl, hk, hyb, by omega⟩
 have hparts : (blockV m (shp k) x' y' n w).parts = m.parts ++ [q] := rfl
 have hlen : (blockV m (shp k) x' y' n w).dofs.length = m.dofs.length + (if w = true then 3 else 2) := l1
 have hw : 2 ≤ (if w = true then 3 else 2 : Nat) ∧ (if w = true then 3 else 2 : Nat) ≤ 3 := by cases w <;> simp
 have hg := hgt_bd k
 refine ⟨by omega, ?_, ?_, ?_, ?_, ?_, ?_, ?_, ?_, ?_, ?_, ?_, ?_⟩
 ·exact ro
 ·exact sk
 ·show 2 * (j + 1) ≤ (blockV m (shp k) x' y' n w).dofs.length; omega
 ·show (blockV m (shp k) x' y' n w).dofs.length ≤ 3 * (j + 1); omega
 ·show x' = -18 ∨ x' = -8 ∨ x' = 2 ∨ x' = 12; omega
 ·show x' ≤ -18 + 10 * ((j + 1 : Nat) : Int); omega
 ·show 0 ≤ (if 0 < hgt k then y' + hgt k else 0) ∧ (if 0 < hgt k then y' + hgt k else 0) ≤ 4 + 2 * ((j + 1 : Nat) : Int)
  split <;> omega
 ·show _ → -8 ≤ x'; omega
 ·intro d hd
  simp only [blockV, List.mem_append, List.mem_cons, List.not_mem_nil, or_false] at hd
  rcases hd with (hd | rfl | rfl) | hd
  ·exact hdof d hd
  ·exact ⟨rfl, rfl, rfl⟩
  ·exact ⟨rfl, rfl, rfl⟩
  ·cases w with
   | true =>
    simp only [if_true, List.mem_cons, List.not_mem_nil, or_false] at hd
    subst hd
    exact ⟨rfl, rfl, rfl⟩
   | false => simp at hd
 ·refine ⟨g0, bs ++ [q], by rw [hparts, e1]; rfl, e2, by simp [e3], fun p hp => ?_⟩
  rcases List.mem_append.1 hp with hp | hp
  ·obtain ⟨k1, x1, y1, b1, b2, b3⟩ := e4 p hp
   refine ⟨k1, x1, y1, b1, by dsimp only; omega, fun hxx ht => ?_⟩
   dsimp only at hxx ht ⊢
   rcases hxy with ⟨hxy, hy2, h0⟩ | hxy
   ·have := b3 (by omega) h0
    split at ht
    ·rename_i hh; rw [if_pos hh]; omega
    ·omega
   ·omega
  ·simp only [List.mem_cons, List.not_mem_nil, or_false] at hp
   subst hp
   refine ⟨k, x', y', hq, Int.le_refl _, fun _ ht => ?_⟩
   dsimp only at ht ⊢
   split at ht
   ·rename_i hh; rw [if_pos hh, mxY_hgt k hh]; omega
   ·omega
 ·intro p hp
  dsimp only at hp ⊢
  rw [hparts] at hp
  rw [hlen]
  rcases List.mem_append.1 hp with hp | hp
  ·exact (hcols p hp).mono (by omega)
  ·simp only [List.mem_cons, List.not_mem_nil, or_false] at hp
   subst hp
   exact newCols_ok _ _
 ·show (blockV m (shp k) x' y' n w).parts.Pairwise apartP
  rw [hparts]
  refine List.pairwise_append.2 ⟨hap, List.pairwise_singleton _ _, fun p hp q' hq' => ?_⟩
  simp only [List.mem_cons, List.not_mem_nil, or_false] at hq'
  subst hq'
  rw [e1] at hp
  rcases List.mem_cons.1 hp with rfl | hp
  ·exact apart_gnd e2 hq
  ·obtain ⟨k1, x1, y1, b1, b2, b3⟩ := e4 p hp
   refine apart_blk b1 hq ?_
   rcases hxy with ⟨rfl, rfl, h0⟩ | hxy
   ·by_cases hxx : x1 = x'
    ·exact .inr ⟨hxx, b3 hxx h0⟩
    ·left; omega
   ·left; omega
theorem step_inv {g : GenS} {j : Nat} (h : GInv g j) (hj : j < 3) {n how : Int} (hn : 0 ≤ n) : GInv (stepV g n how) (j + 1) := by
 have hk := arnd_bd n 6 (by decide)
 obtain ⟨m, x, y, top⟩ := g
 have h4 := Int.emod_nonneg n (show (4 : Int) ≠ 0 by decide)
 have h5 := Int.emod_lt_of_pos n (show (0 : Int) < 4 by decide)
 unfold stepV
 refine block_inv h hj hk ?_
 dsimp only
 by_cases hs : 0 < top ∧ how < 3
 ·rw [if_pos hs, if_pos hs]; exact .inl ⟨rfl, rfl, hs.1⟩
 ·rw [if_neg hs, if_neg hs]
  right
  refine ⟨rfl, ?_⟩
  split <;> omega
theorem go_inv (l : List Int) : ∀ (k i : Nat) (g : GenS) (j : Nat), GInv g j → j + k ≤ 3 → ∃ j', j ≤ j' ∧ (0 < k → j = 0 → 1 ≤ j') ∧ GInv (genGo l k i g) j'
 | 0, _, g, j, h, _ => ⟨j, Nat.le_refl _, by omega, h⟩
 | k + 1, i, g, j, h, hj => by
  unfold genGo
  have b := atN_bd l (4 + 2 * i) 432 (by decide)
  by_cases hd : g.m.dofs.length < 5
  ·rw [if_pos hd]
   obtain ⟨j', h1, _, h2⟩ := go_inv l k (i + 1) _ (j + 1) (step_inv (how := atN l (5 + 2 * i) 7) h (by omega) b.1) (by omega)
   exact ⟨j', by omega, by omega, h2⟩
  ·rw [if_neg hd]
   exact ⟨j, Nat.le_refl _, fun _ h0 => by have := h.d2; omega, h⟩
theorem genV_inv (l : List Int) : ∃ j, 1 ≤ j ∧ GInv (genV l) j := by
 have b := atN_bd l 2 3 (by decide)
 obtain ⟨j, _, h1, h2⟩ := go_inv l (1 + atN l 2 3).toNat 0 (gen0 l) 0 (gen0_inv l) (by omega)
 exact ⟨j, h1 (by omega) rfl, h2⟩
structure Pre (m : MdlR) : Prop where
 dl : 2 ≤ m.dofs.length ∧ m.dofs.length ≤ 10
 pl : 2 ≤ m.parts.length ∧ m.parts.length ≤ 6
 hd : ∃ g0 p1 ps, m.parts = g0 :: p1 :: ps ∧ IsG g0 ∧ ∃ k x y, BlkAt p1 k x y
 shp : ∀ p ∈ m.parts, p.shape ∈ shpM
 hxy : ∀ p ∈ m.parts, RS p.hx 1 ∧ RS p.hy 1
 cols : ∀ p ∈ m.parts, okCols m.dofs.length 1 p.cols
 dof : ∀ d ∈ m.dofs, (RS d.lo 1 ∧ RS d.hi 1) ∧ (d.bd = true → d.lo ≤ 0 ∧ 0 ≤ d.hi)
 ap : m.parts.Pairwise apartP
theorem blk_facts {p : PartR} {k x y : Int} (h : BlkAt p k x y) : p.shape ∈ shpM ∧ RS p.hx 1 ∧ RS p.hy 1 := by
 have hx := h.xb
 have hy := h.yb
 refine ⟨by rw [h.sh]; exact shp_mem h.kb, by rw [h.hx]; exact rs_small (by omega) (by decide), by rw [h.hy]; exact rs_small (by omega) (by decide)⟩
theorem gnd_facts {p : PartR} (h : IsG p) : p.shape ∈ shpM ∧ RS p.hx 1 ∧ RS p.hy 1 := by
 refine ⟨by rw [h.sh]; simp [shpM], by rw [h.hx]; exact rs_zero, by rw [h.hy]; exact rs_zero⟩
theorem inv_facts {g : GenS} {j : Nat} (h : GInv g j) : ∀ p ∈ g.m.parts, p.shape ∈ shpM ∧ RS p.hx 1 ∧ RS p.hy 1 := by
 obtain ⟨g0, bs, e1, e2, e3, e4⟩ := h.pt
 intro p hp
 rw [e1] at hp
 rcases List.mem_cons.1 hp with rfl | hp
 ·exact gnd_facts e2
 ·obtain ⟨k, x, y, b, _⟩ := e4 p hp
  exact blk_facts b
theorem inv_hd {g : GenS} {j : Nat} (h : GInv g j) (hj : 1 ≤ j) : ∃ g0 p1 ps, g.m.parts = g0 :: p1 :: ps ∧ IsG g0 ∧ ∃ k x y, BlkAt p1 k x y := by
 obtain ⟨g0, bs, e1, e2, e3, e4⟩ := h.pt
 cases bs with
 | nil => simp at e3; omega
 | cons p1 ps =>
  obtain ⟨k, x, y, b, _⟩ := e4 p1 (by simp)
  exact ⟨g0, p1, ps, e1, e2, k, x, y, b⟩
theorem inv_pl {g : GenS} {j : Nat} (h : GInv g j) : g.m.parts.length = 1 + j := by
 obtain ⟨g0, bs, e1, e2, e3, e4⟩ := h.pt
 rw [e1, List.length_cons, e3]; omega
theorem inv_dof {g : GenS} {j : Nat} (h : GInv g j) : ∀ d ∈ g.m.dofs, (RS d.lo 1 ∧ RS d.hi 1) ∧ (d.bd = true → d.lo ≤ 0 ∧ 0 ≤ d.hi) := by
 intro d hd
 obtain ⟨h1, h2, h3⟩ := h.dof d hd
 rw [h1, h2, h3]
 exact ⟨⟨rs_zero, rs_zero⟩, by intro h; cases h⟩
theorem pre_gen {g : GenS} {j : Nat} (h : GInv g j) (hj : 1 ≤ j) : Pre g.m where
 dl := by have := h.d1; have := h.d2; have := h.jb; omega
 pl := by have := inv_pl h; have := h.jb; omega
 hd := inv_hd h hj
 shp := fun p hp => (inv_facts h p hp).1
 hxy := fun p hp => (inv_facts h p hp).2
 cols := h.cols
 dof := inv_dof h
 ap := h.ap
theorem pre_train {g : GenS} {j : Nat} (h : GInv g j) (hj : 1 ≤ j) {n : Int} (hn : 0 ≤ n) : Pre (trainV g.m n) := by
 obtain ⟨l1, l2, l3, l4⟩ := trainV_len g.m n
 obtain ⟨g0, p1, ps, e1, e2, e3⟩ := inv_hd h hj
 obtain ⟨g0', bs, f1, f2, f3, f4⟩ := h.pt
 have hpl := inv_pl h
 have hjb := h.jb
 have hd1 := h.d1
 have hd2 := h.d2
 have hgx := h.x
 let sl : PartR := ⟨shp 1, Rat.divInt 22 1, 0, [⟨g.m.dofs.length, Rat.divInt 1 1, 0, 0⟩], Rat.divInt (n % 3) 2, 0⟩
 let li : PartR := ⟨shp 5, Rat.divInt 32 1, Rat.divInt 2 1, [⟨g.m.dofs.length, 0, Rat.divInt (1 + n % 2) 2, 0⟩], Rat.divInt (n % 4) 2, Rat.divInt (n % 3) 2⟩
 have hsl : BlkAt sl 1 22 0 := ⟨rfl, rfl, rat_zero1, by omega, by omega, by omega⟩
 have hli : BlkAt li 5 32 2 := ⟨rfl, rfl, rfl, by omega, by omega, by omega⟩
 have hparts : (trainV g.m n).parts = g.m.parts ++ [sl, li] := by
  show g.m.parts ++ [sl] ++ [li] = _
  rw [List.append_assoc]; rfl
 have o : RS (Rat.divInt 1 1) 1 := rs_small (by decide) (by decide)
 have z : RS (0 : Rat) 1 := rs_zero
 have h2 := Int.emod_nonneg n (show (2 : Int) ≠ 0 by decide)
 have h3 := Int.emod_lt_of_pos n (show (0 : Int) < 2 by decide)
 have o2 : RS (Rat.divInt (1 + n % 2) 2) 1 := rs_small (by omega) (by decide)
 refine ⟨by omega, by omega, ⟨g0, p1, ps ++ [sl, li], by rw [hparts, e1]; rfl, e2, e3⟩, ?_, ?_, ?_, ?_, ?_⟩
 ·intro p hp
  rw [hparts] at hp
  rcases List.mem_append.1 hp with hp | hp
  ·exact (inv_facts h p hp).1
  ·simp only [List.mem_cons, List.not_mem_nil, or_false] at hp
   rcases hp with rfl | rfl
   ·exact (blk_facts hsl).1
   ·exact (blk_facts hli).1
 ·intro p hp
  rw [hparts] at hp
  rcases List.mem_append.1 hp with hp | hp
  ·exact (inv_facts h p hp).2
  ·simp only [List.mem_cons, List.not_mem_nil, or_false] at hp
   rcases hp with rfl | rfl
   ·exact (blk_facts hsl).2
   ·exact (blk_facts hli).2
 ·intro p hp
  rw [hparts] at hp
  rw [l1]
  rcases List.mem_append.1 hp with hp | hp
  ·exact (h.cols p hp).mono (by omega)
  ·simp only [List.mem_cons, List.not_mem_nil, or_false] at hp
   rcases hp with rfl | rfl
   ·refine ⟨by simp [sl], fun c hc => ?_⟩
    simp only [sl, List.mem_cons, List.not_mem_nil, or_false] at hc
    subst hc
    exact ⟨⟨by dsimp only; omega, by dsimp only; omega⟩, o, z, z⟩
   ·refine ⟨by simp [li], fun c hc => ?_⟩
    simp only [li, List.mem_cons, List.not_mem_nil, or_false] at hc
    subst hc
    exact ⟨⟨by dsimp only; omega, by dsimp only; omega⟩, z, o2, z⟩
 ·intro d hd
  have hdd : (trainV g.m n).dofs = g.m.dofs ++ [⟨Rat.divInt 1 2, ofQ 0, true, Rat.divInt (-1) 1, Rat.divInt 3 1⟩] := rfl
  rw [hdd] at hd
  rcases List.mem_append.1 hd with hd | hd
  ·exact inv_dof h d hd
  ·simp only [List.mem_cons, List.not_mem_nil, or_false] at hd
   subst hd
   exact ⟨⟨rs_small (p := -1) (q := 1) (by decide) (by decide), rs_small (p := 3) (q := 1) (by decide) (by decide)⟩, fun _ => ⟨by show Rat.divInt (-1) 1 ≤ 0; decide +kernel, by show 0 ≤ Rat.divInt 3 1; decide +kernel⟩⟩
 ·rw [hparts]
  refine List.pairwise_append.2 ⟨h.ap, ?_, fun p hp q hq => ?_⟩
  ·refine List.pairwise_cons.2 ⟨fun q hq => ?_, List.pairwise_singleton _ _⟩
   simp only [List.mem_cons, List.not_mem_nil, or_false] at hq
   subst hq
   exact apart_blk hsl hli (.inl (by decide))
  ·rw [f1] at hp
   simp only [List.mem_cons, List.not_mem_nil, or_false] at hq
   rcases List.mem_cons.1 hp with rfl | hp
   ·rcases hq with rfl | rfl
    ·exact apart_gnd f2 hsl
    ·exact apart_gnd f2 hli
   ·obtain ⟨k1, x1, y1, b1, b2, b3⟩ := f4 p hp
    rcases hq with rfl | rfl
    ·exact apart_blk b1 hsl (.inl (by omega))
    ·exact apart_blk b1 hli (.inl (by omega))
def ropeG (p : PartR) (e : Int) : RopeR := ⟨0, 1, p.hx, 0, 0, 0, [(0, 1, 1), (3, 4, 5), (1, 0, 1)], p.hy + Rat.divInt e 1⟩
structure GenM (m : MdlR) : Prop where
 pre : Pre m
 good : GoodM m 1
 skip : m.skip = [] ∨ (m.skip = [(1, 2)] ∧ 2 < m.parts.length)
 rope : m.ropes = [] ∨ ∃ e : Int, (0 ≤ e ∧ e ≤ 1) ∧ m.ropes = [ropeG (m.parts.getD 1 part0) e]
theorem genM_of {m : MdlR} (h : Pre m) (hs : m.skip = [] ∨ (m.skip = [(1, 2)] ∧ 2 < m.parts.length)) (hr : m.ropes = [] ∨ ∃ e : Int, (0 ≤ e ∧ e ≤ 1) ∧ m.ropes = [ropeG (m.parts.getD 1 part0) e]) : GenM m where
 pre := h
 skip := hs
 rope := hr
 good := {
  dl := by have := h.dl; omega
  pl := by have := h.pl; omega
  rl := by rcases hr with hr | ⟨e, _, hr⟩ <;> (rw [hr]; simp)
  sl := by rcases hs with hs | ⟨hs, _⟩ <;> (rw [hs]; simp)
  part := fun p hp => okPart_of (h.shp p hp) (h.cols p hp) (h.hxy p hp).1 (h.hxy p hp).2
  dof := fun d hd => (h.dof d hd).1
  rope := fun r hr' => by
   rcases hr with hr | ⟨e, he, hr⟩
   ·rw [hr] at hr'; cases hr'
   ·rw [hr] at hr'
    simp only [List.mem_cons, List.not_mem_nil, or_false] at hr'
    subst hr'
    obtain ⟨g0, p1, ps, e1, e2, k, x, y, b⟩ := h.hd
    have hp1 : m.parts.getD 1 part0 = p1 := by rw [e1]; rfl
    rw [hp1]
    have hpl := h.pl
    have hyb := b.yb
    refine ⟨⟨by show (0 : Int) ≤ 0; omega, by show (0 : Int) < _; omega⟩, ⟨by show (-1 : Int) ≤ 1; omega, by show (1 : Int) < _; omega⟩, (blk_facts b).2.1, rs_zero, rs_zero, rs_zero, ?_, by simp [ropeG], ?_⟩
    ·show RS (p1.hy + Rat.divInt e 1) 1
     rw [b.hy, divInt_add1]
     exact rs_small (by omega) (by decide)
    ·intro d hd
     simp only [ropeG, List.mem_cons, List.not_mem_nil, or_false] at hd
     rcases hd with rfl | rfl | rfl <;> exact ⟨by unfold okd3; decide, by unfold ok64; decide⟩ }
theorem modelV_gen (l : List Int) : GenM (modelV l) := by
 obtain ⟨j, hj, hg⟩ := genV_inv l
 have hb := atN_bd l 3 8 (by decide)
 unfold modelV
 generalize atN l 3 8 = more at *
 dsimp only
 have hpre : Pre (if more % 2 = 1 ∧ (genV l).m.dofs.length < 6 then trainV (genV l).m more else (genV l).m) := by
  split
  ·exact pre_train hg hj hb.1
  ·exact pre_gen hg hj
 have hrs : (if more % 2 = 1 ∧ (genV l).m.dofs.length < 6 then trainV (genV l).m more else (genV l).m).ropes = [] ∧ (if more % 2 = 1 ∧ (genV l).m.dofs.length < 6 then trainV (genV l).m more else (genV l).m).skip = [] := by
  split
  ·obtain ⟨_, _, l3, l4⟩ := trainV_len (genV l).m more
   rw [l3, l4]; exact ⟨hg.ro, hg.sk⟩
  ·exact ⟨hg.ro, hg.sk⟩
 generalize (if more % 2 = 1 ∧ (genV l).m.dofs.length < 6 then trainV (genV l).m more else (genV l).m) = m1 at *
 obtain ⟨dofs, parts, ropes, skip⟩ := m1
 obtain ⟨rfl, rfl⟩ := hrs
 obtain ⟨p1, p2, p3, p4, p5, p6, p7, p8⟩ := hpre
 have key : ∀ ro sk, Pre ⟨dofs, parts, ro, sk⟩ := fun ro sk => ⟨p1, p2, p3, p4, p5, p6, p7, p8⟩
 have he : 0 ≤ more / 4 ∧ more / 4 ≤ 1 := by omega
 by_cases h2 : more / 2 % 2 = 1
 ·rw [if_pos h2]
  split
  ·rename_i h7
   exact genM_of (key _ _) (.inr ⟨rfl, h7.2⟩) (.inr ⟨more / 4, he, rfl⟩)
  ·exact genM_of (key _ _) (.inl rfl) (.inr ⟨more / 4, he, rfl⟩)
 ·rw [if_neg h2]
  split
  ·rename_i h7
   exact genM_of (key _ _) (.inr ⟨rfl, h7.2⟩) (.inl rfl)
  ·exact genM_of (key _ _) (.inl rfl) (.inl rfl)
theorem GenM.same {m : MdlR} (h : GenM m) : SameSides m := sameSides_of h.pre.shp
structure PrtG (n : Nat) (p : PartR) : Prop where
 cols : colsB n (-1) p.cols = true
 cl : p.cols.length ≤ 3
 ro : betQ p.ro 4 = true ∧ RS p.ro 1
 bo : betQ p.bo 1 = true ∧ RS p.bo 1
structure MdG (m : MdlR) : Prop where
 dof : ∀ d ∈ m.dofs, dofV d = true ∧ DofB d 1
 part : ∀ p ∈ m.parts, PrtG m.dofs.length p
 cne : ∀ p ∈ m.parts.drop 1, 0 < p.cols.length
 pl : 0 < m.parts.length
theorem colsB_mono {n n' : Int} (h : n ≤ n') : ∀ {l : List ColR} {last : Int}, colsB n last l = true → colsB n' last l = true
 | [], _, _ => rfl
 | c :: l, last, hc => by
  unfold colsB at hc ⊢
  rw [Bool.and_eq_true] at hc ⊢
  refine ⟨?_, colsB_mono h hc.2⟩
  have h1 := hc.1
  unfold colB at h1 ⊢
  simp only [Bool.not_eq_true', Bool.or_eq_false_iff, decide_eq_false_iff_not] at h1 ⊢
  exact ⟨⟨h1.1.1, by omega⟩, h1.2⟩
theorem PrtG.mono {n n' : Nat} {p : PartR} (h : PrtG n p) (hn : n ≤ n') : PrtG n' p := ⟨colsB_mono (by omega) h.cols, h.cl, h.ro, h.bo⟩
theorem bet4 {w : Int} (h : 0 ≤ w ∧ w < 4) : betQ (Rat.divInt w 2) 4 = true ∧ RS (Rat.divInt w 2) 1 := by
 refine ⟨?_, rs_small (by omega) (by decide)⟩
 rcases (by omega : w = 0 ∨ w = 1 ∨ w = 2 ∨ w = 3) with rfl | rfl | rfl | rfl <;> kernel_rfl
theorem bet1 {w : Int} (h : 0 ≤ w ∧ w < 3) : betQ (Rat.divInt w 2) 1 = true ∧ RS (Rat.divInt w 2) 1 := by
 refine ⟨?_, rs_small (by omega) (by decide)⟩
 rcases (by omega : w = 0 ∨ w = 1 ∨ w = 2) with rfl | rfl | rfl <;> kernel_rfl
theorem cmp11 : cmpQ (Rat.divInt 1 1) 0 = 1 := by kernel_rfl
theorem cmp12 : cmpQ (Rat.divInt 1 2) 0 = 1 := by kernel_rfl
theorem cmp22 : cmpQ (Rat.divInt 2 2) 0 = 1 := by kernel_rfl
theorem dofG_inv {w : Int} (h : 0 ≤ w ∧ w < 3) : dofOk ⟨Rat.divInt 1 (1 + w), .bad, false, 0, 0⟩ = true := by
 rcases (by omega : w = 0 ∨ w = 1 ∨ w = 2) with rfl | rfl | rfl <;> kernel_rfl
theorem dofOk_load (a : Rat) (x y : Nm) (b : Bool) (l h : Rat) : dofOk ⟨a, x, b, l, h⟩ = dofOk ⟨a, y, b, l, h⟩ := rfl
theorem gen0_g (l : List Int) : MdG (gen0 l).m where
 dof := by intro d hd; cases hd
 part := by
  intro p hp
  simp only [gen0, List.mem_cons, List.not_mem_nil, or_false] at hp
  subst hp
  exact ⟨rfl, by simp, bet4 (by have := atN_bd l 0 4 (by decide); omega), bet1 (by have := atN_bd l 1 3 (by decide); omega)⟩
 cne := by intro p hp; simp [gen0] at hp
 pl := by simp [gen0]
theorem drop1_app {α : Type} {a b : List α} (h : 0 < a.length) : (a ++ b).drop 1 = a.drop 1 ++ b := List.drop_append_of_le_length (by omega)
theorem block_g {m : MdlR} {s : List Pt} {x y n : Int} {w : Bool} (h : MdG m) : MdG (blockV m s x y n w) := by
 obtain ⟨l1, l2, l3, l4⟩ := blockV_len m s x y n w
 have h1 := Int.emod_nonneg n (show (3 : Int) ≠ 0 by decide)
 have h2 := Int.emod_lt_of_pos n (show (0 : Int) < 3 by decide)
 have h3 := Int.emod_nonneg (n / 9) (show (4 : Int) ≠ 0 by decide)
 have h4 := Int.emod_lt_of_pos (n / 9) (show (0 : Int) < 4 by decide)
 have h5 := Int.emod_nonneg (n / 36) (show (3 : Int) ≠ 0 by decide)
 have h6 := Int.emod_lt_of_pos (n / 36) (show (0 : Int) < 3 by decide)
 have h7 := Int.emod_nonneg (n / 3) (show (3 : Int) ≠ 0 by decide)
 have h8 := Int.emod_lt_of_pos (n / 3) (show (0 : Int) < 3 by decide)
 have z : RS (0 : Rat) 1 := rs_zero
 have o1 : RS (Rat.divInt 1 (1 + n % 3)) 1 := rs_small (by decide) (by omega)
 have o2 : RS (Rat.divInt (0 - (1 + n / 3 % 3)) 8) 1 := rs_small (by omega) (by decide)
 have o3 : RS (Rat.divInt 2 1) 1 := rs_small (by decide) (by decide)
 have di := dofG_inv (w := n % 3) ⟨h1, h2⟩
 have hq : PrtG (blockV m s x y n w).dofs.length ⟨s, Rat.divInt x 1, Rat.divInt y 1, [⟨m.dofs.length, Rat.divInt 1 1, 0, 0⟩, ⟨m.dofs.length + 1, 0, Rat.divInt 1 1, 0⟩] ++ (if w = true then [⟨m.dofs.length + 2, 0, 0, Rat.divInt 1 1⟩] else []), Rat.divInt (n / 9 % 4) 2, Rat.divInt (n / 36 % 3) 2⟩ := by
  refine ⟨?_, by cases w <;> simp, bet4 ⟨h3, h4⟩, bet1 ⟨h5, h6⟩⟩
  rw [l1]
  have c1 : ∀ a b c : Int, a < b → b < c → colB a c ⟨b, Rat.divInt 1 1, 0, 0⟩ = true ∧ colB a c ⟨b, 0, Rat.divInt 1 1, 0⟩ = true ∧ colB a c ⟨b, 0, 0, Rat.divInt 1 1⟩ = true := fun a b c hab hbc => by
   have n1 : ¬ b ≤ a := by omega
   have n2 : ¬ c ≤ b := by omega
   unfold colB
   simp [cmp11, n1, n2]
  cases w with
  | true =>
   simp only [if_true, List.cons_append, List.nil_append, colsB, Bool.and_true]
   rw [(c1 _ _ _ (by omega) (by omega)).1, (c1 _ _ _ (by omega) (by omega)).2.1, (c1 _ _ _ (by omega) (by omega)).2.2]
   rfl
  | false =>
   simp only [Bool.false_eq_true, if_false, List.append_nil, colsB, Bool.and_true]
   rw [(c1 _ _ _ (by omega) (by omega)).1, (c1 _ _ _ (by omega) (by omega)).2.1]
   rfl
 refine ⟨fun d hd => ?_, fun p hp => ?_, fun p hp => ?_, by rw [l2]; omega⟩
 ·simp only [blockV, List.mem_append, List.mem_cons, List.not_mem_nil, or_false] at hd
  rcases hd with (hd | rfl | rfl) | hd
  ·exact h.dof d hd
  ·exact ⟨by unfold dofV; rw [ok_ofQ, dofOk_load _ _ .bad, di]; rfl, o1, nmB_ofQ z (by decide), z, z⟩
  ·exact ⟨by unfold dofV; rw [ok_ofQ, dofOk_load _ _ .bad, di]; rfl, o1, nmB_ofQ o2 (by decide), z, z⟩
  ·cases w with
   | true =>
    simp only [if_true, List.mem_cons, List.not_mem_nil, or_false] at hd
    subst hd
    exact ⟨by kernel_rfl, o3, nmB_ofQ z (by decide), z, z⟩
   | false => simp at hd
 ·have hp : p ∈ m.parts ++ [_] := hp
  rcases List.mem_append.1 hp with hp | hp
  ·exact (h.part p hp).mono (by omega)
  ·simp only [List.mem_cons, List.not_mem_nil, or_false] at hp
   subst hp
   exact hq
 ·have hp : p ∈ (m.parts ++ [_]).drop 1 := hp
  rw [drop1_app h.pl] at hp
  rcases List.mem_append.1 hp with hp | hp
  ·exact h.cne p hp
  ·simp only [List.mem_cons, List.not_mem_nil, or_false] at hp
   subst hp
   simp
theorem train_g {m : MdlR} (h : MdG m) (n : Int) : MdG (trainV m n) := by
 obtain ⟨l1, l2, l3, l4⟩ := trainV_len m n
 have h2 := Int.emod_nonneg n (show (2 : Int) ≠ 0 by decide)
 have h3 := Int.emod_lt_of_pos n (show (0 : Int) < 2 by decide)
 have h4 := Int.emod_nonneg n (show (3 : Int) ≠ 0 by decide)
 have h5 := Int.emod_lt_of_pos n (show (0 : Int) < 3 by decide)
 have h6 := Int.emod_nonneg n (show (4 : Int) ≠ 0 by decide)
 have h7 := Int.emod_lt_of_pos n (show (0 : Int) < 4 by decide)
 have z : RS (0 : Rat) 1 := rs_zero
 have hc : ∀ (b c : Int) (x y : Rat), 0 ≤ b → b < c → (cmpQ x 0 ≠ 0 ∨ cmpQ y 0 ≠ 0) → colsB c (-1) [⟨b, x, y, 0⟩] = true := fun b c x y hb hbc hx => by
  have n1 : ¬ b ≤ -1 := by omega
  have n2 : ¬ c ≤ b := by omega
  unfold colsB colsB colB
  rcases hx with hx | hx <;> simp [n1, n2, hx]
 have hd2 : cmpQ (Rat.divInt (1 + n % 2) 2) 0 ≠ 0 := by
  generalize n % 2 = w at *
  rcases (by omega : w = 0 ∨ w = 1) with rfl | rfl
  ·show cmpQ (Rat.divInt 1 2) 0 ≠ 0
   rw [cmp12]; decide
  ·show cmpQ (Rat.divInt 2 2) 0 ≠ 0
   rw [cmp22]; decide
 refine ⟨fun d hd => ?_, fun p hp => ?_, fun p hp => ?_, by rw [l2]; omega⟩
 ·have hdd : (trainV m n).dofs = m.dofs ++ [⟨Rat.divInt 1 2, ofQ 0, true, Rat.divInt (-1) 1, Rat.divInt 3 1⟩] := rfl
  rw [hdd] at hd
  rcases List.mem_append.1 hd with hd | hd
  ·exact h.dof d hd
  ·simp only [List.mem_cons, List.not_mem_nil, or_false] at hd
   subst hd
   exact ⟨by kernel_rfl, rs_small (p := 1) (q := 2) (by decide) (by decide), nmB_ofQ z (by decide), rs_small (p := -1) (q := 1) (by decide) (by decide), rs_small (p := 3) (q := 1) (by decide) (by decide)⟩
 ·simp only [trainV, List.mem_append, List.mem_cons, List.not_mem_nil, or_false] at hp
  rw [l1]
  rcases hp with (hp | rfl) | rfl
  ·exact (h.part p hp).mono (by omega)
  ·exact ⟨hc _ _ _ _ (by omega) (by omega) (.inl (by rw [cmp11]; decide)), by simp, bet4 (by omega), by have := bet1 (w := 0) (by decide); exact ⟨by kernel_rfl, z⟩⟩
  ·exact ⟨hc _ _ _ _ (by omega) (by omega) (.inr hd2), by simp, bet4 (by omega), bet1 (by omega)⟩
 ·obtain ⟨a, b, hab, ha, hb⟩ : ∃ a b : PartR, (trainV m n).parts = m.parts ++ [a, b] ∧ 0 < a.cols.length ∧ 0 < b.cols.length := ⟨⟨shp 1, Rat.divInt 22 1, 0, [⟨m.dofs.length, Rat.divInt 1 1, 0, 0⟩], Rat.divInt (n % 3) 2, 0⟩, ⟨shp 5, Rat.divInt 32 1, Rat.divInt 2 1, [⟨m.dofs.length, 0, Rat.divInt (1 + n % 2) 2, 0⟩], Rat.divInt (n % 4) 2, Rat.divInt (n % 3) 2⟩, by
   show (m.parts ++ [_]) ++ [_] = _
   rw [List.append_assoc]; rfl, by simp, by simp⟩
  rw [hab, drop1_app h.pl] at hp
  rcases List.mem_append.1 hp with hp | hp
  ·exact h.cne p hp
  ·simp only [List.mem_cons, List.not_mem_nil, or_false] at hp
   rcases hp with rfl | rfl
   ·exact ha
   ·exact hb
theorem go_g (l : List Int) : ∀ (k i : Nat) (g : GenS), MdG g.m → MdG (genGo l k i g).m
 | 0, _, g, h => h
 | k + 1, i, g, h => by
  unfold genGo
  split
  ·exact go_g l k (i + 1) _ (block_g h)
  ·exact h
theorem genV_g (l : List Int) : MdG (genV l).m := go_g l _ 0 (gen0 l) (gen0_g l)
theorem MdG.same {m m' : MdlR} (h : MdG m) (h1 : m'.dofs = m.dofs) (h2 : m'.parts = m.parts) : MdG m' := ⟨h1 ▸ h.dof, by rw [h1, h2]; exact h.part, h2 ▸ h.cne, h2 ▸ h.pl⟩
theorem modelV_g (l : List Int) : MdG (modelV l) := by
 have h0 := genV_g l
 unfold modelV
 dsimp only
 have h1 : MdG (if atN l 3 8 % 2 = 1 ∧ (genV l).m.dofs.length < 6 then trainV (genV l).m (atN l 3 8) else (genV l).m) := by
  split
  ·exact train_g h0 _
  ·exact h0
 generalize (if atN l 3 8 % 2 = 1 ∧ (genV l).m.dofs.length < 6 then trainV (genV l).m (atN l 3 8) else (genV l).m) = m1 at *
 split <;> split <;> exact h1.same rfl rfl
theorem vldW_shpM : shpM.all vldW = true := by kernel_rfl
theorem shpM_len : (shpM.all fun s => decide (3 ≤ s.length ∧ s.length ≤ 5) && s.all fun q => decide ((-60 ≤ q.1 ∧ q.1 ≤ 60) ∧ -60 ≤ q.2 ∧ q.2 ≤ 60)) = true := by kernel_rfl
theorem dirsOk_G : dirsOk [(0, 1, 1), (3, 4, 5), (1, 0, 1)] = true := by kernel_rfl
theorem hyLen : ([0, 1, 2, 3, 4, 5, 6, 7, 8].all fun y => [0, 1].all fun e => decide (0 ≤ cmpQ (Rat.divInt y 1 + Rat.divInt e 1) 0)) = true := by kernel_rfl
theorem gen_benB {m : MdlR} (h : GenM m) (g : MdG m) : BenB m 0 where
 dl := by have := h.pre.dl; omega
 pl := by have := h.pre.pl; omega
 rl := by rcases h.rope with hr | ⟨e, _, hr⟩ <;> (rw [hr]; simp)
 sl := by rcases h.skip with hs | ⟨hs, _⟩ <;> (rw [hs]; simp)
 dof := fun d hd => (g.dof d hd).2
 part := fun p hp => by
  obtain ⟨_, c2⟩ := h.pre.cols p hp
  have c1 := (g.part p hp).cl
  obtain ⟨x, y⟩ := h.pre.hxy p hp
  have hs := List.all_eq_true.1 shpM_len _ (h.pre.shp p hp)
  rw [Bool.and_eq_true, List.all_eq_true] at hs
  have hl := of_decide_eq_true hs.1
  have hm := h.pre.dl
  refine ⟨x, y, (g.part p hp).ro.2, (g.part p hp).bo.2, by omega, fun c hc => ?_, fun q hq => ?_, by omega, by omega⟩
  ·obtain ⟨⟨a, b⟩, c3, c4, c5⟩ := c2 c hc
   exact ⟨by unfold ok64; omega, c3, c4, c5⟩
  ·have := of_decide_eq_true (hs.2 q hq)
   unfold okwk
   omega
 cne := fun i p hi hp => by
  refine g.cne p ?_
  obtain ⟨j, rfl⟩ : ∃ j, i = 1 + j := ⟨i - 1, by omega⟩
  exact List.mem_of_getElem? (i := j) (by rw [List.getElem?_drop]; exact hp)
 rope := fun r hr => by
  rcases h.rope with e | ⟨e, he, e2⟩
  ·rw [e] at hr; cases hr
  ·rw [e2] at hr
   simp only [List.mem_cons, List.not_mem_nil, or_false] at hr
   subst hr
   obtain ⟨g0, p1, ps, e1, _, k, x, y, b⟩ := h.pre.hd
   have hp1 : m.parts.getD 1 part0 = p1 := by rw [e1]; rfl
   rw [hp1]
   have z : RS (0 : Rat) 2 := rs_zero.mono (by decide)
   have hyb := b.yb
   refine ⟨(blk_facts b).2.1.mono (by decide), z, z, z, ?_, by show -1000 ≤ (0 : Int) ∧ (0 : Int) ≤ 1000; omega, by show -1000 ≤ (1 : Int) ∧ (1 : Int) ≤ 1000; omega, by simp [ropeG], fun d hd => ?_⟩
   ·show RS (p1.hy + Rat.divInt e 1) 2
    rw [b.hy, divInt_add1]
    exact RS.mono (n := 1) (rs_small (by omega) (by decide)) (by decide)
   ·simp only [ropeG, List.mem_cons, List.not_mem_nil, or_false] at hd
    unfold dirsG
    rcases hd with rfl | rfl | rfl <;> simp
 skip := fun x hx => by
  rcases h.skip with e | ⟨e, _⟩
  ·rw [e] at hx; cases hx
  ·rw [e] at hx
   simp only [List.mem_cons, List.not_mem_nil, or_false] at hx
   subst hx
   dsimp only
   omega
theorem gen_valid {m : MdlR} (h : GenM m) (g : MdG m) : validE m = 0 := by
 have hd := h.pre.dl
 have hp := h.pre.pl
 have hr : m.ropes.length ≤ 1 := by rcases h.rope with hr | ⟨e, _, hr⟩ <;> (rw [hr]; simp)
 have hs : m.skip.length ≤ 1 := by rcases h.skip with hs | ⟨hs, _⟩ <;> (rw [hs]; simp)
 unfold validE
 rw [if_neg (by omega)]
 rw [if_neg (by
  rw [List.any_eq_true]
  rintro ⟨p, hp, h2⟩
  have := (g.part p hp).cl
  unfold colsMany at h2
  have := of_decide_eq_true h2
  omega)]
 rw [if_neg (by
  rw [List.all_eq_true.2 fun d hd => (g.dof d hd).1]
  decide)]
 rw [if_neg (by
  rw [List.all_eq_true.2 fun p hp => by
   unfold partV partOk
   rw [(g.part p hp).cols, (g.part p hp).ro.1, (g.part p hp).bo.1, List.all_eq_true.1 vldW_shpM _ (h.pre.shp p hp)]
   rfl]
  decide)]
 rw [if_neg (by
  rw [List.all_eq_true.2 fun r hr => by
   rcases h.rope with e | ⟨e, he, e2⟩
   ·rw [e] at hr; cases hr
   ·rw [e2] at hr
    simp only [List.mem_cons, List.not_mem_nil, or_false] at hr
    subst hr
    obtain ⟨g0, p1, ps, e1, _, k, x, y, b⟩ := h.pre.hd
    have hp1 : m.parts.getD 1 part0 = p1 := by rw [e1]; rfl
    rw [hp1]
    have hyb := b.yb
    have c1 := List.all_eq_true.1 (List.all_eq_true.1 hyLen y (by simp; omega)) e (by simp; omega)
    unfold ropeOk endsOk
    have t1 : (ropeG p1 e).len = Rat.divInt y 1 + Rat.divInt e 1 := by show p1.hy + _ = _; rw [b.hy]
    have t2 : (ropeG p1 e).a = 0 := rfl
    have t3 : (ropeG p1 e).b = 1 := rfl
    have t4 : (ropeG p1 e).dirs = [(0, 1, 1), (3, 4, 5), (1, 0, 1)] := rfl
    rw [t1, t2, t3, t4, dirsOk_G, c1]
    have n1 : (0 : Int) < m.parts.length := by omega
    have n2 : (1 : Int) < m.parts.length := by omega
    have n3 : 0 < m.parts.length := by omega
    have n4 : 1 < m.parts.length := by omega
    simp [n1, n2, n3, n4]]
  decide)]
 rw [if_neg (by
  rw [List.all_eq_true.2 fun i hi => by
   rcases h.skip with e | ⟨e, e2⟩
   ·rw [e] at hi; simp at hi
   ·rw [e] at hi ⊢
    simp at hi
    subst hi
    unfold skipAt skipFit
    have n2 : (2 : Int) < m.parts.length := by omega
    simp [n2]]
  decide)]
theorem tdiv13 {n : Int} (h : ok64 n) : ok64 (n.tdiv 13) := by
 unfold ok64 at *
 rcases Int.le_total 0 n with h0 | h0
 ·rw [Int.tdiv_eq_ediv_of_nonneg h0]; omega
 ·have e : n.tdiv 13 = -((-n) / 13) := by rw [← Int.tdiv_eq_ediv_of_nonneg (show 0 ≤ -n by omega), Int.neg_tdiv, Int.neg_neg]
  rw [e]; omega
theorem bent_b [SpC] {m : MdlR} {k : Nat} (h : BenB m k) (hk : k ≤ 1) {at0 how by0 : Int} (ha : ok64 at0) (hh : ok64 how) (hb : ok64 by0) : M X 9 [.agg (mdlA m), .int .i64 at0, .int .i64 how, .int .i64 by0] = some (.agg (mdlA (bentM m at0 how by0))) :=
 M_9 m at0 how by0 ⟨h.dl.1, by have := h.dl; omega⟩ ⟨h.pl.1, by have := h.pl; omega⟩ (by have := h.rl; omega) (by have := h.sl; omega)
  (fun p hp => by
   have q := h.part p hp
   have := q.sl
   have := q.sl2
   have := q.cl
   exact ⟨q.hx.mono (by omega), fun x hx => (q.shp x hx).okw (by omega), by omega, by omega, by omega⟩) h.cne ha hh hb
theorem M_3 [SpC] (hP : PairsSay) (l : List Int) (at0 how by0 : Int) (hl : okI l) (hll : l.length < 2 ^ 60) (ha : ok64 at0) (hh : ok64 how) (hb : ok64 by0) :
  M X 3 [isl l, .int .i64 at0, .int .i64 how, .int .i64 by0] = some (.bool true) := by
 refine M_of X (fn := Tryz.f3) Tryz.func3 rfl ok_3 mode_3 res_3 _ rfl _ ?_
 intro r hr
 have hm := M_8 l hl hll
 have G := modelV_gen l
 have g := modelV_g l
 generalize modelV l = m at *
 have B0 := gen_benB G g
 have v0 := gen_valid G g
 have h9' := tdiv13 hh
 have h9 : -9223372036854775808 ≤ how.tdiv 13 ∧ how.tdiv 13 ≤ 9223372036854775807 := h9'
 have bA := bent_b B0 (by omega) ha hh hb
 have bB := bent_b B0 (by omega) hb h9' ha
 have nA := bentM_k B0 (by omega) at0 how by0
 have nB := bentM_k B0 (by omega) by0 (how.tdiv 13) at0
 generalize hA : bentM m at0 how by0 = A at *
 generalize hB : bentM m by0 (how.tdiv 13) at0 = B at *
 have bC := bent_b nA (by omega) hb h9' ha
 have nC := bentM_k nA (by omega) by0 (how.tdiv 13) at0
 generalize bentM A by0 (how.tdiv 13) at0 = C at *
 have e0 : MdlB ⟨[], [], [], []⟩ 8 := ⟨by simp, by simp, by simp, by simp, by simp, by simp, by simp, by simp, by simp, by simp⟩
 have f1 := M_10 m 8 (B0.mdlB (by omega)) (by omega)
 have g1 := M_11 m 8 (B0.mdlB (by omega)) (by omega)
 have f2 := M_10 A 8 (nA.mdlB (by omega)) (by omega)
 have g2 := M_11 A 8 (nA.mdlB (by omega)) (by omega)
 have f3 := M_10 B 8 (nB.mdlB (by omega)) (by omega)
 have g3 := M_11 B 8 (nB.mdlB (by omega)) (by omega)
 have f4 := M_10 C 8 (nC.mdlB (by omega)) (by omega)
 have g4 := M_11 C 8 (nC.mdlB (by omega)) (by omega)
 have f5 := M_10 ⟨[], [], [], []⟩ 8 e0 (by omega)
 have g5 := M_11 ⟨[], [], [], []⟩ 8 e0 (by omega)
 have hd1 := nA.dl.1
 have hli := lives_15 hP
 rw [v0] at f1 g1
 generalize validE A = c2 at *
 generalize validE B = c3 at *
 generalize validE C = c4 at *
 generalize validE ⟨[], [], [], []⟩ = c5 at *
 have ze : mdlA ⟨[], [], [], []⟩ = [.ro [] 0 false, .ro [] 0 false, .ro [] 0 false, .ro [] 0 false] := rfl
 rw [ze] at f5 g5
 rw [mdlA_eq] at hm bA bB bC f1 g1 f2 g2 f3 g3 f4 g4
 rw [mdlA_eq] at bA bB bC
 rw [W_seq]
 generalize hK : @seqQ X ⟨_⟩ (outR X _ _ _) = K
 simp (maxSteps := 9^7) (disch := first | omega | simp only [LL]; omega) only [go_sem, hm, weaks_cat, weaks_ptC, bA, bB, bC, replA_4, replA_1]
 rw [← hK, seqQ_normal]
 clear hK K
 rw [W_seq]
 generalize hK : @seqQ X ⟨_⟩ (outR X _ _ _) = K
 simp (maxSteps := 9^7) (disch := first | omega | simp only [LL]; omega) only [go_sem, hm, weaks_cat, weaks_ptC, bA, bB, bC, replA_4, replA_1]
 rw [← hK, seqQ_normal]
 clear hK K
 rw [W_seq]
 generalize hK : @seqQ X ⟨_⟩ (outR X _ _ _) = K
 simp (maxSteps := 9^7) (disch := first | omega | simp only [LL]; omega) only [go_sem, hm, weaks_cat, weaks_ptC, bA, bB, bC, replA_4, replA_1]
 rw [← hK, seqQ_normal]
 clear hK K
 rw [W_seq]
 generalize hK : @seqQ X ⟨_⟩ (outR X _ _ _) = K
 simp (maxSteps := 9^7) (disch := first | omega | simp only [LL]; omega) only [go_sem, hm, weaks_cat, weaks_ptC, bA, bB, bC, replA_4, replA_1]
 rw [← hK, seqQ_normal]
 clear hK K
 rw [W_seq]
 generalize hK : @seqQ X ⟨_⟩ (outR X _ _ _) = K
 simp (maxSteps := 9^7) (disch := first | omega | simp only [LL]; omega) only [go_sem, hm, weaks_cat, weaks_ptC, bA, bB, bC, replA_4, replA_1]
 rw [← hK, seqQ_normal]
 clear hK K
 simp (maxSteps := 9^7) (disch := first | omega | simp only [LL]; omega) only [go_sem, f1, g1, f2, g2, f3, g3, f4, g4, f5, g5, weaks_cat, weaks_ptC, hli]
 rw [W_unroll]
 simp (maxSteps := 9^7) (disch := first | omega | simp only [LL]; omega) only [go_sem, unQ_normal, unQ_ret, unQ_exit, Int.reduceAdd, f1, g1, f2, g2, f3, g3, f4, g4, f5, g5, hm, weaks_cat, weaks_ptC, hli]
 rw [W_unroll]
 simp (maxSteps := 9^7) (disch := first | omega | simp only [LL]; omega) only [go_sem, unQ_normal, unQ_ret, unQ_exit, Int.reduceAdd, f1, g1, f2, g2, f3, g3, f4, g4, f5, g5, hm, weaks_cat, weaks_ptC, hli]
 rw [W_unroll]
 simp (maxSteps := 9^7) (disch := first | omega | simp only [LL]; omega) only [go_sem, unQ_normal, unQ_ret, unQ_exit, Int.reduceAdd, f1, g1, f2, g2, f3, g3, f4, g4, f5, g5, hm, weaks_cat, weaks_ptC, hli]
 rw [W_unroll]
 simp (maxSteps := 9^7) (disch := first | omega | simp only [LL]; omega) only [go_sem, unQ_normal, unQ_ret, unQ_exit, Int.reduceAdd, f1, g1, f2, g2, f3, g3, f4, g4, f5, g5, hm, weaks_cat, weaks_ptC, hli]
 rw [W_unroll]
 simp (maxSteps := 9^7) (disch := first | omega | simp only [LL]; omega) only [go_sem, unQ_normal, unQ_ret, unQ_exit, Int.reduceAdd, f1, g1, f2, g2, f3, g3, f4, g4, f5, g5, hm, weaks_cat, weaks_ptC, hli]
 rw [W_unroll]
 simp (maxSteps := 9^7) (disch := first | omega | simp only [LL]; omega) only [go_sem, unQ_normal, unQ_ret, unQ_exit, Int.reduceAdd, f1, g1, f2, g2, f3, g3, f4, g4, f5, g5, hm, weaks_cat, weaks_ptC, hli]
 rw [hr]
end Go.Proofs.YtenhjccadhlgoaaGreat.Abs
