/-
  Package gantryref15: Bent. No conditions. Package gantryref15: State. No conditions.
-/
import Derived.Test.YtenhjccadhlgoaaGreatQ09
import Derived.Test.YtenhjccadhlgoaaGreatQ07
set_option linter.unusedSimpArgs false
set_option linter.unusedVariables false
set_option maxRecDepth 100000
set_option maxHeartbeats 16000000
namespace Go.Proofs.YtenhjccadhlgoaaGreat.Abs
open Go
section
def col0 : ColR := ⟨0, 0, 0, 0⟩
def numM (by0 : Int) : Rat := Rat.divInt (arnd by0 9 - 2) 2
def loadB (w : Int) : Nm := if w = 0 then .bad else .z w 2
def bentPart (p : PartR) (at0 how by0 : Int) : PartR :=
 if arnd how 13 = 0 then { p with shape := bentP p.shape at0 how by0 }
 else if arnd how 13 = 1 then { p with cols := ⟨arnd by0 8 - 1, Rat.divInt 1 1, 0, 0⟩ :: p.cols }
 else if arnd how 13 = 2 then { p with ro := numM by0 }
 else if arnd how 13 = 3 then { p with bo := numM by0 }
 else if arnd how 13 = 4 then { p with cols := p.cols.set 0 ⟨(p.cols.getD 0 col0).dof, 0, 0, 0⟩ }
 else if arnd how 13 = 12 then { p with hx := p.hx + numM by0 }
 else p
theorem loadB0 : ([AV.bool false, .ro [.int .i64 0] 1 false, .bool false, .ro [.int .i64 2] 1 false] : List AV) = [(loadB 0).c1, (loadB 0).c2, (loadB 0).c3, (loadB 0).c4] := by kernel_rfl
theorem loadB1 : ([AV.bool false, .ro [.int .i64 1] 1 false, .bool false, .ro [.int .i64 2] 1 false] : List AV) = [(loadB 1).c1, (loadB 1).c2, (loadB 1).c3, (loadB 1).c4] := by kernel_rfl
theorem loadB2 : ([AV.bool false, .ro [.int .i64 2] 1 false, .bool false, .ro [.int .i64 2] 1 false] : List AV) = [(loadB 2).c1, (loadB 2).c2, (loadB 2).c3, (loadB 2).c4] := by kernel_rfl
theorem loadB3 : ([AV.bool false, .ro [.int .i64 3] 1 false, .bool false, .ro [.int .i64 2] 1 false] : List AV) = [(loadB 3).c1, (loadB 3).c2, (loadB 3).c3, (loadB 3).c4] := by kernel_rfl
def newDof : DofR := ⟨Rat.divInt 1 1, ofQ 0, false, 0, 0⟩
def dofZ : DofR := ⟨0, .bad, false, 0, 0⟩
def bentDofs (l : List DofR) (at0 how by0 : Int) : List DofR :=
 let d := (arnd at0 l.length).toNat
 let x := l.getD d dofZ
 if arnd how 13 = 5 then l.set d { x with inv := numM by0 }
 else if arnd how 13 = 6 then l.set d { x with lo := numM by0 }
 else if arnd how 13 = 7 then l.set d { x with bd := !x.bd }
 else if arnd how 13 = 10 then l ++ List.replicate (arnd by0 14).toNat newDof
 else if arnd how 13 = 11 then l.set d { x with load := loadB (arnd by0 4) }
 else l
def bentRope (at0 by0 : Int) : RopeR := ⟨arnd by0 4 - 1, arnd by0 5 - 2, 0, 0, 0, 0, ([(1, 0, 1), (3 + by0.tmod 2, 4, 5)] : List Dr).take (1 + arnd at0 2).toNat, Rat.divInt 50 1⟩
def bentM (m : MdlR) (at0 how by0 : Int) : MdlR :=
 let k := (1 + arnd at0 (m.parts.length - 1)).toNat
 ⟨bentDofs m.dofs at0 how by0, m.parts.set k (bentPart (m.parts.getD k part0) at0 how by0), if arnd how 13 = 8 then m.ropes ++ [bentRope at0 by0] else m.ropes, if arnd how 13 = 9 then m.skip ++ [(arnd at0 3, arnd by0 4)] else m.skip⟩
theorem snapsB_app (f : AV → Option (AV × List Nat)) (a b : List AV) : snaps f (a ++ b) = nx (snaps f a) fun x => mp (snaps f b) fun y => (x.1 ++ y.1, x.2 ++ y.2) := by
 induction a with
 | nil =>
  rw [List.nil_append, snaps_nil, nx_some]
  cases snaps f b <;> rfl
 | cons c a ih =>
  rw [List.cons_append, snaps_cons, snaps_cons, ih]
  cases f c with
  | none => rfl
  | some x =>
   rw [nx_some, nx_some]
   cases snaps f a with
   | none => rfl
   | some y =>
    rw [nx_some, mp_some, nx_some]
    cases snaps f b with
    | none => rfl
    | some z => simp only [mp_some, List.cons_append, List.append_assoc]
theorem weaksB_app (a b : List AV) : AV.weak.go (a ++ b) = AV.weak.go a ++ AV.weak.go b := by
 induction a with
 | nil => rfl
 | cons c a ih => rw [List.cons_append, weakgo_cons, weakgo_cons, ih, List.cons_append]
theorem weaksB_len (l : List AV) : (AV.weak.go l).length = l.length := by
 induction l with
 | nil => rfl
 | cons c l ih => rw [weakgo_cons, List.length_cons, List.length_cons, ih]
theorem spliceB_len {cs : List AV} {off : Nat} {vs : List AV} (hl : off + vs.length ≤ cs.length) : (splice cs off vs).length = cs.length := by
 unfold splice
 simp only [List.length_append, List.length_take, List.length_drop]
 omega
section
variable {α : Type} {f : α → List AV} {k : Nat} [he : Enc f k]
include he in
theorem catB_snap (h : Heap) (d : Nat) (l : List α) : ∀ c ∈ cat f l, snap h (d + 1) c = some (c, []) := fun c hc => by
 induction l with
 | nil => simp [cat] at hc
 | cons a l ih =>
  rw [cat_cons] at hc
  exact (List.mem_append.1 hc).elim (fun h' => he.sn a c h' h d) ih
include he in
theorem catB_weak (l : List α) : ∀ c ∈ cat f l, c.weak = c := fun c hc => by
 induction l with
 | nil => simp [cat] at hc
 | cons a l ih =>
  rw [cat_cons] at hc
  exact (List.mem_append.1 hc).elim (fun h' => he.wk a c h') ih
include he in
theorem snapsB_spl {h : Heap} {d : Nat} {l : List α} {i o : Nat} {a a' : α} {vs ws : List AV} {ids : List Nat} (hv : snaps (snap h (d + 1)) vs = some (ws, ids)) (hl : ws.length = vs.length) (ha : l[i]? = some a) (ho : o + vs.length ≤ k) (hf : f a' = splice (f a) o (AV.weak.go ws)) :
  ∃ x, snaps (snap h (d + 1)) (splice (cat f l) (i * k + o) vs) = some (x, ids) ∧ AV.weak.go x = cat f (l.set i a') := by
 have s1 : snaps (snap h (d + 1)) ((cat f l).take (i * k + o)) = some ((cat f l).take (i * k + o), []) := snaps_of fun c hc => catB_snap h d l c (List.mem_of_mem_take hc)
 have s2 : snaps (snap h (d + 1)) ((cat f l).drop (i * k + o + vs.length)) = some ((cat f l).drop (i * k + o + vs.length), []) := snaps_of fun c hc => catB_snap h d l c (List.mem_of_mem_drop hc)
 refine ⟨(cat f l).take (i * k + o) ++ ws ++ (cat f l).drop (i * k + o + vs.length), ?_, ?_⟩
 ·unfold splice
  rw [snapsB_app, snapsB_app, s1, hv, s2]
  simp only [nx_some, mp_some, List.nil_append, List.append_nil]
 ·have hw : (AV.weak.go ws).length = vs.length := by rw [weaksB_len]; exact hl
  rw [weaksB_app, weaksB_app, weaks_all (fun c hc => catB_weak l c (List.mem_of_mem_take hc)), weaks_all (fun c hc => catB_weak l c (List.mem_of_mem_drop hc))]
  rw [← cat_splice (vs := AV.weak.go ws) ha (by rw [hw]; exact ho) hf]
  unfold splice
  rw [hw]
end
theorem splice_all {l vs : List AV} (h : l.length = vs.length) : splice l 0 vs = vs := by
 unfold splice
 rw [List.take_zero, List.nil_append, List.drop_eq_nil_of_le (by omega), List.append_nil]
theorem sl_snap {H : Heap} {b : Nat} {C : List AV} {g f : Bool} {n k d : Nat} (h : H b = some (.cells C g f)) (hl : C.length = n * k) (hs : snaps (snap H d) C = some (C, [])) (hw : AV.weak.go C = C) : snap H (d + 1) (.sl b 0 n none k) = some (.ro C n false, [b]) ∧ (AV.ro C n false).weak = .ro C n false := by
 refine ⟨?_, by rw [weak_ro, hw]⟩
 rw [snap_sl, h]
 simp only [Nat.zero_add, hl, Nat.le_refl, if_true, List.drop_zero]
 rw [List.take_of_length_le (by rw [hl]; exact Nat.le_refl _), hs]
 rfl
theorem colA_zero (d : Int) : colA ⟨d, 0, 0, 0⟩ = [.int .i64 d, .bool false, .ro [] 0 false, .bool false, .ro [] 0 false, .bool false, .ro [] 0 false, .bool false, .ro [] 0 false, .bool false, .ro [] 0 false, .bool false, .ro [] 0 false] := by rw [colA_eq, q0a, q0b, q0c, q0d]
theorem colA_one (d : Int) (x : Rat) : colA ⟨d, x, 0, 0⟩ = [.int .i64 d, zS x.num, zD x.num, zS (dz x), zD (dz x), .bool false, .ro [] 0 false, .bool false, .ro [] 0 false, .bool false, .ro [] 0 false, .bool false, .ro [] 0 false] := by rw [colA_eq, q0a, q0b, q0c, q0d]
theorem repl2 (l : List AV) : replA 2 l = l ++ l := by
 show (List.replicate 2 l).flatten = l ++ l
 simp [List.replicate_succ]
theorem rope_snap {H : Heap} (l : List RopeR) (b : RopeR) {B B2 n c : Nat} {g f g2 f2 : Bool} {cap : Option Nat} {D : List AV} (h : H B = some (.cells (cat ropeA l ++ splice (ropeA b) 18 [.sl B2 0 c cap 3]) g f)) (h2 : H B2 = some (.cells D g2 f2)) (hc : c = b.dirs.length) (hD : D.take (c * 3) = cat dirA b.dirs) (hle : c * 3 ≤ D.length) (hn : n = l.length + 1) :
  ∃ a ids, snap H 11 (.sl B 0 n none 23) = some (a, ids) ∧ a.weak = .ro (cat ropeA (l ++ [b])) (l ++ [b]).length false := by
 have q1 : snap H 10 (.sl B2 0 c cap 3) = some (.ro (cat dirA b.dirs) b.dirs.length false, [B2]) := by
  rw [snap_sl, h2]
  simp only [Nat.zero_add, hle, if_true, List.drop_zero, hD]
  rw [snaps_cat, hc]
  rfl
 have hv : snaps (snap H (9 + 1)) [.sl B2 0 c cap 3] = some ([.ro (cat dirA b.dirs) b.dirs.length false], [B2]) := by
  rw [snaps_cons, q1]
  rfl
 obtain ⟨y, y1, y2⟩ := snapsB_spl (f := ropeA) (l := [b]) (i := 0) (o := 18) (a' := b) hv rfl rfl (by simp) (by
  rw [weakgo_cons, weak_ro, weaks_cat]
  rfl)
 have e1 : cat ropeA [b] = ropeA b := List.append_nil _
 rw [List.set_cons_zero] at y2
 rw [e1] at y1 y2
 have hl : (cat ropeA l ++ splice (ropeA b) 18 [.sl B2 0 c cap 3]).length = n * 23 := by
  rw [List.length_append, cat_length, spliceB_len (by simp [ropeA]), hn]
  simp [ropeA]
  omega
 refine ⟨.ro (cat ropeA l ++ y) n false, B :: [B2], ?_, ?_⟩
 ·rw [snap_sl, h]
  simp only [Nat.zero_add, hl, Nat.le_refl, if_true, List.drop_zero]
  rw [List.take_of_length_le (by rw [hl]; exact Nat.le_refl _), snapsB_app, snaps_cat]
  rw [show snaps (snap H (9 + 1)) (splice (ropeA b) 18 [.sl B2 0 c cap 3]) = some (y, [B2]) from y1]
  rfl
 ·rw [weak_ro, weaksB_app, weaks_cat, y2, cat_snoc, List.length_append, hn]
  rfl
theorem ropeB_eq (at0 by0 : Int) : ropeA (bentRope at0 by0) = [.int .i64 (arnd by0 4 - 1), .int .i64 (arnd by0 5 - 2), .bool false, .ro [] 0 false, .bool false, .ro [] 0 false, .bool false, .ro [] 0 false, .bool false, .ro [] 0 false, .bool false, .ro [] 0 false, .bool false, .ro [] 0 false, .bool false, .ro [] 0 false, .bool false, .ro [] 0 false, .ro (cat dirA (bentRope at0 by0).dirs) (bentRope at0 by0).dirs.length false, zS (Rat.num (Rat.divInt 50 1)), zD (Rat.num (Rat.divInt 50 1)), zS (dz (Rat.divInt 50 1)), zD (dz (Rat.divInt 50 1))] := by
 rw [ropeA_eq]
 simp only [bentRope, q0a, q0b, q0c, q0d]
theorem ropeB_dirs (at0 by0 : Int) (h : 0 ≤ arnd at0 2 ∧ arnd at0 2 < 2) : (1 + arnd at0 2).toNat = (bentRope at0 by0).dirs.length ∧ ([.int .i64 1, .int .i64 0, .int .i64 1, .int .i64 (3 + by0.tmod 2), .int .i64 4, .int .i64 5] : List AV).take ((1 + arnd at0 2).toNat * 3) = cat dirA (bentRope at0 by0).dirs ∧ (1 + arnd at0 2).toNat * 3 ≤ 6 := by
 unfold bentRope
 dsimp only
 generalize arnd at0 2 = w at *
 rcases (by omega : w = 0 ∨ w = 1) with rfl | rfl
 ·exact ⟨rfl, rfl, by decide⟩
 ·exact ⟨rfl, rfl, by decide⟩
theorem dofN_eq : dofA newDof = [zS (Rat.num (Rat.divInt 1 1)), zD (Rat.num (Rat.divInt 1 1)), zS (dz (Rat.divInt 1 1)), zD (dz (Rat.divInt 1 1)), .bool false, .ro [] 0 false, .bool false, .ro [] 0 false, .bool false, .bool false, .ro [] 0 false, .bool false, .ro [] 0 false, .bool false, .ro [] 0 false, .bool false, .ro [] 0 false] := by
 rw [dofA_eq]
 simp only [newDof, ofQ, c1_z, c2_z, c3_z, c4_z, q0a, q0b, q0c, q0d]
theorem M_9 [SpC] (m : MdlR) (at0 how by0 : Int) (h1 : 0 < m.dofs.length ∧ m.dofs.length < 2 ^ 10) (h2 : 1 < m.parts.length ∧ m.parts.length < 2 ^ 10) (h3 : m.ropes.length < 2 ^ 10) (h4 : m.skip.length < 2 ^ 10)
  (hp2 : ∀ p ∈ m.parts, RS p.hx 4 ∧ (∀ q ∈ p.shape, okw q) ∧ p.shape.length < 2 ^ 10 ∧ 0 < p.shape.length ∧ p.cols.length < 2 ^ 10) (hc1 : ∀ (i : Nat) p, 1 ≤ i → m.parts[i]? = some p → 0 < p.cols.length) (ha : ok64 at0) (hh : ok64 how) (hb : ok64 by0) :
  M X 9 [.agg (mdlA m), .int .i64 at0, .int .i64 how, .int .i64 by0] = some (.agg (mdlA (bentM m at0 how by0))) := by
 refine M_of X (fn := Tryz.f9) Tryz.func9 rfl ok_9 mode_9 res_9 _ rfl _ ?_
 intro r hr
 have cd := cat_length (f := dofA) m.dofs
 have cp := cat_length (f := partA) m.parts
 have cr := cat_length (f := ropeA) m.ropes
 have cs := ptC_length m.skip
 have r1 := M_15 at0 ((m.parts.length : Int) - 1) ha (by omega)
 have r2 := M_15 at0 (m.dofs.length : Int) ha (by omega)
 have r3 := M_15 by0 9 hb (by omega)
 have r4 := M_15 how 13 hh (by omega)
 have b1 := arnd_bd at0 ((m.parts.length : Int) - 1) (by omega)
 have b2 := arnd_bd at0 (m.dofs.length : Int) (by omega)
 have b3 := arnd_bd by0 9 (by omega)
 have b4 := arnd_bd how 13 (by omega)
 have o1 := M_44 (arnd by0 9 - 2) 2 (by omega) (by omega)
 have ek : ((m.parts.length : Int) - 1) = ((m.parts.length - 1 : Nat) : Int) := by omega
 rw [ek] at r1
 have hkk : (1 + arnd at0 ((m.parts.length : Int) - 1)) = 1 + arnd at0 ((m.parts.length - 1 : Nat) : Int) := by rw [ek]
 rw [ek] at b1
 unfold bentM at hr
 dsimp only at hr
 rw [hkk] at hr
 generalize hk1 : arnd at0 ((m.parts.length - 1 : Nat) : Int) = k1 at *
 clear hkk
 have hkp : (1 + k1).toNat < m.parts.length := by omega
 have gp := getD_some (l := m.parts) hkp part0
 have tp := cat_take (f := partA) gp
 generalize m.parts.getD (1 + k1).toNat part0 = p at *
 rw [partA_eq] at tp
 have hnum : Rat.divInt (arnd by0 9 - 2) 2 = numM by0 := rfl
 rw [hnum] at o1
 generalize hn : numM by0 = n at *
 rw [W_seq]
 generalize hK : @seqQ X ⟨_⟩ (outR X _ _ _) = K
 simp (maxSteps := 4000000) (disch := first | omega | (simp only [LL]; omega)) only [go_sem, mdlA_eq]
 rw [← hK, seqQ_normal]
 clear hK K
 rw [W_seq]
 generalize hK : @seqQ X ⟨_⟩ (outR X _ _ _) = K
 simp (maxSteps := 4000000) (disch := first | omega | (simp only [LL]; omega)) only [go_sem, cd, cp, r1, r2, r3, r4, o1, tp, weaks_cat, weaks_ptC, mdlA_eq]
 rw [← hK, seqQ_normal]
 clear hK K
 rw [W_seq]
 generalize hK : @seqQ X ⟨_⟩ (outR X _ _ _) = K
 simp (maxSteps := 4000000) (disch := first | omega | (simp only [LL]; omega)) only [go_sem, cd, cp, r1, r2, r3, r4, o1, tp, weaks_cat, weaks_ptC, mdlA_eq]
 rw [← hK, seqQ_normal]
 clear hK K
 rw [W_seq]
 generalize hK : @seqQ X ⟨_⟩ (outR X _ _ _) = K
 simp (maxSteps := 4000000) (disch := first | omega | (simp only [LL]; omega)) only [go_sem, cd, cp, r1, r2, r3, r4, o1, tp, weaks_cat, weaks_ptC, mdlA_eq]
 rw [← hK, seqQ_normal]
 clear hK K
 rw [W_seq]
 generalize hK : @seqQ X ⟨_⟩ (outR X _ _ _) = K
 simp (maxSteps := 4000000) (disch := first | omega | (simp only [LL]; omega)) only [go_sem, cd, cp, r1, r2, r3, r4, o1, tp, weaks_cat, weaks_ptC, mdlA_eq]
 rw [← hK, seqQ_normal]
 clear hK K
 rw [W_seq]
 generalize hK : @seqQ X ⟨_⟩ (outR X _ _ _) = K
 simp (maxSteps := 4000000) (disch := first | omega | (simp only [LL]; omega)) only [go_sem, cd, cp, r1, r2, r3, r4, o1, tp, weaks_cat, weaks_ptC, mdlA_eq]
 rw [← hK, seqQ_normal]
 clear hK K
 rw [W_seq]
 generalize hK : @seqQ X ⟨_⟩ (outR X _ _ _) = K
 simp (maxSteps := 4000000) (disch := first | omega | (simp only [LL]; omega)) only [go_sem, cd, cp, r1, r2, r3, r4, o1, tp, weaks_cat, weaks_ptC, mdlA_eq]
 rw [← hK, seqQ_normal]
 clear hK K
 rw [W_seq]
 generalize hK : @seqQ X ⟨_⟩ (outR X _ _ _) = K
 have hJ : ∀ (env : Nat → AV) (heap : Heap) (nx : Nat) (vd vr vs : AV) (pc : List AV) (D : List DofR) (p' : PartR) (R : List RopeR) (S : List Pt), r = .agg (mdlA ⟨D, m.parts.set (1 + k1).toNat p', R, S⟩) → env 4 = .ptr 0 0 → env 8 = .ptr 8 0 → env 9 = .int .i64 (1 + k1) → env 10 = .ptr 216 0 → 344 ≤ nx → heap 0 = some (.cells [vd, .sl 88 0 m.parts.length none 18, vr, vs] false false) → heap 8 = some (.cells [.ro [] 0 true, .ro [] 0 true, .ro [] 0 true, .ro [] 0 true] false false) →
   heap 88 = some (.cells (cat partA m.parts) true false) → heap 216 = some (.cells pc false false) → pc.length = 18 →
   (∀ H : Heap, (∀ b, b ≠ 8 → b ≠ 88 → H b = heap b) → (∃ a ids, snap H 11 vd = some (a, ids) ∧ a.weak = .ro (cat dofA D) D.length false) ∧ (∃ a ids, snap H 11 vr = some (a, ids) ∧ a.weak = .ro (cat ropeA R) R.length false) ∧ (∃ a ids, snap H 11 vs = some (a, ids) ∧ a.weak = .ro (ptC S) S.length false) ∧
    ∃ a ids, snaps (snap H 10) pc = some (a, ids) ∧ a.length = 18 ∧ AV.weak.go a = partA p') → K .normal ⟨env, heap, nx⟩ := by
  intro env heap nx vd vr vs pc D p' R S hr g4 g8 g9 g10 hnx e0 e8 e88 e216 hpc hsn
  subst hK
  rw [seqQ_normal]
  simp (maxSteps := 4000000) (disch := first | omega | (simp only [LL]; omega)) only [go_sem, g4, g8, g9, g10, e0, e8, e88, e216, cp, hpc]
  obtain ⟨⟨a1, i1, q1, w1⟩, ⟨a2, i2, q2, w2⟩, ⟨a3, i3, q3, w3⟩, a4, i4, q4, l4, w4⟩ := hsn (upd (upd heap 88 (some (.cells (splice (cat partA m.parts) ((1 + k1).toNat * 18) pc) true false))) 8 (some (.cells [vd, .sl 88 0 m.parts.length none 18, vr, vs] false false))) (fun b hb hb2 => by rw [upd_apply, if_neg hb, upd_apply, if_neg hb2])
  generalize upd (upd heap 88 (some (.cells (splice (cat partA m.parts) ((1 + k1).toNat * 18) pc) true false))) 8 (some (.cells [vd, .sl 88 0 m.parts.length none 18, vr, vs] false false)) = H at *
  have hsl : (splice (cat partA m.parts) ((1 + k1).toNat * 18) pc).length = m.parts.length * 18 := by
   rw [spliceB_len (by rw [cp, hpc]; omega), cp]
  obtain ⟨x, x1, x2⟩ := snapsB_spl (f := partA) (h := H) (d := 9) (l := m.parts) (i := (1 + k1).toNat) (o := 0) (a' := p') q4 (by rw [l4, hpc]) gp (by rw [hpc]; omega) (by rw [w4, splice_all (by rw [partA_eq, partA_eq]; rfl)])
  have x1 : snaps (snap H 10) (splice (cat partA m.parts) ((1 + k1).toNat * 18) pc) = some (x, i4) := x1
  rw [q1, q2, q3, hsl, List.take_of_length_le (by rw [hsl]; exact Nat.le_refl _), x1]
  simp (maxSteps := 4000000) (disch := first | omega | (simp only [LL]; omega)) only [go_sem, w1, w2, w3, x2]
  rw [hr, mdlA_eq]
  simp only [List.length_set]
 have gd := getD_some (l := m.dofs) (i := (arnd at0 (m.dofs.length : Int)).toNat) (by omega) dofZ
 unfold bentDofs bentPart at hr
 dsimp only at hr
 simp only [hn] at hr
 have r5 := M_15 by0 8 hb (by omega)
 have r6 := M_15 by0 14 hb (by omega)
 have r7 := M_15 by0 4 hb (by omega)
 have r8 := M_15 by0 5 hb (by omega)
 have r9 := M_15 at0 2 ha (by omega)
 have r10 := M_15 at0 3 ha (by omega)
 have b5 := arnd_bd by0 8 (by omega)
 have b6 := arnd_bd by0 14 (by omega)
 have b7 := arnd_bd by0 4 (by omega)
 have b8 := arnd_bd by0 5 (by omega)
 have b9 := arnd_bd at0 2 (by omega)
 have b10 := arnd_bd at0 3 (by omega)
 have hpb := hp2 p (List.mem_of_getElem? gp)
 obtain ⟨hrx, hsh, hshl, hsh0, hcl⟩ := hpb
 have hc0 := hc1 _ p (by omega) gp
 have rn : RS n 1 := hn ▸ rs_small (by omega) (by decide)
 have bp := M_51 p.shape at0 how by0 hsh hsh0 (by omega) ha hh hb
 have ad := M_49 (x := p.hx) (y := n) (by omega)
 have nm1 := M_50 1 ⟨by omega, by omega⟩
 have nm50 := M_50 50 ⟨by omega, by omega⟩
 have tm2 : -1 ≤ by0.tmod 2 ∧ by0.tmod 2 ≤ 1 := by
  rcases Int.le_total 0 by0 with h | h
  ·have := Int.tmod_lt_of_pos by0 (show (0 : Int) < 2 by decide)
   have := Int.tmod_nonneg 2 h
   omega
  ·have e : by0.tmod 2 = -((-by0).tmod 2) := by rw [Int.neg_tmod, Int.neg_neg]
   have := Int.tmod_lt_of_pos (-by0) (show (0 : Int) < 2 by decide)
   have := Int.tmod_nonneg 2 (show 0 ≤ -by0 by omega)
   omega
 have psl := ptC_length p.shape
 have pcl := cat_length (f := colA) p.cols
 have sd0 : ∀ (H : Heap) (D : List DofR) (g f : Bool), H 40 = some (.cells (cat dofA D) g f) → D.length = m.dofs.length → ∃ a ids, snap H 11 (.sl 40 0 m.dofs.length none 17) = some (a, ids) ∧ a.weak = .ro (cat dofA D) D.length false := fun H D g f h hl => by
  have c := cat_length (f := dofA) D
  rw [hl] at c
  refine ⟨.ro (cat dofA D) m.dofs.length false, [40], ?_, by rw [weak_ro, weaks_cat, hl]⟩
  rw [snap_sl, h]
  simp only [Nat.zero_add, c, Nat.le_refl, if_true, List.drop_zero]
  rw [List.take_of_length_le (by rw [c]; exact Nat.le_refl _), snaps_cat]
  rfl
 have sr0 : ∀ H : Heap, ∃ a ids, snap H 11 (.ro (cat ropeA m.ropes) m.ropes.length false) = some (a, ids) ∧ a.weak = .ro (cat ropeA m.ropes) m.ropes.length false := fun H => ⟨_, _, rfl, by rw [weak_ro, weaks_cat]⟩
 have ss0 : ∀ H : Heap, ∃ a ids, snap H 11 (.ro (ptC m.skip) m.skip.length false) = some (a, ids) ∧ a.weak = .ro (ptC m.skip) m.skip.length false := fun H => ⟨_, _, rfl, by rw [weak_ro, weaks_ptC]⟩
 have sp0 : ∀ (H : Heap) (p' : PartR), ∃ a ids, snaps (snap H 10) (partA p') = some (a, ids) ∧ a.length = 18 ∧ AV.weak.go a = partA p' := fun H p' => ⟨partA p', [], snaps_enc (f := partA) H 9 p', rfl, weaks_enc (f := partA) p'⟩
 have spc : ∀ (H : Heap) (C : List ColR) (b : Nat) (g f : Bool), H b = some (.cells (cat colA C) g f) → ∃ a ids, snaps (snap H 10) [.ro (ptC p.shape) p.shape.length false, zS (Rat.num (p.hx)), zD (Rat.num (p.hx)), zS (dz (p.hx)), zD (dz (p.hx)), zS (Rat.num (p.hy)), zD (Rat.num (p.hy)), zS (dz (p.hy)), zD (dz (p.hy)), .sl b 0 C.length none 13, zS (Rat.num (p.ro)), zD (Rat.num (p.ro)), zS (dz (p.ro)), zD (dz (p.ro)), zS (Rat.num (p.bo)), zD (Rat.num (p.bo)), zS (dz (p.bo)), zD (dz (p.bo))] = some (a, ids) ∧ a.length = 18 ∧ AV.weak.go a = partA { p with cols := C } := fun H C b g f h => by
  obtain ⟨q1, q2⟩ := sl_snap (d := 9) h (cat_length (f := colA) C) (snaps_cat H 8 C) (weaks_cat C)
  have hv : snaps (snap H (9 + 1)) [.sl b 0 C.length none 13] = some ([.ro (cat colA C) C.length false], [b]) := by
   rw [snaps_cons, q1]
   rfl
  obtain ⟨y, y1, y2⟩ := snapsB_spl (f := partA) (l := [p]) (i := 0) (o := 9) (a' := { p with cols := C }) hv rfl rfl (by simp) (by
   rw [weakgo_cons, q2]
   rfl)
  refine ⟨y, _, y1, ?_, ?_⟩
  ·rw [← weaksB_len, y2]
   rfl
  ·rw [y2]
   exact List.append_nil _
 generalize arnd at0 (m.dofs.length : Int) = d at *
 generalize m.dofs.getD d.toNat dofZ = x at *
 have e40 : True := trivial
 generalize arnd how 13 = c at *
 have hc : c = 0 ∨ c = 1 ∨ c = 2 ∨ c = 3 ∨ c = 4 ∨ c = 5 ∨ c = 6 ∨ c = 7 ∨ c = 8 ∨ c = 9 ∨ c = 10 ∨ c = 11 ∨ c = 12 := by omega
 rcases hc with rfl | rfl | rfl | rfl | rfl | rfl | rfl | rfl | rfl | rfl | rfl | rfl | rfl
 all_goals simp only [Int.reduceEq, if_true, if_false, reduceIte] at hr
 ·simp (maxSteps := 4000000) (disch := first | omega | (simp only [LL]; omega)) only [go_sem, cd, cp, r1, r2, r3, r4, o1, tp, e40, weaks_cat, weaks_ptC, psl, bp]
  refine hJ _ _ _ (.sl 40 0 m.dofs.length none 17) (.ro (cat ropeA m.ropes) m.ropes.length false) (.ro (ptC m.skip) m.skip.length false) [.ro (ptC (bentP p.shape at0 how by0)) (bentP p.shape at0 how by0).length false, zS (Rat.num (p.hx)), zD (Rat.num (p.hx)), zS (dz (p.hx)), zD (dz (p.hx)), zS (Rat.num (p.hy)), zD (Rat.num (p.hy)), zS (dz (p.hy)), zD (dz (p.hy)), .ro (cat colA p.cols) p.cols.length false, zS (Rat.num (p.ro)), zD (Rat.num (p.ro)), zS (dz (p.ro)), zD (dz (p.ro)), zS (Rat.num (p.bo)), zD (Rat.num (p.bo)), zS (dz (p.bo)), zD (dz (p.bo))] m.dofs { p with shape := bentP p.shape at0 how by0 } m.ropes m.skip hr ?_ ?_ ?_ ?_ (by omega) ?_ ?_ ?_ ?_ rfl ?_
  all_goals first | (simp (maxSteps := 4000000) (disch := first | omega | (simp only [LL]; omega)) only [go_sem, e40]; done) | (simp (maxSteps := 4000000) (disch := first | omega | (simp only [LL]; omega)) only [go_sem, e40, mdlA_eq]; done) | skip
  intro H hH
  exact ⟨sd0 H m.dofs true false (by rw [hH 40 (by omega) (by omega)]; simp (maxSteps := 4000000) (disch := first | omega | (simp only [LL]; omega)) only [go_sem]) rfl, sr0 H, ss0 H, sp0 H { p with shape := bentP p.shape at0 how by0 }⟩
 ·have ecc := colA_one (arnd by0 8 - 1) (Rat.divInt 1 1)
  simp (maxSteps := 4000000) (disch := first | omega | (simp only [LL]; omega)) only [go_sem, cd, cp, r1, r2, r3, r4, o1, tp, e40, weaks_cat, weaks_ptC, r5, pcl, nm1, replA_1, List.cons_append, List.nil_append, List.length_cons, List.length_nil]
  refine hJ _ _ _ (.sl 40 0 m.dofs.length none 17) (.ro (cat ropeA m.ropes) m.ropes.length false) (.ro (ptC m.skip) m.skip.length false) [.ro (ptC p.shape) p.shape.length false, zS (Rat.num (p.hx)), zD (Rat.num (p.hx)), zS (dz (p.hx)), zD (dz (p.hx)), zS (Rat.num (p.hy)), zD (Rat.num (p.hy)), zS (dz (p.hy)), zD (dz (p.hy)), .sl 440 0 (1 + p.cols.length) none 13, zS (Rat.num (p.ro)), zD (Rat.num (p.ro)), zS (dz (p.ro)), zD (dz (p.ro)), zS (Rat.num (p.bo)), zD (Rat.num (p.bo)), zS (dz (p.bo)), zD (dz (p.bo))] m.dofs { p with cols := ⟨arnd by0 8 - 1, Rat.divInt 1 1, 0, 0⟩ :: p.cols } m.ropes m.skip hr ?_ ?_ ?_ ?_ (by omega) ?_ ?_ ?_ ?_ rfl ?_
  rotate_right 1
  ·intro H hH
   have q440 : H 440 = some (.cells (cat colA (⟨arnd by0 8 - 1, Rat.divInt 1 1, 0, 0⟩ :: p.cols)) true false) := by rw [hH 440 (by omega) (by omega), cat_cons, ecc]; simp (maxSteps := 4000000) (disch := first | omega | (simp only [LL]; omega)) only [go_sem, List.cons_append, List.nil_append]
   have q := spc H _ 440 true false q440
   rw [List.length_cons, Nat.add_comm p.cols.length 1] at q
   exact ⟨sd0 H m.dofs true false (by rw [hH 40 (by omega) (by omega)]; simp (maxSteps := 4000000) (disch := first | omega | (simp only [LL]; omega)) only [go_sem]) rfl, sr0 H, ss0 H, q⟩
  all_goals first | (simp (maxSteps := 4000000) (disch := first | omega | (simp only [LL]; omega)) only [go_sem, e40]; done) | (simp (maxSteps := 4000000) (disch := first | omega | (simp only [LL]; omega)) only [go_sem, e40, mdlA_eq]; done)
 ·simp (maxSteps := 4000000) (disch := first | omega | (simp only [LL]; omega)) only [go_sem, cd, cp, r1, r2, r3, r4, o1, tp, e40, weaks_cat, weaks_ptC]
  refine hJ _ _ _ (.sl 40 0 m.dofs.length none 17) (.ro (cat ropeA m.ropes) m.ropes.length false) (.ro (ptC m.skip) m.skip.length false) [.ro (ptC p.shape) p.shape.length false, zS (Rat.num (p.hx)), zD (Rat.num (p.hx)), zS (dz (p.hx)), zD (dz (p.hx)), zS (Rat.num (p.hy)), zD (Rat.num (p.hy)), zS (dz (p.hy)), zD (dz (p.hy)), .ro (cat colA p.cols) p.cols.length false, zS (Rat.num (n)), zD (Rat.num (n)), zS (dz (n)), zD (dz (n)), zS (Rat.num (p.bo)), zD (Rat.num (p.bo)), zS (dz (p.bo)), zD (dz (p.bo))] m.dofs { p with ro := n } m.ropes m.skip hr ?_ ?_ ?_ ?_ (by omega) ?_ ?_ ?_ ?_ rfl ?_
  all_goals first | (simp (maxSteps := 4000000) (disch := first | omega | (simp only [LL]; omega)) only [go_sem, e40]; done) | (simp (maxSteps := 4000000) (disch := first | omega | (simp only [LL]; omega)) only [go_sem, e40, mdlA_eq]; done) | skip
  intro H hH
  exact ⟨sd0 H m.dofs true false (by rw [hH 40 (by omega) (by omega)]; simp (maxSteps := 4000000) (disch := first | omega | (simp only [LL]; omega)) only [go_sem]) rfl, sr0 H, ss0 H, sp0 H { p with ro := n }⟩
 ·simp (maxSteps := 4000000) (disch := first | omega | (simp only [LL]; omega)) only [go_sem, cd, cp, r1, r2, r3, r4, o1, tp, e40, weaks_cat, weaks_ptC]
  refine hJ _ _ _ (.sl 40 0 m.dofs.length none 17) (.ro (cat ropeA m.ropes) m.ropes.length false) (.ro (ptC m.skip) m.skip.length false) [.ro (ptC p.shape) p.shape.length false, zS (Rat.num (p.hx)), zD (Rat.num (p.hx)), zS (dz (p.hx)), zD (dz (p.hx)), zS (Rat.num (p.hy)), zD (Rat.num (p.hy)), zS (dz (p.hy)), zD (dz (p.hy)), .ro (cat colA p.cols) p.cols.length false, zS (Rat.num (p.ro)), zD (Rat.num (p.ro)), zS (dz (p.ro)), zD (dz (p.ro)), zS (Rat.num (n)), zD (Rat.num (n)), zS (dz (n)), zD (dz (n))] m.dofs { p with bo := n } m.ropes m.skip hr ?_ ?_ ?_ ?_ (by omega) ?_ ?_ ?_ ?_ rfl ?_
  all_goals first | (simp (maxSteps := 4000000) (disch := first | omega | (simp only [LL]; omega)) only [go_sem, e40]; done) | (simp (maxSteps := 4000000) (disch := first | omega | (simp only [LL]; omega)) only [go_sem, e40, mdlA_eq]; done) | skip
  intro H hH
  exact ⟨sd0 H m.dofs true false (by rw [hH 40 (by omega) (by omega)]; simp (maxSteps := 4000000) (disch := first | omega | (simp only [LL]; omega)) only [go_sem]) rfl, sr0 H, ss0 H, sp0 H { p with bo := n }⟩
 ·have hg0 := getD_some (l := p.cols) (i := 0) (by omega) col0
  have hd0 := cat_drop (f := colA) hg0
  have hs0 := cat_splice (f := colA) (l := p.cols) (i := 0) (o := 0) (a' := ⟨(p.cols.getD 0 col0).dof, 0, 0, 0⟩) (vs := [.int .i64 (p.cols.getD 0 col0).dof, .bool false, .ro [] 0 false, .bool false, .ro [] 0 false, .bool false, .ro [] 0 false, .bool false, .ro [] 0 false, .bool false, .ro [] 0 false, .bool false, .ro [] 0 false]) hg0 (by simp) (by rw [colA_zero]; rfl)
  rw [Nat.zero_mul, List.drop_zero, colA_eq] at hd0
  simp only [Nat.zero_mul, Nat.add_zero] at hs0
  have hld : ∀ rd, ld1 (some (cat colA p.cols, rd)) = some (.loc ⟨.int .i64 (p.cols.getD 0 col0).dof, rd, []⟩) := fun rd => by rw [hd0]; exact ld1_cons ..
  simp (maxSteps := 4000000) (disch := first | omega | (simp only [LL]; omega)) only [go_sem, cd, cp, r1, r2, r3, r4, o1, tp, e40, weaks_cat, weaks_ptC, pcl, hld, hs0, List.cons_append, List.nil_append]
  refine hJ _ _ _ (.sl 40 0 m.dofs.length none 17) (.ro (cat ropeA m.ropes) m.ropes.length false) (.ro (ptC m.skip) m.skip.length false) [.ro (ptC p.shape) p.shape.length false, zS (Rat.num (p.hx)), zD (Rat.num (p.hx)), zS (dz (p.hx)), zD (dz (p.hx)), zS (Rat.num (p.hy)), zD (Rat.num (p.hy)), zS (dz (p.hy)), zD (dz (p.hy)), .sl 448 0 p.cols.length none 13, zS (Rat.num (p.ro)), zD (Rat.num (p.ro)), zS (dz (p.ro)), zD (dz (p.ro)), zS (Rat.num (p.bo)), zD (Rat.num (p.bo)), zS (dz (p.bo)), zD (dz (p.bo))] m.dofs { p with cols := p.cols.set 0 ⟨(p.cols.getD 0 col0).dof, 0, 0, 0⟩ } m.ropes m.skip hr ?_ ?_ ?_ ?_ (by omega) ?_ ?_ ?_ ?_ rfl ?_
  rotate_right 1
  ·intro H hH
   have q448 : H 448 = some (.cells (cat colA (p.cols.set 0 ⟨(p.cols.getD 0 col0).dof, 0, 0, 0⟩)) true false) := by rw [hH 448 (by omega) (by omega)]; simp (maxSteps := 4000000) (disch := first | omega | (simp only [LL]; omega)) only [go_sem]
   have q := spc H _ 448 true false q448
   rw [List.length_set] at q
   exact ⟨sd0 H m.dofs true false (by rw [hH 40 (by omega) (by omega)]; simp (maxSteps := 4000000) (disch := first | omega | (simp only [LL]; omega)) only [go_sem]) rfl, sr0 H, ss0 H, q⟩
  all_goals first | (simp (maxSteps := 4000000) (disch := first | omega | (simp only [LL]; omega)) only [go_sem, e40]; done) | (simp (maxSteps := 4000000) (disch := first | omega | (simp only [LL]; omega)) only [go_sem, e40, mdlA_eq]; done)
 ·have hsp := cat_splice (f := dofA) (l := m.dofs) (i := d.toNat) (o := 0) (a' := { x with inv := n }) (vs := [zS (Rat.num (n)), zD (Rat.num (n)), zS (dz (n)), zD (dz (n))]) gd (by simp) rfl
  have hls : (m.dofs.set d.toNat { x with inv := n }).length = m.dofs.length := List.length_set
  simp (maxSteps := 4000000) (disch := first | omega | (simp only [LL]; omega)) only [go_sem, cd, cp, r1, r2, r3, r4, o1, tp, e40, weaks_cat, weaks_ptC, hsp]
  refine hJ _ _ _ (.sl 40 0 m.dofs.length none 17) (.ro (cat ropeA m.ropes) m.ropes.length false) (.ro (ptC m.skip) m.skip.length false) [.ro (ptC p.shape) p.shape.length false, zS (Rat.num (p.hx)), zD (Rat.num (p.hx)), zS (dz (p.hx)), zD (dz (p.hx)), zS (Rat.num (p.hy)), zD (Rat.num (p.hy)), zS (dz (p.hy)), zD (dz (p.hy)), .ro (cat colA p.cols) p.cols.length false, zS (Rat.num (p.ro)), zD (Rat.num (p.ro)), zS (dz (p.ro)), zD (dz (p.ro)), zS (Rat.num (p.bo)), zD (Rat.num (p.bo)), zS (dz (p.bo)), zD (dz (p.bo))] (m.dofs.set d.toNat { x with inv := n }) p m.ropes m.skip hr ?_ ?_ ?_ ?_ (by omega) ?_ ?_ ?_ ?_ rfl ?_
  all_goals first | (simp (maxSteps := 4000000) (disch := first | omega | (simp only [LL]; omega)) only [go_sem, e40]; done) | (simp (maxSteps := 4000000) (disch := first | omega | (simp only [LL]; omega)) only [go_sem, e40, mdlA_eq]; done) | skip
  intro H hH
  exact ⟨sd0 H (m.dofs.set d.toNat { x with inv := n }) true false (by rw [hH 40 (by omega) (by omega)]; simp (maxSteps := 4000000) (disch := first | omega | (simp only [LL]; omega)) only [go_sem]) hls, sr0 H, ss0 H, sp0 H p⟩
 ·have hsp := cat_splice (f := dofA) (l := m.dofs) (i := d.toNat) (o := 9) (a' := { x with lo := n }) (vs := [zS (Rat.num (n)), zD (Rat.num (n)), zS (dz (n)), zD (dz (n))]) gd (by simp) rfl
  have hls : (m.dofs.set d.toNat { x with lo := n }).length = m.dofs.length := List.length_set
  simp (maxSteps := 4000000) (disch := first | omega | (simp only [LL]; omega)) only [go_sem, cd, cp, r1, r2, r3, r4, o1, tp, e40, weaks_cat, weaks_ptC, hsp]
  refine hJ _ _ _ (.sl 40 0 m.dofs.length none 17) (.ro (cat ropeA m.ropes) m.ropes.length false) (.ro (ptC m.skip) m.skip.length false) [.ro (ptC p.shape) p.shape.length false, zS (Rat.num (p.hx)), zD (Rat.num (p.hx)), zS (dz (p.hx)), zD (dz (p.hx)), zS (Rat.num (p.hy)), zD (Rat.num (p.hy)), zS (dz (p.hy)), zD (dz (p.hy)), .ro (cat colA p.cols) p.cols.length false, zS (Rat.num (p.ro)), zD (Rat.num (p.ro)), zS (dz (p.ro)), zD (dz (p.ro)), zS (Rat.num (p.bo)), zD (Rat.num (p.bo)), zS (dz (p.bo)), zD (dz (p.bo))] (m.dofs.set d.toNat { x with lo := n }) p m.ropes m.skip hr ?_ ?_ ?_ ?_ (by omega) ?_ ?_ ?_ ?_ rfl ?_
  all_goals first | (simp (maxSteps := 4000000) (disch := first | omega | (simp only [LL]; omega)) only [go_sem, e40]; done) | (simp (maxSteps := 4000000) (disch := first | omega | (simp only [LL]; omega)) only [go_sem, e40, mdlA_eq]; done) | skip
  intro H hH
  exact ⟨sd0 H (m.dofs.set d.toNat { x with lo := n }) true false (by rw [hH 40 (by omega) (by omega)]; simp (maxSteps := 4000000) (disch := first | omega | (simp only [LL]; omega)) only [go_sem]) hls, sr0 H, ss0 H, sp0 H p⟩
 ·have hsp := cat_splice (f := dofA) (l := m.dofs) (i := d.toNat) (o := 8) (a' := { x with bd := !x.bd }) (vs := [.bool (!x.bd)]) gd (by simp) rfl
  have hdb : (cat dofA m.dofs).drop (d.toNat * 17 + 8) = [.bool x.bd, zS (Rat.num (x.lo)), zD (Rat.num (x.lo)), zS (dz (x.lo)), zD (dz (x.lo)), zS (Rat.num (x.hi)), zD (Rat.num (x.hi)), zS (dz (x.hi)), zD (dz (x.hi))] ++ cat dofA (m.dofs.drop (d.toNat + 1)) := by rw [← List.drop_drop, cat_drop gd]; rfl
  have hls : (m.dofs.set d.toNat { x with bd := !x.bd }).length = m.dofs.length := List.length_set
  simp (maxSteps := 4000000) (disch := first | omega | (simp only [LL]; omega)) only [go_sem, cd, cp, r1, r2, r3, r4, o1, tp, e40, weaks_cat, weaks_ptC, hsp, hdb]
  refine hJ _ _ _ (.sl 40 0 m.dofs.length none 17) (.ro (cat ropeA m.ropes) m.ropes.length false) (.ro (ptC m.skip) m.skip.length false) [.ro (ptC p.shape) p.shape.length false, zS (Rat.num (p.hx)), zD (Rat.num (p.hx)), zS (dz (p.hx)), zD (dz (p.hx)), zS (Rat.num (p.hy)), zD (Rat.num (p.hy)), zS (dz (p.hy)), zD (dz (p.hy)), .ro (cat colA p.cols) p.cols.length false, zS (Rat.num (p.ro)), zD (Rat.num (p.ro)), zS (dz (p.ro)), zD (dz (p.ro)), zS (Rat.num (p.bo)), zD (Rat.num (p.bo)), zS (dz (p.bo)), zD (dz (p.bo))] (m.dofs.set d.toNat { x with bd := !x.bd }) p m.ropes m.skip hr ?_ ?_ ?_ ?_ (by omega) ?_ ?_ ?_ ?_ rfl ?_
  all_goals first | (simp (maxSteps := 4000000) (disch := first | omega | (simp only [LL]; omega)) only [go_sem, e40]; done) | (simp (maxSteps := 4000000) (disch := first | omega | (simp only [LL]; omega)) only [go_sem, e40, mdlA_eq]; done) | skip
  intro H hH
  exact ⟨sd0 H (m.dofs.set d.toNat { x with bd := !x.bd }) true false (by rw [hH 40 (by omega) (by omega)]; simp (maxSteps := 4000000) (disch := first | omega | (simp only [LL]; omega)) only [go_sem]) hls, sr0 H, ss0 H, sp0 H p⟩
 ·have hbr := ropeB_dirs at0 by0 b9
  have hrl : (m.ropes ++ [bentRope at0 by0]).length = m.ropes.length + 1 := by rw [List.length_append]; rfl
  by_cases hs0 : m.ropes.length = 0
  ·have hz : m.ropes = [] := List.length_eq_zero_iff.1 hs0
   simp (maxSteps := 4000000) (disch := first | omega | (simp only [LL]; omega)) only [go_sem, cd, cp, r1, r2, r3, r4, o1, tp, e40, weaks_cat, weaks_ptC, r7, r8, r9, nm50, tm2, cr, hs0, replA_1, repl2, List.cons_append, List.nil_append]
   refine ⟨by kernel_rfl, ?_⟩
   refine hJ _ _ _ (.sl 40 0 m.dofs.length none 17) (.sl 672 0 1 none 23) (.ro (ptC m.skip) m.skip.length false) [.ro (ptC p.shape) p.shape.length false, zS (Rat.num (p.hx)), zD (Rat.num (p.hx)), zS (dz (p.hx)), zD (dz (p.hx)), zS (Rat.num (p.hy)), zD (Rat.num (p.hy)), zS (dz (p.hy)), zD (dz (p.hy)), .ro (cat colA p.cols) p.cols.length false, zS (Rat.num (p.ro)), zD (Rat.num (p.ro)), zS (dz (p.ro)), zD (dz (p.ro)), zS (Rat.num (p.bo)), zD (Rat.num (p.bo)), zS (dz (p.bo)), zD (dz (p.bo))] m.dofs p (m.ropes ++ [bentRope at0 by0]) m.skip hr ?_ ?_ ?_ ?_ (by omega) ?_ ?_ ?_ ?_ rfl ?_
   rotate_right 1
   ·intro H hH
    have q672 : H 672 = some (.cells (cat ropeA m.ropes ++ splice (ropeA (bentRope at0 by0)) 18 [.sl 608 0 (1 + arnd at0 2).toNat (some 2) 3]) true false) := by rw [hH 672 (by omega) (by omega), hz, ropeB_eq]; simp (maxSteps := 4000000) (disch := first | omega | (simp only [LL]; omega)) only [go_sem] <;> rfl
    have q608 : H 608 = some (.cells [.int .i64 1, .int .i64 0, .int .i64 1, .int .i64 (3 + by0.tmod 2), .int .i64 4, .int .i64 5] false false) := by rw [hH 608 (by omega) (by omega)]; simp (maxSteps := 4000000) (disch := first | omega | (simp only [LL]; omega)) only [go_sem]
    exact ⟨sd0 H m.dofs true false (by rw [hH 40 (by omega) (by omega)]; simp (maxSteps := 4000000) (disch := first | omega | (simp only [LL]; omega)) only [go_sem]) rfl, rope_snap (n := 1) m.ropes (bentRope at0 by0) q672 q608 hbr.1 hbr.2.1 hbr.2.2 (by omega), ss0 H, sp0 H p⟩
   all_goals first | (simp (maxSteps := 4000000) (disch := first | omega | (simp only [LL]; omega)) only [go_sem, e40]; done) | (simp (maxSteps := 4000000) (disch := first | omega | (simp only [LL]; omega)) only [go_sem, e40, mdlA_eq]; done)
  ·simp (maxSteps := 4000000) (disch := first | omega | (simp only [LL]; omega)) only [go_sem, cd, cp, r1, r2, r3, r4, o1, tp, e40, weaks_cat, weaks_ptC, r7, r8, r9, nm50, tm2, cr, replA_1, repl2, List.cons_append, List.nil_append]
   refine hJ _ _ _ (.sl 40 0 m.dofs.length none 17) (.sl 672 0 (m.ropes.length + 1) none 23) (.ro (ptC m.skip) m.skip.length false) [.ro (ptC p.shape) p.shape.length false, zS (Rat.num (p.hx)), zD (Rat.num (p.hx)), zS (dz (p.hx)), zD (dz (p.hx)), zS (Rat.num (p.hy)), zD (Rat.num (p.hy)), zS (dz (p.hy)), zD (dz (p.hy)), .ro (cat colA p.cols) p.cols.length false, zS (Rat.num (p.ro)), zD (Rat.num (p.ro)), zS (dz (p.ro)), zD (dz (p.ro)), zS (Rat.num (p.bo)), zD (Rat.num (p.bo)), zS (dz (p.bo)), zD (dz (p.bo))] m.dofs p (m.ropes ++ [bentRope at0 by0]) m.skip hr ?_ ?_ ?_ ?_ (by omega) ?_ ?_ ?_ ?_ rfl ?_
   rotate_right 1
   ·intro H hH
    have q672 : H 672 = some (.cells (cat ropeA m.ropes ++ splice (ropeA (bentRope at0 by0)) 18 [.sl 608 0 (1 + arnd at0 2).toNat (some 2) 3]) true false) := by rw [hH 672 (by omega) (by omega), ropeB_eq]; simp (maxSteps := 4000000) (disch := first | omega | (simp only [LL]; omega)) only [go_sem] <;> rfl
    have q608 : H 608 = some (.cells [.int .i64 1, .int .i64 0, .int .i64 1, .int .i64 (3 + by0.tmod 2), .int .i64 4, .int .i64 5] false false) := by rw [hH 608 (by omega) (by omega)]; simp (maxSteps := 4000000) (disch := first | omega | (simp only [LL]; omega)) only [go_sem]
    exact ⟨sd0 H m.dofs true false (by rw [hH 40 (by omega) (by omega)]; simp (maxSteps := 4000000) (disch := first | omega | (simp only [LL]; omega)) only [go_sem]) rfl, rope_snap m.ropes (bentRope at0 by0) q672 q608 hbr.1 hbr.2.1 hbr.2.2 rfl, ss0 H, sp0 H p⟩
   all_goals first | (simp (maxSteps := 4000000) (disch := first | omega | (simp only [LL]; omega)) only [go_sem, e40]; done) | (simp (maxSteps := 4000000) (disch := first | omega | (simp only [LL]; omega)) only [go_sem, e40, mdlA_eq]; done)
 ·by_cases hs0 : m.skip.length = 0
  ·have hz : m.skip = [] := List.length_eq_zero_iff.1 hs0
   simp (maxSteps := 4000000) (disch := first | omega | (simp only [LL]; omega)) only [go_sem, cd, cp, r1, r2, r3, r4, o1, tp, e40, weaks_cat, weaks_ptC, r10, r7, cs, hs0, replA_1, List.cons_append, List.nil_append]
   refine hJ _ _ _ (.sl 40 0 m.dofs.length none 17) (.ro (cat ropeA m.ropes) m.ropes.length false) (.sl 584 0 1 none 2) [.ro (ptC p.shape) p.shape.length false, zS (Rat.num (p.hx)), zD (Rat.num (p.hx)), zS (dz (p.hx)), zD (dz (p.hx)), zS (Rat.num (p.hy)), zD (Rat.num (p.hy)), zS (dz (p.hy)), zD (dz (p.hy)), .ro (cat colA p.cols) p.cols.length false, zS (Rat.num (p.ro)), zD (Rat.num (p.ro)), zS (dz (p.ro)), zD (dz (p.ro)), zS (Rat.num (p.bo)), zD (Rat.num (p.bo)), zS (dz (p.bo)), zD (dz (p.bo))] m.dofs p m.ropes (m.skip ++ [(arnd at0 3, arnd by0 4)]) hr ?_ ?_ ?_ ?_ (by omega) ?_ ?_ ?_ ?_ rfl ?_
   rotate_right 1
   ·intro H hH
    have q584 : H 584 = some (.cells (ptC (m.skip ++ [(arnd at0 3, arnd by0 4)])) true false) := by rw [hH 584 (by omega) (by omega), hz]; simp (maxSteps := 4000000) (disch := first | omega | (simp only [LL]; omega)) only [go_sem]; rfl
    obtain ⟨q1, q2⟩ := sl_snap (n := 1) (k := 2) (d := 10) q584 (by rw [hz]; rfl) (snaps_ptC H 9 _) (weaks_ptC _)
    exact ⟨sd0 H m.dofs true false (by rw [hH 40 (by omega) (by omega)]; simp (maxSteps := 4000000) (disch := first | omega | (simp only [LL]; omega)) only [go_sem]) rfl, sr0 H, ⟨_, _, q1, by rw [q2, hz]; rfl⟩, sp0 H p⟩
   all_goals first | (simp (maxSteps := 4000000) (disch := first | omega | (simp only [LL]; omega)) only [go_sem, e40]; done) | (simp (maxSteps := 4000000) (disch := first | omega | (simp only [LL]; omega)) only [go_sem, e40, mdlA_eq]; done)
  ·simp (maxSteps := 4000000) (disch := first | omega | (simp only [LL]; omega)) only [go_sem, cd, cp, r1, r2, r3, r4, o1, tp, e40, weaks_cat, weaks_ptC, r10, r7, cs, replA_1, List.cons_append, List.nil_append]
   refine hJ _ _ _ (.sl 40 0 m.dofs.length none 17) (.ro (cat ropeA m.ropes) m.ropes.length false) (.sl 584 0 (m.skip.length + 1) none 2) [.ro (ptC p.shape) p.shape.length false, zS (Rat.num (p.hx)), zD (Rat.num (p.hx)), zS (dz (p.hx)), zD (dz (p.hx)), zS (Rat.num (p.hy)), zD (Rat.num (p.hy)), zS (dz (p.hy)), zD (dz (p.hy)), .ro (cat colA p.cols) p.cols.length false, zS (Rat.num (p.ro)), zD (Rat.num (p.ro)), zS (dz (p.ro)), zD (dz (p.ro)), zS (Rat.num (p.bo)), zD (Rat.num (p.bo)), zS (dz (p.bo)), zD (dz (p.bo))] m.dofs p m.ropes (m.skip ++ [(arnd at0 3, arnd by0 4)]) hr ?_ ?_ ?_ ?_ (by omega) ?_ ?_ ?_ ?_ rfl ?_
   rotate_right 1
   ·intro H hH
    have hls : (m.skip ++ [(arnd at0 3, arnd by0 4)]).length = m.skip.length + 1 := by rw [List.length_append]; rfl
    have q584 : H 584 = some (.cells (ptC (m.skip ++ [(arnd at0 3, arnd by0 4)])) true false) := by rw [hH 584 (by omega) (by omega), ptC_append]; simp (maxSteps := 4000000) (disch := first | omega | (simp only [LL]; omega)) only [go_sem]; rfl
    obtain ⟨q1, q2⟩ := sl_snap (n := m.skip.length + 1) (k := 2) (d := 10) q584 (by rw [ptC_length, hls]; omega) (snaps_ptC H 9 _) (weaks_ptC _)
    exact ⟨sd0 H m.dofs true false (by rw [hH 40 (by omega) (by omega)]; simp (maxSteps := 4000000) (disch := first | omega | (simp only [LL]; omega)) only [go_sem]) rfl, sr0 H, ⟨_, _, q1, by rw [q2, hls]⟩, sp0 H p⟩
   all_goals first | (simp (maxSteps := 4000000) (disch := first | omega | (simp only [LL]; omega)) only [go_sem, e40]; done) | (simp (maxSteps := 4000000) (disch := first | omega | (simp only [LL]; omega)) only [go_sem, e40, mdlA_eq]; done)
 ·simp (maxSteps := 4000000) (disch := first | omega | (simp only [LL]; omega)) only [go_sem, cd, cp, r1, r2, r3, r4, o1, tp, e40, weaks_cat, weaks_ptC, r6, nm1, List.cons_append, List.nil_append]
  refine W_loop X (fun (q : Nat × Nat) t => (q.1 : Int) ≤ arnd by0 14 ∧ t.env 3 = .int .i64 by0 ∧ t.env 4 = .ptr 0 0 ∧ t.env 8 = .ptr 8 0 ∧ t.env 9 = .int .i64 (1 + k1) ∧ t.env 10 = .ptr 216 0 ∧ t.env 13 = .int .i64 q.1 ∧ 528 ≤ t.next ∧ (q.2 < t.next ∧ q.2 ≠ 0 ∧ q.2 ≠ 8 ∧ q.2 ≠ 88 ∧ q.2 ≠ 216) ∧
   t.heap 0 = some (.cells [.sl q.2 0 (m.dofs.length + q.1) none 17, .sl 88 0 m.parts.length none 18, .ro (cat ropeA m.ropes) m.ropes.length false, .ro (ptC m.skip) m.skip.length false] false false) ∧ t.heap 8 = some (.cells [.ro [] 0 true, .ro [] 0 true, .ro [] 0 true, .ro [] 0 true] false false) ∧ t.heap 88 = some (.cells (cat partA m.parts) true false) ∧ t.heap 216 = some (.cells [.ro (ptC p.shape) p.shape.length false, zS (Rat.num (p.hx)), zD (Rat.num (p.hx)), zS (dz (p.hx)), zD (dz (p.hx)), zS (Rat.num (p.hy)), zD (Rat.num (p.hy)), zS (dz (p.hy)), zD (dz (p.hy)), .ro (cat colA p.cols) p.cols.length false, zS (Rat.num (p.ro)), zD (Rat.num (p.ro)), zS (dz (p.ro)), zD (dz (p.ro)), zS (Rat.num (p.bo)), zD (Rat.num (p.bo)), zS (dz (p.bo)), zD (dz (p.bo))] false false) ∧
   t.heap q.2 = some (.cells (cat dofA (m.dofs ++ List.replicate q.1 newDof)) true false)) (fun q => (arnd by0 14).toNat - q.1) ?_ (0, 40) _ ?_
  ·rintro ⟨k, B⟩ ⟨env, heap, nx⟩ ⟨hk, g3, g4, g8, g9, g10, g13, hnx, ⟨hB, hB0, hB8, hB88, hB216⟩, h0, h8, h88, h216, hhB⟩
   simp only at hk g3 g4 g8 g9 g10 g13 hnx hB hB0 hB8 hB88 hB216 h0 h8 h88 h216 hhB
   have hcl := cat_length (f := dofA) (m.dofs ++ List.replicate k newDof)
   rw [List.length_append, List.length_replicate] at hcl
   have hcs : cat dofA (m.dofs ++ List.replicate (k + 1) newDof) = cat dofA (m.dofs ++ List.replicate k newDof) ++ dofA newDof := by
    rw [List.replicate_succ', ← List.append_assoc, cat_snoc]
   rw [dofN_eq] at hcs
   by_cases hlt : (k : Int) < arnd by0 14
   ·simp (maxSteps := 4000000) (disch := first | omega | (simp only [LL]; omega)) only [go_sem, r6, nm1, replA_1, g3, g4, g8, g9, g10, g13, h0, h8, h88, h216, hhB, hcl, List.cons_append, List.nil_append]
    refine ⟨(k + 1, nx + 32 + 40), ?_, by simp only; omega⟩
    simp only
    repeat' apply And.intro
    all_goals first | omega | rfl | (simp (maxSteps := 4000000) (disch := first | omega | (simp only [LL]; omega)) only [go_sem, hcs]; done) | (simp (maxSteps := 4000000) (disch := first | omega | (simp only [LL]; omega)) only [go_sem, h0, h8, h88, h216]; done)
   ·obtain rfl : k = (arnd by0 14).toNat := by omega
    simp (maxSteps := 4000000) (disch := first | omega | (simp only [LL]; omega)) only [go_sem, r6, nm1, g3, g4, g8, g9, g10, g13, h0, h8, h88, h216, hhB, hcl, List.cons_append, List.nil_append]
    refine hJ _ _ _ (.sl B 0 (m.dofs.length + (arnd by0 14).toNat) none 17) (.ro (cat ropeA m.ropes) m.ropes.length false) (.ro (ptC m.skip) m.skip.length false) [.ro (ptC p.shape) p.shape.length false, zS (Rat.num (p.hx)), zD (Rat.num (p.hx)), zS (dz (p.hx)), zD (dz (p.hx)), zS (Rat.num (p.hy)), zD (Rat.num (p.hy)), zS (dz (p.hy)), zD (dz (p.hy)), .ro (cat colA p.cols) p.cols.length false, zS (Rat.num (p.ro)), zD (Rat.num (p.ro)), zS (dz (p.ro)), zD (dz (p.ro)), zS (Rat.num (p.bo)), zD (Rat.num (p.bo)), zS (dz (p.bo)), zD (dz (p.bo))] (m.dofs ++ List.replicate (arnd by0 14).toNat newDof) p m.ropes m.skip hr ?_ ?_ ?_ ?_ (by omega) ?_ ?_ ?_ ?_ rfl ?_
    rotate_right 1
    ·intro H hH
     obtain ⟨q1, q2⟩ := sl_snap (d := 10) (hH B hB8 hB88 ▸ hhB : H B = _) hcl (snaps_cat H 9 _) (weaks_cat _)
     exact ⟨⟨_, _, q1, by rw [q2, List.length_append, List.length_replicate]⟩, sr0 H, ss0 H, sp0 H p⟩
    all_goals first | assumption | (simp (maxSteps := 4000000) (disch := first | omega | (simp only [LL]; omega)) only [go_sem, g3, g4, g8, g9, g10, g13, h0, h8, h88, h216]; done)
  ·refine ⟨by omega, ?_⟩
   simp only
   repeat' apply And.intro
   all_goals first | omega | rfl | (simp (maxSteps := 4000000) (disch := first | omega | (simp only [LL]; omega)) only [go_sem, e40]; done) | (simp (maxSteps := 4000000) (disch := first | omega | (simp only [LL]; omega)) only [go_sem, e40, mdlA_eq, List.replicate_zero, List.append_nil]; done)
 ·simp (maxSteps := 4000000) (disch := first | omega | (simp only [LL]; omega)) only [go_sem, cd, cp, r1, r2, r3, r4, o1, tp, e40, weaks_cat, weaks_ptC, r7]
  refine hJ _ _ _ (.sl 40 0 m.dofs.length none 17) (.ro (cat ropeA m.ropes) m.ropes.length false) (.ro (ptC m.skip) m.skip.length false) [.ro (ptC p.shape) p.shape.length false, zS (Rat.num (p.hx)), zD (Rat.num (p.hx)), zS (dz (p.hx)), zD (dz (p.hx)), zS (Rat.num (p.hy)), zD (Rat.num (p.hy)), zS (dz (p.hy)), zD (dz (p.hy)), .ro (cat colA p.cols) p.cols.length false, zS (Rat.num (p.ro)), zD (Rat.num (p.ro)), zS (dz (p.ro)), zD (dz (p.ro)), zS (Rat.num (p.bo)), zD (Rat.num (p.bo)), zS (dz (p.bo)), zD (dz (p.bo))] (m.dofs.set d.toNat { x with load := loadB (arnd by0 4) }) p m.ropes m.skip hr ?_ ?_ ?_ ?_ (by omega) ?_ ?_ ?_ ?_ rfl ?_
  all_goals first | (simp (maxSteps := 4000000) (disch := first | omega | (simp only [LL]; omega)) only [go_sem, e40]; done) | (simp (maxSteps := 4000000) (disch := first | omega | (simp only [LL]; omega)) only [go_sem, e40, mdlA_eq]; done) | skip
  intro H hH
  have q40 : H 40 = some (.cells (splice (cat dofA m.dofs) (d.toNat * 17 + 4) [.bool false, .sl 576 0 1 (some 1) 1, .bool false, .sl 592 0 1 (some 1) 1]) true false) := by rw [hH 40 (by omega) (by omega)]; simp (maxSteps := 4000000) (disch := first | omega | (simp only [LL]; omega)) only [go_sem]
  have q576 : H 576 = some (.cells [.int .i64 (arnd by0 4)] false false) := by rw [hH 576 (by omega) (by omega)]; simp (maxSteps := 4000000) (disch := first | omega | (simp only [LL]; omega)) only [go_sem]
  have q592 : H 592 = some (.cells [.int .i64 2] false false) := by rw [hH 592 (by omega) (by omega)]; simp (maxSteps := 4000000) (disch := first | omega | (simp only [LL]; omega)) only [go_sem]
  have hv : snaps (snap H (9 + 1)) [.bool false, .sl 576 0 1 (some 1) 1, .bool false, .sl 592 0 1 (some 1) 1] = some ([.bool false, .ro [.int .i64 (arnd by0 4)] 1 false, .bool false, .ro [.int .i64 2] 1 false], [576, 592]) := by
   simp (maxSteps := 4000000) (disch := first | omega | (simp only [LL]; omega)) only [go_sem, q576, q592, List.append_nil, List.nil_append, List.cons_append]
  have hld : ∀ w : Int, 0 ≤ w ∧ w < 4 → ([AV.bool false, .ro [.int .i64 w] 1 false, .bool false, .ro [.int .i64 2] 1 false] : List AV) = [(loadB w).c1, (loadB w).c2, (loadB w).c3, (loadB w).c4] := fun w hw => by
   have : w = 0 ∨ w = 1 ∨ w = 2 ∨ w = 3 := by omega
   rcases this with rfl | rfl | rfl | rfl
   ·exact loadB0
   ·exact loadB1
   ·exact loadB2
   ·exact loadB3
  obtain ⟨y, y1, y2⟩ := snapsB_spl (f := dofA) (l := m.dofs) (i := d.toNat) (o := 4) (a' := { x with load := loadB (arnd by0 4) }) hv rfl gd (by simp) (by
   simp only [weakgo_cons, weakgo_nil, weak_bool, weak_ro, weak_int]
   rw [hld _ b7]; rfl)
  have hls : (m.dofs.set d.toNat { x with load := loadB (arnd by0 4) }).length = m.dofs.length := List.length_set
  have lsp : (splice (cat dofA m.dofs) (d.toNat * 17 + 4) [.bool false, .sl 576 0 1 (some 1) 1, .bool false, .sl 592 0 1 (some 1) 1]).length = m.dofs.length * 17 := by rw [spliceB_len (by rw [cd]; simp only [List.length_cons, List.length_nil]; omega), cd]
  refine ⟨⟨.ro y m.dofs.length false, 40 :: [576, 592], ?_, by rw [weak_ro, y2, hls]⟩, sr0 H, ss0 H, sp0 H p⟩
  rw [snap_sl, q40]
  simp only [Nat.zero_add, lsp, Nat.le_refl, if_true, List.drop_zero]
  rw [List.take_of_length_le (by rw [lsp]; exact Nat.le_refl _)]
  rw [show snaps (snap H 10) (splice (cat dofA m.dofs) (d.toNat * 17 + 4) [.bool false, .sl 576 0 1 (some 1) 1, .bool false, .sl 592 0 1 (some 1) 1]) = some (y, [576, 592]) from y1]
  rfl
 ·simp (maxSteps := 4000000) (disch := first | omega | (simp only [LL]; omega)) only [go_sem, cd, cp, r1, r2, r3, r4, o1, tp, e40, weaks_cat, weaks_ptC, ad]
  refine hJ _ _ _ (.sl 40 0 m.dofs.length none 17) (.ro (cat ropeA m.ropes) m.ropes.length false) (.ro (ptC m.skip) m.skip.length false) [.ro (ptC p.shape) p.shape.length false, zS (Rat.num (p.hx + n)), zD (Rat.num (p.hx + n)), zS (dz (p.hx + n)), zD (dz (p.hx + n)), zS (Rat.num (p.hy)), zD (Rat.num (p.hy)), zS (dz (p.hy)), zD (dz (p.hy)), .ro (cat colA p.cols) p.cols.length false, zS (Rat.num (p.ro)), zD (Rat.num (p.ro)), zS (dz (p.ro)), zD (dz (p.ro)), zS (Rat.num (p.bo)), zD (Rat.num (p.bo)), zS (dz (p.bo)), zD (dz (p.bo))] m.dofs { p with hx := p.hx + n } m.ropes m.skip hr ?_ ?_ ?_ ?_ (by omega) ?_ ?_ ?_ ?_ rfl ?_
  all_goals first | (simp (maxSteps := 4000000) (disch := first | omega | (simp only [LL]; omega)) only [go_sem, e40]; done) | (simp (maxSteps := 4000000) (disch := first | omega | (simp only [LL]; omega)) only [go_sem, e40, mdlA_eq]; done) | skip
  intro H hH
  exact ⟨sd0 H m.dofs true false (by rw [hH 40 (by omega) (by omega)]; simp (maxSteps := 4000000) (disch := first | omega | (simp only [LL]; omega)) only [go_sem]) rfl, sr0 H, ss0 H, sp0 H { p with hx := p.hx + n }⟩
end
end Go.Proofs.YtenhjccadhlgoaaGreat.Abs
section
namespace Go.Proofs.YtenhjccadhlgoaaGreat.Abs
open Go
end Go.Proofs.YtenhjccadhlgoaaGreat.Abs
end
