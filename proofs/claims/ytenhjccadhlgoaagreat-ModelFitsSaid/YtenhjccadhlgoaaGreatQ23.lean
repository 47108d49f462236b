/-
  Package model: Same of a state and itself. No conditions. Fit answers an error where the lists or the numbers of a state do not suit, or its tick; a state with one thing changed. No conditions. gantrylaw15.bent: a state with one thing changed. No conditions. gantrylaw15.ModelFits answers true. No conditions.
-/
import Derived.Test.YtenhjccadhlgoaaGreatQ08
import Derived.Test.YtenhjccadhlgoaaGreatQ20
import Derived.Test.YtenhjccadhlgoaaGreatQ10
set_option linter.unusedSimpArgs false
set_option linter.unusedVariables false
set_option maxRecDepth 100000
set_option maxHeartbeats 16000000
namespace Go.Proofs.YtenhjccadhlgoaaGreat.Abs
open Go
theorem M_98 [SpC] (l : List Bool) (hl : l.length < 2 ^ 30) : M X 98 [.ro (cat boolA l) l.length false, .ro (cat boolA l) l.length false] = some (.bool true) := by
 refine M_of X (fn := Tryz.f98) Tryz.func98 rfl ok_98 mode_98 res_98 _ rfl _ ?_
 intro r hr
 have cl := cat_length (f := boolA) l
 simp only [Nat.mul_one] at cl
 simp (maxSteps := 4000000) (disch := first | omega | (simp only [LL]; omega)) only [go_sem, cl]
 refine W_loop X (fun (k : Nat) s => k ≤ l.length ∧ s.env 0 = .ro (cat boolA l) l.length false ∧ s.env 1 = .ro (cat boolA l) l.length false ∧ s.env 12 = .int .i64 l.length ∧ s.env 13 = .int .i64 k) (fun k => l.length - k) ?_ 0 _ ?_
 ·rintro k ⟨env, heap, nx⟩ ⟨hk, g0, g1, g12, g13⟩
  simp only at g0 g1 g12 g13
  by_cases h1 : k < l.length
  ·have hd := cat_drop (f := boolA) (getD_some (l := l) (i := k) h1 false)
   rw [boolA_eq] at hd
   simp only [Nat.mul_one] at hd
   generalize l.getD k false = b at *
   have hbb : (b == b) = true := by simp
   simp (maxSteps := 4000000) (disch := first | omega | (simp only [LL]; omega)) only [go_sem, g0, g1, g12, g13, cl, hd, hbb]
   exact ⟨k + 1, ⟨by omega, rfl⟩, by omega⟩
  ·obtain rfl : k = l.length := by omega
   simp (maxSteps := 4000000) (disch := first | omega | (simp only [LL]; omega)) only [go_sem, g0, g1, g12, g13, cl]
   rw [hr]
 ·simp (maxSteps := 4000000) (disch := first | omega | (simp only [LL]; omega)) only [go_sem]
theorem eqf_rat [SpC] (l : List Rat) (N : Nat) (hl : l.length < 2 ^ 30) (h : ∀ x ∈ l, RS x N) (hN : N < 2 ^ 28) :
  M X 97 [.ro (cat ratA l) l.length false, .ro (cat ratA l) l.length false, .func (.func 26) [] []] = some (.bool true) := by
 refine M_of X (fn := Tryz.f97) Tryz.func97 rfl ok_97 mode_97 res_97 _ rfl _ ?_
 intro r hr
 have cl := cat_length (f := ratA) l
 simp (maxSteps := 4000000) (disch := first | omega | (simp only [LL]; omega)) only [go_sem, cl]
 refine W_loop X (fun (k : Nat) s => k ≤ l.length ∧ s.env 0 = .ro (cat ratA l) l.length false ∧ s.env 1 = .ro (cat ratA l) l.length false ∧ s.env 2 = .func (.func 26) [] [] ∧ s.env 15 = .ro (cat ratA l) l.length false ∧ s.env 16 = .int .i64 l.length ∧ s.env 17 = .int .i64 k) (fun k => l.length - k) ?_ 0 _ ?_
 ·rintro k ⟨env, heap, nx⟩ ⟨hk, g0, g1, g2, g15, g16, g17⟩
  simp only at g0 g1 g2 g15 g16 g17
  by_cases h1 : k < l.length
  ·have hg := getD_some (l := l) (i := k) h1 0
   have hd := cat_take (f := ratA) hg
   rw [ratA_eq] at hd
   have rx := h _ (List.mem_of_getElem? hg)
   have sm := M_26 (x := l.getD k 0) hN
   generalize l.getD k 0 = x at *
   simp (maxSteps := 4000000) (disch := first | omega | (simp only [LL]; omega)) only [go_sem, g0, g1, g2, g15, g16, g17, cl, hd, sm]
   exact ⟨k + 1, ⟨by omega, rfl⟩, by omega⟩
  ·obtain rfl : k = l.length := by omega
   simp (maxSteps := 4000000) (disch := first | omega | (simp only [LL]; omega)) only [go_sem, g0, g1, g2, g15, g16, g17, cl]
   rw [hr]
 ·simp (maxSteps := 4000000) (disch := first | omega | (simp only [LL]; omega)) only [go_sem]
theorem same_self [SpC] (s : StaR) (N : Nat) (hq : s.q.length < 2 ^ 30) (hv : s.v.length < 2 ^ 30) (hh : s.here.length < 2 ^ 30) (h1 : ∀ x ∈ s.q, RS x N) (h2 : ∀ x ∈ s.v, RS x N) (hN : N < 2 ^ 28) : M X 35 [.agg (staA s), .agg (staA s)] = some (.bool true) := by
 refine M_of X (fn := Tryz.f35) Tryz.func35 rfl ok_35 mode_35 res_35 _ rfl _ ?_
 intro r hr
 have e1 := eqf_rat s.q N hq h1 hN
 have e2 := eqf_rat s.v N hv h2 hN
 have e3 := M_98 s.here hh
 simp (maxSteps := 4000000) (disch := first | omega | (simp only [LL]; omega)) only [go_sem, staA_eq, weaks_cat, e1, e2, e3]
 rw [hr]
structure StaN where
 tick : Int
 q : List Nm
 v : List Rat
 here : List Bool
def stnA (s : StaN) : List AV := [.int .i64 s.tick, .ro (cat nmA s.q) s.q.length false, .ro (cat ratA s.v) s.v.length false, .ro (cat boolA s.here) s.here.length false]
theorem stnA_eq (s : StaN) : stnA s = [.int .i64 s.tick, .ro (cat nmA s.q) s.q.length false, .ro (cat ratA s.v) s.v.length false, .ro (cat boolA s.here) s.here.length false] := rfl
def NmOk (n : Nm) (N : Nat) : Prop := (∃ x, n = ofQ x ∧ RS x N) ∨ n = .z 1 1
structure NumS (s : StaN) (N : Nat) : Prop where
 tick : ok64 s.tick
 ql : s.q.length < 2 ^ 20
 vl : s.v.length < 2 ^ 20
 hl : s.here.length < 2 ^ 20
 q : ∀ x ∈ s.q, NmOk x N
 v : ∀ x ∈ s.v, RS x N
def valN : Nm → Rat
 | .z p q => if q = 0 then (p : Rat) else Rat.divInt p q
 | .bad => 0
def toS (s : StaN) : StaR := ⟨s.tick, s.q.map valN, s.v, s.here⟩
def ofS (s : StaR) : StaN := ⟨s.tick, s.q.map ofQ, s.v, s.here⟩
theorem valN_ofQ (x : Rat) : valN (ofQ x) = x := by
 unfold valN ofQ dz
 dsimp only
 by_cases h : x.den = 1
 ·rw [if_pos h, if_pos rfl]
  exact Rat.ext (Rat.num_intCast _) (by rw [Rat.den_intCast, h])
 ·have h1 := x.den_pos
  rw [if_neg h, if_neg (by omega)]
  exact Rat.num_divInt_den x
theorem toS_ofS (s : StaR) : toS (ofS s) = s := by
 unfold toS ofS
 dsimp only
 rw [List.map_map]
 have : s.q.map (valN ∘ ofQ) = s.q := by
  conv => rhs; rw [← List.map_id s.q]
  exact List.map_congr_left fun x _ => valN_ofQ x
 rw [this]
def suitsN (m : MdlR) (s : StaN) : Prop := (0 ≤ s.tick ∧ s.tick ≤ 1048576) ∧ s.q.length = m.dofs.length ∧ s.v.length = m.dofs.length ∧ s.here.length = m.parts.length ∧ s.q.all Nm.ok = true
instance (m : MdlR) (s : StaN) : Decidable (suitsN m s) := by unfold suitsN; infer_instance
def fitN (m : MdlR) (s : StaN) : Int := if suitsN m s then fitV m (toS s) else 1
theorem nmOk_ok {n : Nm} {N : Nat} (h : NmOk n N) (ho : n.ok = true) : n = ofQ (valN n) ∧ RS (valN n) N := by
 rcases h with ⟨x, rfl, hx⟩ | rfl
 ·rw [valN_ofQ]; exact ⟨rfl, hx⟩
 ·have h : (Nm.z 1 1).ok = false := by kernel_rfl
  rw [h] at ho; cases ho
theorem nmOk_nmB {n : Nm} {N : Nat} (h : NmOk n N) (hN : N < 2 ^ 19) : nmB n := by
 rcases h with ⟨x, rfl, hx⟩ | rfl
 ·exact nmB_ofQ hx hN
 ·exact ⟨by decide +kernel, by decide +kernel⟩
theorem stn_sta {s : StaN} {N : Nat} (hs : NumS s N) (ho : s.q.all Nm.ok = true) : stnA s = staA (toS s) := by
 have key : ∀ l : List Nm, (∀ x ∈ l, NmOk x N) → l.all Nm.ok = true → cat nmA l = cat ratA (l.map valN) := by
  intro l
  induction l with
  | nil => intro _ _; rfl
  | cons n l ih =>
   intro h1 h2
   rw [List.all_cons, Bool.and_eq_true] at h2
   obtain ⟨h3, h4⟩ := nmOk_ok (h1 n (by simp)) h2.1
   rw [List.map_cons, cat_cons, cat_cons, ih (fun x hx => h1 x (by simp [hx])) h2.2]
   congr 1
   conv => lhs; rw [h3]
   rfl
 rw [stnA_eq, key s.q hs.q ho]
 show _ = [_, _, _, _]
 unfold toS
 dsimp only
 rw [List.length_map]
theorem toS_good {m : MdlR} {s : StaN} {N : Nat} (hs : NumS s N) (h : suitsN m s) : GoodS m (toS s) N := by
 refine ⟨hs.tick, ?_, h.2.2.1, h.2.2.2.1, ?_, hs.v⟩
 ·show (s.q.map valN).length = _
  rw [List.length_map]; exact h.2.1
 ·intro x hx
  obtain ⟨n, hn, rfl⟩ := List.mem_map.1 (show x ∈ s.q.map valN from hx)
  exact (nmOk_ok (hs.q n hn) (List.all_eq_true.1 h.2.2.2.2 n hn)).2
theorem fit_bad [SpC] (m : MdlR) (s : StaN) (N : Nat) (hg : GoodM m N) (hs : NumS s N) (hN : N < 2 ^ 10) (hb : ¬ suitsN m s) : M X 34 [.agg (mdlA m), .agg (stnA s)] = some (.int .i64 1) := by
 refine M_of X (fn := Tryz.f34) Tryz.func34 rfl ok_34 mode_34 res_34 _ rfl _ ?_
 intro r hr
 have h1 := hg.dl
 have h2 := hg.pl
 have nq := M_89 s.q (by have := hs.ql; omega) (fun n hn => nmOk_nmB (hs.q n hn) (by omega))
 obtain ⟨⟨t1, t2⟩, hql, hvl, hhl, _, _⟩ := hs
 unfold suitsN at hb
 by_cases c1 : s.tick < 0
 ·simp (maxSteps := 4000000) (disch := first | omega | (simp only [LL]; omega)) only [go_sem, mdlA_eq, stnA_eq]
  rw [hr]
 by_cases c2 : 1048576 < s.tick
 ·simp (maxSteps := 4000000) (disch := first | omega | (simp only [LL]; omega)) only [go_sem, mdlA_eq, stnA_eq]
  rw [hr]
 by_cases c3 : s.q.length = m.dofs.length
 ·by_cases c4 : s.v.length = m.dofs.length
  ·by_cases c5 : s.here.length = m.parts.length
   ·have c6 : s.q.all Nm.ok = false := by
     cases h : s.q.all Nm.ok with
     | false => rfl
     | true => exact absurd ⟨⟨by omega, by omega⟩, c3, c4, c5, h⟩ hb
    rw [c6] at nq
    simp (maxSteps := 4000000) (disch := first | omega | (simp only [LL]; omega)) only [go_sem, mdlA_eq, stnA_eq, weaks_cat, mode_89, nq]
    rw [hr]
   ·simp (maxSteps := 4000000) (disch := first | omega | (simp only [LL]; omega)) only [go_sem, mdlA_eq, stnA_eq]
    rw [hr]
  ·simp (maxSteps := 4000000) (disch := first | omega | (simp only [LL]; omega)) only [go_sem, mdlA_eq, stnA_eq]
   rw [hr]
 ·simp (maxSteps := 4000000) (disch := first | omega | (simp only [LL]; omega)) only [go_sem, mdlA_eq, stnA_eq]
  rw [hr]
theorem pfit_bad [SpC] (m : MdlR) (s : StaN) (N : Nat) (hg : GoodM m N) (hs : NumS s N) (hN : N < 2 ^ 10) (hb : ¬ suitsN m s) : M X 17 [.agg (mdlA m), .agg (stnA s)] = some (.int .i64 1) := by
 refine M_of X (fn := Tryz.f17) Tryz.func17 rfl ok_17 mode_17 res_17 _ rfl _ ?_
 intro r hr
 have h1 := hg.dl
 have h2 := hg.pl
 have nq := M_54 s.q (by have := hs.ql; omega) (fun n hn => nmOk_nmB (hs.q n hn) (by omega))
 obtain ⟨⟨t1, t2⟩, hql, hvl, hhl, _, _⟩ := hs
 unfold suitsN at hb
 by_cases c1 : s.tick < 0
 ·simp (maxSteps := 4000000) (disch := first | omega | (simp only [LL]; omega)) only [go_sem, mdlA_eq, stnA_eq]
  rw [hr]
 by_cases c2 : 1048576 < s.tick
 ·simp (maxSteps := 4000000) (disch := first | omega | (simp only [LL]; omega)) only [go_sem, mdlA_eq, stnA_eq]
  rw [hr]
 by_cases c3 : s.q.length = m.dofs.length
 ·by_cases c4 : s.v.length = m.dofs.length
  ·by_cases c5 : s.here.length = m.parts.length
   ·have c6 : s.q.all Nm.ok = false := by
     cases h : s.q.all Nm.ok with
     | false => rfl
     | true => exact absurd ⟨⟨by omega, by omega⟩, c3, c4, c5, h⟩ hb
    rw [c6] at nq
    simp (maxSteps := 4000000) (disch := first | omega | (simp only [LL]; omega)) only [go_sem, mdlA_eq, stnA_eq, weaks_cat, mode_54, nq]
    rw [hr]
   ·simp (maxSteps := 4000000) (disch := first | omega | (simp only [LL]; omega)) only [go_sem, mdlA_eq, stnA_eq]
    rw [hr]
  ·simp (maxSteps := 4000000) (disch := first | omega | (simp only [LL]; omega)) only [go_sem, mdlA_eq, stnA_eq]
   rw [hr]
 ·simp (maxSteps := 4000000) (disch := first | omega | (simp only [LL]; omega)) only [go_sem, mdlA_eq, stnA_eq]
  rw [hr]
theorem fitN_ref [SpC] (m : MdlR) (s : StaN) (N : Nat) (hg : GoodM m N) (hs : NumS s N) (hN : N < 2 ^ 10) : M X 34 [.agg (mdlA m), .agg (stnA s)] = some (.int .i64 (fitN m s)) := by
 unfold fitN
 by_cases h : suitsN m s
 ·rw [if_pos h, stn_sta hs h.2.2.2.2]
  exact M_34 m (toS s) N hg (toS_good hs h) hN h.1
 ·rw [if_neg h]; exact fit_bad m s N hg hs hN h
theorem fitN_mod [SpC] (m : MdlR) (s : StaN) (N : Nat) (hg : GoodM m N) (hs : NumS s N) (hN : N < 2 ^ 10) (hss : SameSides m) (hpv : (toS s).here.length = m.parts.length → SpC.spec 18 [.agg (mdlA m), .agg (staA (toS s))] = some (pairsA m (toS s))) : M X 17 [.agg (mdlA m), .agg (stnA s)] = some (.int .i64 (fitN m s)) := by
 unfold fitN
 by_cases h : suitsN m s
 ·rw [if_pos h, stn_sta hs h.2.2.2.2]
  exact M_17 m (toS s) N hg (toS_good hs h) hN h.1 hss (hpv h.2.2.2.1)
 ·rw [if_neg h]; exact pfit_bad m s N hg hs hN h
def tickB (by0 : Int) : Int := if arnd by0 4 = 0 then -1 else if arnd by0 4 = 1 then 0 else if arnd by0 4 = 2 then 1048576 else 1048577
def numB (by0 : Int) : Rat := Rat.divInt (arnd by0 41 - 20) 3
def bentS (s : StaN) (at0 how by0 : Int) : StaN :=
 let k := (arnd at0 s.q.length).toNat
 if arnd how 9 = 0 then { s with tick := tickB by0 }
 else if arnd how 9 = 1 ∨ arnd how 9 = 2 then { s with q := s.q.set k (ofQ (numB by0)) }
 else if arnd how 9 = 3 then { s with v := s.v.set k (numB by0) }
 else if arnd how 9 = 4 then { s with q := s.q.take k }
 else if arnd how 9 = 5 then { s with v := s.v ++ [numB by0] }
 else if arnd how 9 = 6 then { s with here := s.here.take (s.here.length - 1) }
 else if arnd how 9 = 7 then { s with here := s.here.set (arnd by0 s.here.length).toNat false }
 else { s with q := s.q.set k (.z 1 1) }
theorem numB_rs (by0 : Int) : RS (numB by0) 1 := by
 have := arnd_bd by0 41 (by decide)
 exact rs_small (by omega) (by decide)
theorem tickB_ok (by0 : Int) : ok64 (tickB by0) := by
 unfold tickB ok64
 repeat' split
 all_goals decide
theorem bent_num {s : StaN} {N : Nat} (hN : 1 ≤ N) (h : NumS s N) (hv : s.v.length < 2 ^ 19) (at0 how by0 : Int) : NumS (bentS s at0 how by0) N := by
 have hb := (numB_rs by0).mono hN
 have hset : ∀ (n : Nm) (k : Nat), NmOk n N → ∀ x ∈ s.q.set k n, NmOk x N := fun n k hn x hx => by
  rcases List.mem_or_eq_of_mem_set hx with hx | rfl
  ·exact h.q x hx
  ·exact hn
 unfold bentS
 dsimp only
 split
 ·exact ⟨tickB_ok _, h.ql, h.vl, h.hl, h.q, h.v⟩
 split
 ·exact ⟨h.tick, by rw [List.length_set]; exact h.ql, h.vl, h.hl, hset _ _ (.inl ⟨_, rfl, hb⟩), h.v⟩
 split
 ·exact ⟨h.tick, h.ql, by rw [List.length_set]; exact h.vl, h.hl, h.q, set_rs h.v _ hb⟩
 split
 ·exact ⟨h.tick, by rw [List.length_take]; have := h.ql; omega, h.vl, h.hl, fun x hx => h.q x (List.mem_of_mem_take hx), h.v⟩
 split
 ·refine ⟨h.tick, h.ql, by rw [List.length_append, List.length_singleton]; omega, h.hl, h.q, fun x hx => ?_⟩
  rcases List.mem_append.1 hx with hx | hx
  ·exact h.v x hx
  ·simp only [List.mem_cons, List.not_mem_nil, or_false] at hx
   subst hx; exact hb
 split
 ·exact ⟨h.tick, h.ql, h.vl, by rw [List.length_take]; have := h.hl; omega, h.q, h.v⟩
 split
 ·exact ⟨h.tick, h.ql, h.vl, by rw [List.length_set]; exact h.hl, h.q, h.v⟩
 ·exact ⟨h.tick, by rw [List.length_set]; exact h.ql, h.vl, h.hl, hset _ _ (.inr rfl), h.v⟩
theorem GoodS.num {m : MdlR} {s : StaR} {N : Nat} (hg : GoodM m N) (h : GoodS m s N) : NumS (ofS s) N := by
 have h1 := hg.dl
 have h2 := hg.pl
 have h3 := h.ql
 have h4 := h.vl
 have h5 := h.hl
 refine ⟨h.tick, ?_, ?_, ?_, fun x hx => ?_, h.v⟩
 ·show (s.q.map ofQ).length < _; rw [List.length_map]; omega
 ·show s.v.length < _; omega
 ·show s.here.length < _; omega
 ·obtain ⟨y, hy, rfl⟩ := List.mem_map.1 (show x ∈ s.q.map ofQ from hx)
  exact .inl ⟨y, rfl, h.q y hy⟩
theorem replQ_1 : replA 1 [.bool false, .ro [] 0 false, .bool false, .ro [] 0 false] = [.bool false, .ro [] 0 false, .bool false, .ro [] 0 false] := rfl
theorem copyN_call [SpC] (t : Int) (cq cv ch : List AV) (nq nv nh : Nat) (l1 : cq.length = nq * 4) (l2 : cv.length = nv * 4) (l3 : ch.length = nh) (h1 : 0 < nq ∧ nq < 2 ^ 20) (h2 : 0 < nv ∧ nv < 2 ^ 20) (h3 : 0 < nh ∧ nh < 2 ^ 20) (heap : Heap) (nx : Nat) (Φ : AV × Heap × Nat → Prop)
  (hΦ : ∀ A B C h' nx', nx ≤ A → A < B → B < C → C < nx' → (∀ b, b < nx → h' b = heap b) → h' A = some (.cells cq true false) → h' B = some (.cells cv true false) → h' C = some (.cells ch true false) → Φ (.agg [.int .i64 t, .sl A 0 nq none 4, .sl B 0 nv none 4, .sl C 0 nh none 1], h', nx')) :
  PN (callI X 14 [.agg [.int .i64 t, .ro cq nq false, .ro cv nv false, .ro ch nh false]] heap nx) Φ := by
 refine callI_of (fn := Tryz.f14) Tryz.func14 rfl ok_14 res_14 _ rfl heap nx _ ?_
 simp (maxSteps := 4000000) (disch := first | omega | (simp only [LL]; omega)) only [go_sem, outC_ret, outC_normal, l1, l2, l3]
 refine hΦ (nx + 16 + 40 + 32) (nx + 16 + 40 + 56 + 32) (nx + 16 + 40 + 56 + 56 + 32) _ _ (by omega) (by omega) (by omega) (by omega) (fun b hb => ?_) ?_ ?_ ?_
 ·simp only [upd_apply]
  repeat rw [if_neg (by omega)]
 ·repeat first | refine Eq.trans (upd_hit (by omega)) ?_ | refine upd_miss (by omega) ?_
  rfl
 ·repeat first | refine Eq.trans (upd_hit (by omega)) ?_ | refine upd_miss (by omega) ?_
  rfl
 ·repeat first | refine Eq.trans (upd_hit (by omega)) ?_ | refine upd_miss (by omega) ?_
  rfl
theorem snaps_app (f : AV → Option (AV × List Nat)) (a b : List AV) : snaps f (a ++ b) = nx (snaps f a) fun x => mp (snaps f b) fun y => (x.1 ++ y.1, x.2 ++ y.2) := by
 induction a with
 | nil =>
  rw [List.nil_append, snaps_nil, nx_some]
  cases snaps f b <;> rfl
 | cons c a ih =>
  rw [List.cons_append, snaps_cons, snaps_cons, ih]
  cases f c with
  | none => rfl
  | some x =>
   rw [nx_some, nx_some]
   cases snaps f a with
   | none => rfl
   | some y =>
    rw [nx_some, mp_some, nx_some]
    cases snaps f b with
    | none => rfl
    | some z => simp only [mp_some, List.cons_append, List.append_assoc]
theorem snaps_sub {h : Heap} {d : Nat} {l l' : List AV} (hl : ∀ c ∈ l, snap h (d + 1) c = some (c, [])) (hs : ∀ c ∈ l', c ∈ l) : snaps (snap h (d + 1)) l' = some (l', []) := snaps_of fun c hc => hl c (hs c hc)
theorem cat_snap (h : Heap) (d : Nat) (l : List Nm) : ∀ c ∈ cat nmA l, snap h (d + 1) c = some (c, []) := fun c hc => by
 induction l with
 | nil => simp [cat] at hc
 | cons a l ih =>
  rw [cat_cons] at hc
  exact (List.mem_append.1 hc).elim (fun h' => Enc.sn (f := nmA) a c h' h d) ih
theorem cat_weak (l : List Nm) : ∀ c ∈ cat nmA l, c.weak = c := fun c hc => by
 induction l with
 | nil => simp [cat] at hc
 | cons a l ih =>
  rw [cat_cons] at hc
  exact (List.mem_append.1 hc).elim (fun h' => Enc.wk (f := nmA) a c h') ih
theorem weaks_app (a b : List AV) : AV.weak.go (a ++ b) = AV.weak.go a ++ AV.weak.go b := by
 induction a with
 | nil => rfl
 | cons c a ih => rw [List.cons_append, weakgo_cons, weakgo_cons, ih, List.cons_append]
theorem snaps_spl (h : Heap) (d : Nat) (q : List Nm) (o : Nat) (c1 c2 c3 c4 : AV) : snaps (snap h (d + 1)) (splice (cat nmA q) o [c1, c2, c3, c4]) = nx (snap h (d + 1) c1) fun x1 => nx (snap h (d + 1) c2) fun x2 => nx (snap h (d + 1) c3) fun x3 => mp (snap h (d + 1) c4) fun x4 => (splice (cat nmA q) o [x1.1, x2.1, x3.1, x4.1], x1.2 ++ (x2.2 ++ (x3.2 ++ x4.2))) := by
 unfold splice
 rw [snaps_app, snaps_app, snaps_sub (cat_snap h d q) (fun c hc => List.mem_of_mem_take hc), snaps_sub (l' := List.drop _ _) (cat_snap h d q) (fun c hc => List.mem_of_mem_drop hc)]
 simp only [nx_some, mp_some, snaps_cons, snaps_nil, List.length_cons, List.length_nil]
 cases snap h (d + 1) c1 with
 | none => rfl
 | some x1 =>
  cases snap h (d + 1) c2 with
  | none => rfl
  | some x2 =>
   cases snap h (d + 1) c3 with
   | none => rfl
   | some x3 =>
    cases snap h (d + 1) c4 with
    | none => rfl
    | some x4 => simp only [nx_some, mp_some, List.nil_append, List.append_nil]
theorem weaks_spl (q : List Nm) (o : Nat) (vs : List AV) : AV.weak.go (splice (cat nmA q) o vs) = splice (cat nmA q) o (AV.weak.go vs) := by
 unfold splice
 have hl : (AV.weak.go vs).length = vs.length := weaks_length vs
 rw [weaks_app, weaks_app, hl, weaks_all (fun c hc => cat_weak q c (List.mem_of_mem_take hc)), weaks_all (fun c hc => cat_weak q c (List.mem_of_mem_drop hc))]
theorem spl_len (q : List Nm) (k : Nat) (vs : List AV) (h : k * 4 + vs.length ≤ (cat nmA q).length) : (splice (cat nmA q) (k * 4) vs).length = q.length * 4 := by
 have := cat_length (f := nmA) q
 unfold splice
 simp only [List.length_append, List.length_take, List.length_drop]
 omega
theorem spl_take (q : List Nm) (k : Nat) (vs : List AV) (h : k * 4 + vs.length ≤ (cat nmA q).length) : (splice (cat nmA q) (k * 4) vs).take (q.length * 4) = splice (cat nmA q) (k * 4) vs := List.take_of_length_le (by rw [spl_len q k vs h]; exact Nat.le_refl _)
theorem M_32 [SpC] (s : StaN) (at0 how by0 : Int) (N : Nat) (hs : NumS s N) (h1 : 0 < s.q.length) (hqv : s.v.length = s.q.length) (h3 : 0 < s.here.length) (ha : ok64 at0) (hh : ok64 how) (hb : ok64 by0) :
  M X 32 [.agg (stnA s), .int .i64 at0, .int .i64 how, .int .i64 by0] = some (.agg (stnA (bentS s at0 how by0))) := by
 refine M_of X (fn := Tryz.f32) Tryz.func32 rfl ok_32 mode_32 res_32 _ rfl _ ?_
 intro r hr
 have hql := hs.ql
 have hvl := hs.vl
 have hhl := hs.hl
 have lq := cat_length (f := nmA) s.q
 have lv := cat_length (f := ratA) s.v
 have lh := cat_length (f := boolA) s.here
 simp only [Nat.mul_one] at lh
 have r1 := M_15 at0 (s.q.length : Int) ha (by omega)
 have r2 := M_15 by0 41 hb (by omega)
 have r3 := M_15 how 9 hh (by omega)
 have r4 := M_15 by0 4 hb (by omega)
 have r5 := M_15 by0 (s.here.length : Int) hb (by omega)
 have b1 := arnd_bd at0 (s.q.length : Int) (by omega)
 have b2 := arnd_bd by0 41 (by omega)
 have b3 := arnd_bd how 9 (by omega)
 have b4 := arnd_bd by0 4 (by omega)
 have b5 := arnd_bd by0 (s.here.length : Int) (by omega)
 have o1 := M_44 (arnd by0 41 - 20) 3 (by omega) (by omega)
 have ls1 := fun (n : Nm) (k : Nat) => cat_length (f := nmA) (s.q.set k n)
 have ls2 := fun (n : Rat) (k : Nat) => cat_length (f := ratA) (s.v.set k n)
 have ls3 := fun (n : Bool) (k : Nat) => cat_length (f := boolA) (s.here.set k n)
 have ls4 := fun (n : Rat) => cat_length (f := ratA) (s.v ++ [n])
 simp only [List.length_set, List.length_append, List.length_singleton, Nat.mul_one, cat_snoc] at ls1 ls2 ls3 ls4
 have tk1 : ∀ (n : Nm) (k : Nat), (cat nmA (s.q.set k n)).take (s.q.length * 4) = cat nmA (s.q.set k n) := fun n k => List.take_of_length_le (by rw [ls1 n k]; exact Nat.le_refl _)
 have tk2 : ∀ (n : Rat) (k : Nat), (cat ratA (s.v.set k n)).take (s.v.length * 4) = cat ratA (s.v.set k n) := fun n k => List.take_of_length_le (by rw [ls2 n k]; exact Nat.le_refl _)
 have tk3 : ∀ (n : Bool) (k : Nat), (cat boolA (s.here.set k n)).take s.here.length = cat boolA (s.here.set k n) := fun n k => List.take_of_length_le (by rw [ls3 n k]; exact Nat.le_refl _)
 have tk4 : ∀ (n : Rat), (cat ratA s.v ++ ratA n).take ((s.v.length + 1) * 4) = cat ratA s.v ++ ratA n := fun n => List.take_of_length_le (by rw [List.length_append, ls4 n]; exact Nat.le_refl _)
 have sa4 : ∀ (h : Heap) (d : Nat) (n : Rat), snaps (snap h (d + 1)) (cat ratA s.v ++ ratA n) = some (cat ratA s.v ++ ratA n, []) := fun h d n => by rw [← cat_snoc]; exact snaps_cat h d _
 have wa4 : ∀ (n : Rat), AV.weak.go (cat ratA s.v ++ ratA n) = cat ratA s.v ++ ratA n := fun n => by rw [← cat_snoc]; exact weaks_cat _
 simp only [ratA_eq] at ls4 tk4 sa4 wa4
 unfold bentS numB tickB at hr
 dsimp only at hr
 generalize hx : Rat.divInt (arnd by0 41 - 20) 3 = x at *
 generalize arnd at0 (s.q.length : Int) = k at *
 generalize arnd by0 41 = u at *
 generalize arnd by0 4 = w at *
 generalize arnd by0 (s.here.length : Int) = z at *
 have tq := cat_takel (f := nmA) s.q k.toNat
 have th := cat_takel (f := boolA) s.here (s.here.length - 1)
 have hu1 : ((s.here.length : Int) - 1).toNat = s.here.length - 1 := by omega
 have lt1 : (s.q.take k.toNat).length = k.toNat := by rw [List.length_take]; omega
 have lt2 : (s.here.take (s.here.length - 1)).length = s.here.length - 1 := by rw [List.length_take]; omega
 have lk : ((k.toNat : Nat) : Int) = k := by omega
 have sp1 := cat_splice (f := nmA) (l := s.q) (i := k.toNat) (o := 0) (a' := ofQ x) (vs := ratA x) (getD_some (by omega) .bad) (by simp [ratA]) rfl
 have sp2 := cat_splice (f := nmA) (l := s.q) (i := k.toNat) (o := 0) (a' := .z 1 1) (vs := [zS 1, zD 1, zS 1, zD 1]) (getD_some (by omega) .bad) (by simp) rfl
 have sp3 := cat_splice (f := ratA) (l := s.v) (i := k.toNat) (o := 0) (a' := x) (vs := ratA x) (getD_some (l := s.v) (i := k.toNat) (by omega) 0) (by simp [ratA]) (by simp [splice, ratA])
 have sp4 := cat_splice (f := boolA) (l := s.here) (i := z.toNat) (o := 0) (a := s.here.getD z.toNat false) (a' := false) (vs := [.bool false]) (getD_some (by omega) false) (by simp) (by simp [splice, boolA_eq])
 rw [ratA_eq] at sp1 sp3
 simp only [Nat.mul_one, Nat.add_zero] at sp1 sp2 sp3 sp4 th
 simp (maxSteps := 4000000) (disch := first | omega | (simp only [LL]; omega)) only [go_sem, stnA_eq, weaks_cat, lq, lv, lh]
 refine copyN_call s.tick _ _ _ _ _ _ lq lv lh ⟨h1, hql⟩ ⟨by omega, hvl⟩ ⟨h3, hhl⟩ _ _ _ ?_
 intro A B C h' nx' k1 k2 k3 k4 k5 kA kB kC
 have e8 := k5 8 (by omega)
 simp (maxSteps := 4000000) (disch := first | omega | (simp only [LL]; omega)) only [go_sem] at e8
 generalize arnd how 9 = c at *
 have hc : c = 0 ∨ c = 1 ∨ c = 2 ∨ c = 3 ∨ c = 4 ∨ c = 5 ∨ c = 6 ∨ c = 7 ∨ c = 8 := by omega
 rcases hc with rfl | rfl | rfl | rfl | rfl | rfl | rfl | rfl | rfl
 all_goals simp only [Int.reduceEq, if_true, if_false, or_false, false_or, or_true, true_or, or_self, reduceIte, stnA_eq, List.length_set, List.length_append, List.length_cons, List.length_nil, Nat.zero_add, lt1, lt2, cat_snoc, ratA_eq] at hr
 ·have hw : w = 0 ∨ w = 1 ∨ w = 2 ∨ w = 3 := by omega
  rcases hw with rfl | rfl | rfl | rfl <;> simp only [Int.reduceEq, if_true, if_false, reduceIte] at hr <;> simp (maxSteps := 4000000) (disch := first | omega | (simp only [LL]; omega)) only [go_sem, e8, kA, kB, kC, lq, lv, lh, r1, r2, r3, r4, o1, snaps_cat, weaks_cat, replA_4] <;> rw [hr]
 ·simp (maxSteps := 4000000) (disch := first | omega | (simp only [LL]; omega)) only [go_sem, e8, kA, kB, kC, lq, lv, lh, lk, r1, r2, r3, o1, sp1, ls1, tk1, snaps_cat, weaks_cat]
  rw [hr]
 ·simp (maxSteps := 4000000) (disch := first | omega | (simp only [LL]; omega)) only [go_sem, e8, kA, kB, kC, lq, lv, lh, lk, r1, r2, r3, o1, sp1, ls1, tk1, snaps_cat, weaks_cat]
  rw [hr]
 ·simp (maxSteps := 4000000) (disch := first | omega | (simp only [LL]; omega)) only [go_sem, e8, kA, kB, kC, lq, lv, lh, lk, r1, r2, r3, o1, sp3, ls2, tk2, snaps_cat, weaks_cat]
  rw [hr]
 ·simp (maxSteps := 4000000) (disch := first | omega | (simp only [LL]; omega)) only [go_sem, e8, kA, kB, kC, lq, lv, lh, lk, r1, r2, r3, o1, tq, snaps_cat, weaks_cat]
  rw [hr]
 ·simp (maxSteps := 4000000) (disch := first | omega | (simp only [LL]; omega)) only [go_sem, e8, kA, kB, kC, lq, lv, lh, lk, r1, r2, r3, o1, replQ_1, ls4, tk4, sa4, wa4, List.length_append, snaps_cat, weaks_cat]
  rw [hr]
 ·simp (maxSteps := 4000000) (disch := first | omega | (simp only [LL]; omega)) only [go_sem, e8, kA, kB, kC, lq, lv, lh, lk, r1, r2, r3, o1, th, hu1, snaps_cat, weaks_cat]
  rw [hr]
 ·simp (maxSteps := 4000000) (disch := first | omega | (simp only [LL]; omega)) only [go_sem, e8, kA, kB, kC, lq, lv, lh, lk, r1, r2, r3, r5, o1, sp4, ls3, tk3, snaps_cat, weaks_cat]
  rw [hr]
 ·simp (maxSteps := 4000000) (disch := first | omega | (simp only [LL]; omega)) only [go_sem, e8, kA, kB, kC, lq, lv, lh, lk, r1, r2, r3, o1, snaps_spl, weaks_spl, spl_len, spl_take, snaps_cat, weaks_cat]
  rw [show ([AV.bool false, .ro [.int .i64 1] 1 false, .bool false, .ro [.int .i64 1] 1 false] : List AV) = [zS 1, zD 1, zS 1, zD 1] by kernel_rfl, sp2]
  rw [hr]
theorem cat_ofQ (l : List Rat) : cat nmA (l.map ofQ) = cat ratA l := by
 induction l with
 | nil => rfl
 | cons x l ih => rw [List.map_cons, cat_cons, cat_cons, ih]; rfl
theorem stn_ofS (s : StaR) : stnA (ofS s) = staA s := by
 unfold stnA ofS
 dsimp only
 rw [cat_ofQ, List.length_map]
 rfl
theorem tdiv9 {n : Int} (h : ok64 n) : -9223372036854775808 ≤ n.tdiv 9 ∧ n.tdiv 9 ≤ 9223372036854775807 := by
 unfold ok64 at h
 rcases Int.le_total 0 n with h0 | h0
 ·rw [Int.tdiv_eq_ediv_of_nonneg h0]; omega
 ·have e : n.tdiv 9 = -((-n) / 9) := by rw [← Int.tdiv_eq_ediv_of_nonneg (show 0 ≤ -n by omega), Int.neg_tdiv, Int.neg_neg]
  rw [e]; omega
theorem good_startV (m : MdlR) : GoodS m (startV m) 1 where
 tick := ⟨by show _ ≤ (0 : Int); omega, by show (0 : Int) ≤ _; omega⟩
 ql := List.length_replicate
 vl := List.length_replicate
 hl := List.length_replicate
 q := fun x hx => by rw [List.eq_of_mem_replicate hx]; exact rs_zero
 v := fun x hx => by rw [List.eq_of_mem_replicate hx]; exact rs_zero
theorem M_6 [SpC] (hP : PairsSay) (l k : List Int) (at0 how by0 : Int) (hl : okI l) (hll : l.length < 2 ^ 60) (hk : okI k) (hkl : k.length < 2 ^ 60) (ha : ok64 at0) (hh : ok64 how) (hb : ok64 by0) :
  M X 6 [isl l, isl k, .int .i64 at0, .int .i64 how, .int .i64 by0] = some (.bool true) := by
 refine M_of X (fn := Tryz.f6) Tryz.func6 rfl ok_6 mode_6 res_6 _ rfl _ ?_
 intro r hr
 have hm := M_8 l hl hll
 have G := modelV_gen l
 generalize modelV l = m at *
 have hdl := G.pre.dl
 have hpl := G.pre.pl
 have hs := M_13 m k 1 G.good (by omega) (by omega) (by omega) (by omega) hk hkl
 have gs := good_stateV G k
 have fs := state_fit G k
 have tk : 0 ≤ (stateV m k).tick ∧ (stateV m k).tick ≤ 1048576 := by
  rw [tick_stateV]
  have := atN_bd k 0 9 (by decide)
  omega
 generalize stateV m k = s at *
 have hq := gs.ql
 have hv := gs.vl
 have hhl := gs.hl
 have hli := lives_15 hP
 have lq := cat_length (f := ratA) s.q
 have lv := cat_length (f := ratA) s.v
 have lh := cat_length (f := boolA) s.here
 simp only [Nat.mul_one] at lh
 have ns := GoodS.num G.good gs
 have h9' := tdiv9 hh
 have h9 : ok64 (how.tdiv 9) := h9'
 have oq : (ofS s).q.length = m.dofs.length := by show (s.q.map ofQ).length = _; rw [List.length_map]; exact hq
 have ov : (ofS s).v.length = m.dofs.length := hv
 have oh : (ofS s).here.length = m.parts.length := hhl
 have bA := M_32 (ofS s) at0 how by0 1 ns (by omega) (by omega) (by omega) ha hh hb
 have bB := M_32 (ofS s) by0 (how.tdiv 9) at0 1 ns (by omega) (by omega) (by omega) hb h9 ha
 have nA := bent_num (by omega) ns (by omega) at0 how by0
 have nB := bent_num (by omega) ns (by omega) by0 (how.tdiv 9) at0
 generalize hA : bentS (ofS s) at0 how by0 = A at *
 generalize hB : bentS (ofS s) by0 (how.tdiv 9) at0 = B at *
 have bC : A.v.length = A.q.length → 0 < A.q.length → 0 < A.here.length → M X 32 [.agg (stnA A), .int .i64 by0, .int .i64 (how.tdiv 9), .int .i64 at0] = some (.agg (stnA (bentS A by0 (how.tdiv 9) at0))) := fun h1 h2 h3 => M_32 A by0 (how.tdiv 9) at0 1 nA h2 h1 h3 hb h9 ha
 have nC : A.v.length < 2 ^ 19 → NumS (bentS A by0 (how.tdiv 9) at0) 1 := fun h => bent_num (by omega) nA h by0 (how.tdiv 9) at0
 generalize bentS A by0 (how.tdiv 9) at0 = C at *
 have gz : GoodS m (startV m) 1 := good_startV m
 have nz := GoodS.num G.good gz
 have n0 : NumS ⟨0, [], [], []⟩ 1 := ⟨(by show ok64 0; unfold ok64; omega), (by simp), (by simp), (by simp), (by intro x hx; cases hx), (by intro x hx; cases hx)⟩
 have hpv : ∀ t : StaN, (toS t).here.length = m.parts.length → SpC.spec 18 [.agg (mdlA m), .agg (staA (toS t))] = some (pairsA m (toS t)) := fun t h => hP m (toS t) (G.pairs h)
 have f1 := fitN_mod m (ofS s) 1 G.good ns (by omega) G.same (hpv _)
 have g1 := fitN_ref m (ofS s) 1 G.good ns (by omega)
 have f2 := fitN_mod m A 1 G.good nA (by omega) G.same (hpv _)
 have g2 := fitN_ref m A 1 G.good nA (by omega)
 have f3 := fitN_mod m B 1 G.good nB (by omega) G.same (hpv _)
 have g3 := fitN_ref m B 1 G.good nB (by omega)
 have f4 := fitN_mod m (ofS (startV m)) 1 G.good nz (by omega) G.same (hpv _)
 have g4 := fitN_ref m (ofS (startV m)) 1 G.good nz (by omega)
 have f5 := fitN_mod m ⟨0, [], [], []⟩ 1 G.good n0 (by omega) G.same (hpv _)
 have g5 := fitN_ref m ⟨0, [], [], []⟩ 1 G.good n0 (by omega)
 have ff := M_17 m s 1 G.good gs (by omega) tk G.same (hP m s (G.pairs hhl))
 rw [fs] at ff
 have z0 : fitN m (ofS s) = 0 := by
  rw [stn_ofS, ff] at f1
  injection f1 with h
  injection h with _ h2
  exact h2.symm
 rw [stn_ofS] at f1 g1 f4 g4 bA bB
 rw [z0] at f1 g1
 generalize fitN m A = c2 at *
 generalize fitN m B = c3 at *
 generalize fitN m (ofS (startV m)) = c4 at *
 generalize fitN m ⟨0, [], [], []⟩ = c5 at *
 have se : staA (startV m) = [.int .i64 0, .ro (cat ratA (List.replicate m.dofs.length 0)) m.dofs.length false, .ro (cat ratA (List.replicate m.dofs.length 0)) m.dofs.length false, .ro (cat boolA (List.replicate m.parts.length true)) m.parts.length false] := by
  unfold startV staA
  simp only [List.length_replicate]
 have ze : stnA ⟨0, [], [], []⟩ = [.int .i64 0, .ro [] 0 false, .ro [] 0 false, .ro [] 0 false] := rfl
 have sv := M_33 m ⟨by omega, by omega⟩ ⟨by omega, by omega⟩
 have sw := pstart m ⟨by omega, by omega⟩ ⟨by omega, by omega⟩
 have ss := same_self (startV m) 1 (by rw [gz.ql]; omega) (by rw [gz.vl]; omega) (by rw [gz.hl]; omega) gz.q gz.v (by omega)
 have lz := cat_length (f := ratA) (List.replicate m.dofs.length 0)
 have lb := cat_length (f := boolA) (List.replicate m.parts.length true)
 rw [List.length_replicate] at lz lb
 simp only [Nat.mul_one] at lb
 unfold staF startV at sv
 simp only [List.length_replicate] at sv
 rw [se] at f4 g4 sw ss
 rw [ze] at f5 g5
 rw [mdlA_eq] at hm hs f1 g1 f2 g2 f3 g3 f4 g4 f5 g5 sv sw
 rw [staA_eq] at hs f1 g1 bA bB
 rw [stnA_eq] at bA bB f2 g2 f3 g3
 rw [W_seq]
 generalize hK : @seqQ X ⟨_⟩ (outR X _ _ _) = K
 simp (maxSteps := 4000000) (disch := first | omega | (simp only [LL]; omega)) only [go_sem, hm, hs, weaks_cat, weaks_ptC, bA, bB, sv, replA_5, List.cons_append, List.nil_append]
 rw [← hK, seqQ_normal]
 clear hK K
 rw [W_seq]
 generalize hK : @seqQ X ⟨_⟩ (outR X _ _ _) = K
 simp (maxSteps := 4000000) (disch := first | omega | (simp only [LL]; omega)) only [go_sem, hm, hs, weaks_cat, weaks_ptC, bA, bB, sv, replA_5, List.cons_append, List.nil_append]
 rw [← hK, seqQ_normal]
 clear hK K
 rw [W_seq]
 generalize hK : @seqQ X ⟨_⟩ (outR X _ _ _) = K
 simp (maxSteps := 4000000) (disch := first | omega | (simp only [LL]; omega)) only [go_sem, hm, hs, weaks_cat, weaks_ptC, bA, bB, sv, replA_5, List.cons_append, List.nil_append]
 rw [← hK, seqQ_normal]
 clear hK K
 rw [W_seq]
 generalize hK : @seqQ X ⟨_⟩ (outR X _ _ _) = K
 simp (maxSteps := 4000000) (disch := first | omega | (simp only [LL]; omega)) only [go_sem, hm, hs, weaks_cat, weaks_ptC, bA, bB, sv, replA_5, List.cons_append, List.nil_append]
 rw [← hK, seqQ_normal]
 clear hK K
 rw [W_seq]
 generalize hK : @seqQ X ⟨_⟩ (outR X _ _ _) = K
 simp (maxSteps := 4000000) (disch := first | omega | (simp only [LL]; omega)) only [go_sem, hm, hs, weaks_cat, weaks_ptC, bA, bB, sv, replA_5, List.cons_append, List.nil_append]
 rw [← hK, seqQ_normal]
 clear hK K
 rw [W_seq]
 generalize hK : @seqQ X ⟨_⟩ (outR X _ _ _) = K
 by_cases c1 : A.q.length = s.q.length ∧ A.v.length = s.v.length ∧ A.here.length = s.here.length
 ·obtain ⟨c1, c2, c3⟩ := c1
  have bC' := bC (by omega) (by omega) (by omega)
  have nC' := nC (by omega)
  have f6 := fitN_mod m C 1 G.good nC' (by omega) G.same (hpv _)
  have g6 := fitN_ref m C 1 G.good nC' (by omega)
  generalize fitN m C = c6 at *
  rw [stnA_eq] at f6 g6
  rw [stnA_eq] at bC'
  rw [stnA_eq] at bC'
  rw [mdlA_eq] at f6 g6
  have hJ6 : ∀ (env : Nat → AV) (heap : Heap) (nx id : Nat), env 11 = .ptr 24 0 → env 12 = .ptr 64 0 → env 14 = .sl id 0 6 none 4 → 300 ≤ nx → (id = 224 ∨ 240 ≤ id ∧ id < nx) → heap 24 = some (.cells [.ro (cat dofA m.dofs) m.dofs.length false, .ro (cat partA m.parts) m.parts.length false, .ro (cat ropeA m.ropes) m.ropes.length false, .ro (ptC m.skip) m.skip.length false] false false) → heap 64 = some (.cells [.int .i64 s.tick, .ro (cat ratA s.q) s.q.length false, .ro (cat ratA s.v) s.v.length false, .ro (cat boolA s.here) s.here.length false] false false) → heap 208 = some (.cells (cat ratA (List.replicate m.dofs.length 0)) true false) → heap 209 = some (.cells (cat ratA (List.replicate m.dofs.length 0)) true false) →
    heap 210 = some (.cells (cat boolA (List.replicate m.parts.length true)) true false) → heap id = some (.cells [.int .i64 s.tick, .ro (cat ratA s.q) s.q.length false, .ro (cat ratA s.v) s.v.length false, .ro (cat boolA s.here) s.here.length false, .int .i64 A.tick, .ro (cat nmA A.q) A.q.length false, .ro (cat ratA A.v) A.v.length false, .ro (cat boolA A.here) A.here.length false, .int .i64 B.tick, .ro (cat nmA B.q) B.q.length false, .ro (cat ratA B.v) B.v.length false, .ro (cat boolA B.here) B.here.length false, .int .i64 0, .sl 208 0 m.dofs.length none 4, .sl 209 0 m.dofs.length none 4, .sl 210 0 m.parts.length none 1, .int .i64 0, .ro [] 0 true, .ro [] 0 true, .ro [] 0 true, .int .i64 C.tick, .ro (cat nmA C.q) C.q.length false, .ro (cat ratA C.v) C.v.length false, .ro (cat boolA C.here) C.here.length false] true false) → K .normal ⟨env, heap, nx⟩ := by
   intro env heap nx id g11 g12 g14 hnx hid e24 e64 e208 e209 e210 eL
   subst hK
   rw [seqQ_normal]
   simp (maxSteps := 4000000) (disch := first | omega | (simp only [LL]; omega)) only [go_sem, g11, g12, g14, e24, e64, e208, e209, e210, eL, hm, hs, lq, lv, lh, lz, lb, weaks_cat, weaks_ptC, snaps_cat, f1, g1, f2, g2, f3, g3, f4, g4, f5, g5, sv, sw, ss, ff, hli, List.cons_append, List.nil_append, List.drop_succ_cons, List.drop_zero]
   rw [W_unroll]
   simp (maxSteps := 4000000) (disch := first | omega | (simp only [LL]; omega)) only [go_sem, unQ_normal, unQ_ret, unQ_exit, Int.reduceAdd, g11, g12, g14, e24, e64, e208, e209, e210, eL, f6, g6, hm, hs, lq, lv, lh, lz, lb, weaks_cat, weaks_ptC, snaps_cat, f1, g1, f2, g2, f3, g3, f4, g4, f5, g5, sv, sw, ss, ff, hli, List.cons_append, List.nil_append, List.drop_succ_cons, List.drop_zero]
   rw [W_unroll]
   simp (maxSteps := 4000000) (disch := first | omega | (simp only [LL]; omega)) only [go_sem, unQ_normal, unQ_ret, unQ_exit, Int.reduceAdd, g11, g12, g14, e24, e64, e208, e209, e210, eL, f6, g6, hm, hs, lq, lv, lh, lz, lb, weaks_cat, weaks_ptC, snaps_cat, f1, g1, f2, g2, f3, g3, f4, g4, f5, g5, sv, sw, ss, ff, hli, List.cons_append, List.nil_append, List.drop_succ_cons, List.drop_zero]
   rw [W_unroll]
   simp (maxSteps := 4000000) (disch := first | omega | (simp only [LL]; omega)) only [go_sem, unQ_normal, unQ_ret, unQ_exit, Int.reduceAdd, g11, g12, g14, e24, e64, e208, e209, e210, eL, f6, g6, hm, hs, lq, lv, lh, lz, lb, weaks_cat, weaks_ptC, snaps_cat, f1, g1, f2, g2, f3, g3, f4, g4, f5, g5, sv, sw, ss, ff, hli, List.cons_append, List.nil_append, List.drop_succ_cons, List.drop_zero]
   rw [W_unroll]
   simp (maxSteps := 4000000) (disch := first | omega | (simp only [LL]; omega)) only [go_sem, unQ_normal, unQ_ret, unQ_exit, Int.reduceAdd, g11, g12, g14, e24, e64, e208, e209, e210, eL, f6, g6, hm, hs, lq, lv, lh, lz, lb, weaks_cat, weaks_ptC, snaps_cat, f1, g1, f2, g2, f3, g3, f4, g4, f5, g5, sv, sw, ss, ff, hli, List.cons_append, List.nil_append, List.drop_succ_cons, List.drop_zero]
   rw [W_unroll]
   simp (maxSteps := 4000000) (disch := first | omega | (simp only [LL]; omega)) only [go_sem, unQ_normal, unQ_ret, unQ_exit, Int.reduceAdd, g11, g12, g14, e24, e64, e208, e209, e210, eL, f6, g6, hm, hs, lq, lv, lh, lz, lb, weaks_cat, weaks_ptC, snaps_cat, f1, g1, f2, g2, f3, g3, f4, g4, f5, g5, sv, sw, ss, ff, hli, List.cons_append, List.nil_append, List.drop_succ_cons, List.drop_zero]
   rw [W_unroll]
   simp (maxSteps := 4000000) (disch := first | omega | (simp only [LL]; omega)) only [go_sem, unQ_normal, unQ_ret, unQ_exit, Int.reduceAdd, g11, g12, g14, e24, e64, e208, e209, e210, eL, f6, g6, hm, hs, lq, lv, lh, lz, lb, weaks_cat, weaks_ptC, snaps_cat, f1, g1, f2, g2, f3, g3, f4, g4, f5, g5, sv, sw, ss, ff, hli, List.cons_append, List.nil_append, List.drop_succ_cons, List.drop_zero]
   rw [W_unroll]
   simp (maxSteps := 4000000) (disch := first | omega | (simp only [LL]; omega)) only [go_sem, unQ_normal, unQ_ret, unQ_exit, Int.reduceAdd, g11, g12, g14, e24, e64, e208, e209, e210, eL, f6, g6, hm, hs, lq, lv, lh, lz, lb, weaks_cat, weaks_ptC, snaps_cat, f1, g1, f2, g2, f3, g3, f4, g4, f5, g5, sv, sw, ss, ff, hli, List.cons_append, List.nil_append, List.drop_succ_cons, List.drop_zero]
   rw [hr]
  simp (maxSteps := 4000000) (disch := first | omega | (simp only [LL]; omega)) only [go_sem, weaks_cat, bC', replA_1, List.cons_append, List.nil_append]
  exact hJ6 _ _ _ 504 (by simp (maxSteps := 4000000) (disch := first | omega | (simp only [LL]; omega)) only [go_sem]) (by simp (maxSteps := 4000000) (disch := first | omega | (simp only [LL]; omega)) only [go_sem]) (by simp (maxSteps := 4000000) (disch := first | omega | (simp only [LL]; omega)) only [go_sem]) (by omega) (.inr ⟨by omega, by omega⟩) (by simp (maxSteps := 4000000) (disch := first | omega | (simp only [LL]; omega)) only [go_sem]) (by simp (maxSteps := 4000000) (disch := first | omega | (simp only [LL]; omega)) only [go_sem]) (by simp (maxSteps := 4000000) (disch := first | omega | (simp only [LL]; omega)) only [go_sem]) (by simp (maxSteps := 4000000) (disch := first | omega | (simp only [LL]; omega)) only [go_sem]) (by simp (maxSteps := 4000000) (disch := first | omega | (simp only [LL]; omega)) only [go_sem]) (by simp (maxSteps := 4000000) (disch := first | omega | (simp only [LL]; omega)) only [go_sem])
 ·have hJ5 : ∀ (env : Nat → AV) (heap : Heap) (nx id : Nat), env 11 = .ptr 24 0 → env 12 = .ptr 64 0 → env 14 = .sl id 0 5 (some 5) 4 → 300 ≤ nx → (id = 224 ∨ 240 ≤ id ∧ id < nx) → heap 24 = some (.cells [.ro (cat dofA m.dofs) m.dofs.length false, .ro (cat partA m.parts) m.parts.length false, .ro (cat ropeA m.ropes) m.ropes.length false, .ro (ptC m.skip) m.skip.length false] false false) → heap 64 = some (.cells [.int .i64 s.tick, .ro (cat ratA s.q) s.q.length false, .ro (cat ratA s.v) s.v.length false, .ro (cat boolA s.here) s.here.length false] false false) → heap 208 = some (.cells (cat ratA (List.replicate m.dofs.length 0)) true false) → heap 209 = some (.cells (cat ratA (List.replicate m.dofs.length 0)) true false) →
    heap 210 = some (.cells (cat boolA (List.replicate m.parts.length true)) true false) → heap id = some (.cells [.int .i64 s.tick, .ro (cat ratA s.q) s.q.length false, .ro (cat ratA s.v) s.v.length false, .ro (cat boolA s.here) s.here.length false, .int .i64 A.tick, .ro (cat nmA A.q) A.q.length false, .ro (cat ratA A.v) A.v.length false, .ro (cat boolA A.here) A.here.length false, .int .i64 B.tick, .ro (cat nmA B.q) B.q.length false, .ro (cat ratA B.v) B.v.length false, .ro (cat boolA B.here) B.here.length false, .int .i64 0, .sl 208 0 m.dofs.length none 4, .sl 209 0 m.dofs.length none 4, .sl 210 0 m.parts.length none 1, .int .i64 0, .ro [] 0 true, .ro [] 0 true, .ro [] 0 true] false false) → K .normal ⟨env, heap, nx⟩ := by
   intro env heap nx id g11 g12 g14 hnx hid e24 e64 e208 e209 e210 eL
   subst hK
   rw [seqQ_normal]
   simp (maxSteps := 4000000) (disch := first | omega | (simp only [LL]; omega)) only [go_sem, g11, g12, g14, e24, e64, e208, e209, e210, eL, hm, hs, lq, lv, lh, lz, lb, weaks_cat, weaks_ptC, snaps_cat, f1, g1, f2, g2, f3, g3, f4, g4, f5, g5, sv, sw, ss, ff, hli, List.cons_append, List.nil_append, List.drop_succ_cons, List.drop_zero]
   rw [W_unroll]
   simp (maxSteps := 4000000) (disch := first | omega | (simp only [LL]; omega)) only [go_sem, unQ_normal, unQ_ret, unQ_exit, Int.reduceAdd, g11, g12, g14, e24, e64, e208, e209, e210, eL, hm, hs, lq, lv, lh, lz, lb, weaks_cat, weaks_ptC, snaps_cat, f1, g1, f2, g2, f3, g3, f4, g4, f5, g5, sv, sw, ss, ff, hli, List.cons_append, List.nil_append, List.drop_succ_cons, List.drop_zero]
   rw [W_unroll]
   simp (maxSteps := 4000000) (disch := first | omega | (simp only [LL]; omega)) only [go_sem, unQ_normal, unQ_ret, unQ_exit, Int.reduceAdd, g11, g12, g14, e24, e64, e208, e209, e210, eL, hm, hs, lq, lv, lh, lz, lb, weaks_cat, weaks_ptC, snaps_cat, f1, g1, f2, g2, f3, g3, f4, g4, f5, g5, sv, sw, ss, ff, hli, List.cons_append, List.nil_append, List.drop_succ_cons, List.drop_zero]
   rw [W_unroll]
   simp (maxSteps := 4000000) (disch := first | omega | (simp only [LL]; omega)) only [go_sem, unQ_normal, unQ_ret, unQ_exit, Int.reduceAdd, g11, g12, g14, e24, e64, e208, e209, e210, eL, hm, hs, lq, lv, lh, lz, lb, weaks_cat, weaks_ptC, snaps_cat, f1, g1, f2, g2, f3, g3, f4, g4, f5, g5, sv, sw, ss, ff, hli, List.cons_append, List.nil_append, List.drop_succ_cons, List.drop_zero]
   rw [W_unroll]
   simp (maxSteps := 4000000) (disch := first | omega | (simp only [LL]; omega)) only [go_sem, unQ_normal, unQ_ret, unQ_exit, Int.reduceAdd, g11, g12, g14, e24, e64, e208, e209, e210, eL, hm, hs, lq, lv, lh, lz, lb, weaks_cat, weaks_ptC, snaps_cat, f1, g1, f2, g2, f3, g3, f4, g4, f5, g5, sv, sw, ss, ff, hli, List.cons_append, List.nil_append, List.drop_succ_cons, List.drop_zero]
   rw [W_unroll]
   simp (maxSteps := 4000000) (disch := first | omega | (simp only [LL]; omega)) only [go_sem, unQ_normal, unQ_ret, unQ_exit, Int.reduceAdd, g11, g12, g14, e24, e64, e208, e209, e210, eL, hm, hs, lq, lv, lh, lz, lb, weaks_cat, weaks_ptC, snaps_cat, f1, g1, f2, g2, f3, g3, f4, g4, f5, g5, sv, sw, ss, ff, hli, List.cons_append, List.nil_append, List.drop_succ_cons, List.drop_zero]
   rw [W_unroll]
   simp (maxSteps := 4000000) (disch := first | omega | (simp only [LL]; omega)) only [go_sem, unQ_normal, unQ_ret, unQ_exit, Int.reduceAdd, g11, g12, g14, e24, e64, e208, e209, e210, eL, hm, hs, lq, lv, lh, lz, lb, weaks_cat, weaks_ptC, snaps_cat, f1, g1, f2, g2, f3, g3, f4, g4, f5, g5, sv, sw, ss, ff, hli, List.cons_append, List.nil_append, List.drop_succ_cons, List.drop_zero]
   rw [hr]
  by_cases c2 : A.q.length = s.q.length
  ·by_cases c3 : A.v.length = s.v.length
   ·have c4 : A.here.length ≠ s.here.length := fun h => c1 ⟨c2, c3, h⟩
    simp (maxSteps := 4000000) (disch := first | omega | (simp only [LL]; omega)) only [go_sem]
    exact hJ5 _ _ _ 224 (by simp (maxSteps := 4000000) (disch := first | omega | (simp only [LL]; omega)) only [go_sem]) (by simp (maxSteps := 4000000) (disch := first | omega | (simp only [LL]; omega)) only [go_sem]) (by simp (maxSteps := 4000000) (disch := first | omega | (simp only [LL]; omega)) only [go_sem]) (by omega) (.inl rfl) (by simp (maxSteps := 4000000) (disch := first | omega | (simp only [LL]; omega)) only [go_sem]) (by simp (maxSteps := 4000000) (disch := first | omega | (simp only [LL]; omega)) only [go_sem]) (by simp (maxSteps := 4000000) (disch := first | omega | (simp only [LL]; omega)) only [go_sem]) (by simp (maxSteps := 4000000) (disch := first | omega | (simp only [LL]; omega)) only [go_sem]) (by simp (maxSteps := 4000000) (disch := first | omega | (simp only [LL]; omega)) only [go_sem]) (by simp (maxSteps := 4000000) (disch := first | omega | (simp only [LL]; omega)) only [go_sem])
   ·simp (maxSteps := 4000000) (disch := first | omega | (simp only [LL]; omega)) only [go_sem]
    exact hJ5 _ _ _ 224 (by simp (maxSteps := 4000000) (disch := first | omega | (simp only [LL]; omega)) only [go_sem]) (by simp (maxSteps := 4000000) (disch := first | omega | (simp only [LL]; omega)) only [go_sem]) (by simp (maxSteps := 4000000) (disch := first | omega | (simp only [LL]; omega)) only [go_sem]) (by omega) (.inl rfl) (by simp (maxSteps := 4000000) (disch := first | omega | (simp only [LL]; omega)) only [go_sem]) (by simp (maxSteps := 4000000) (disch := first | omega | (simp only [LL]; omega)) only [go_sem]) (by simp (maxSteps := 4000000) (disch := first | omega | (simp only [LL]; omega)) only [go_sem]) (by simp (maxSteps := 4000000) (disch := first | omega | (simp only [LL]; omega)) only [go_sem]) (by simp (maxSteps := 4000000) (disch := first | omega | (simp only [LL]; omega)) only [go_sem]) (by simp (maxSteps := 4000000) (disch := first | omega | (simp only [LL]; omega)) only [go_sem])
  ·simp (maxSteps := 4000000) (disch := first | omega | (simp only [LL]; omega)) only [go_sem]
   exact hJ5 _ _ _ 224 (by simp (maxSteps := 4000000) (disch := first | omega | (simp only [LL]; omega)) only [go_sem]) (by simp (maxSteps := 4000000) (disch := first | omega | (simp only [LL]; omega)) only [go_sem]) (by simp (maxSteps := 4000000) (disch := first | omega | (simp only [LL]; omega)) only [go_sem]) (by omega) (.inl rfl) (by simp (maxSteps := 4000000) (disch := first | omega | (simp only [LL]; omega)) only [go_sem]) (by simp (maxSteps := 4000000) (disch := first | omega | (simp only [LL]; omega)) only [go_sem]) (by simp (maxSteps := 4000000) (disch := first | omega | (simp only [LL]; omega)) only [go_sem]) (by simp (maxSteps := 4000000) (disch := first | omega | (simp only [LL]; omega)) only [go_sem]) (by simp (maxSteps := 4000000) (disch := first | omega | (simp only [LL]; omega)) only [go_sem]) (by simp (maxSteps := 4000000) (disch := first | omega | (simp only [LL]; omega)) only [go_sem])
end Go.Proofs.YtenhjccadhlgoaaGreat.Abs
