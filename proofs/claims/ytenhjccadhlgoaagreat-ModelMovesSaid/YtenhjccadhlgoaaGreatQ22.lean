/-
  Positions and velocities are linear. No conditions. gantrylaw15.ModelMoves answers true. No conditions.
-/
import Derived.Test.YtenhjccadhlgoaaGreatQ20
import Derived.Test.YtenhjccadhlgoaaGreatQ10
set_option linter.unusedSimpArgs false
set_option linter.unusedVariables false
set_option maxRecDepth 100000
set_option maxHeartbeats 16000000
namespace Go.Proofs.YtenhjccadhlgoaaGreat.Abs
open Go
def addL (a b : List Rat) : List Rat := List.zipWith (· + ·) a b
theorem addL_len {a b : List Rat} (h : a.length = b.length) : (addL a b).length = a.length := by unfold addL; rw [List.length_zipWith]; omega
theorem addL_get {a b : List Rat} (h : a.length = b.length) (k : Nat) : (addL a b).getD k 0 = a.getD k 0 + b.getD k 0 := by
 unfold addL
 rw [List.getD_eq_getElem?_getD, List.getD_eq_getElem?_getD, List.getD_eq_getElem?_getD, List.getElem?_zipWith]
 by_cases hk : k < a.length
 ·rw [List.getElem?_eq_getElem hk, List.getElem?_eq_getElem (by omega)]; rfl
 ·rw [List.getElem?_eq_none (by omega), List.getElem?_eq_none (by omega)]
  exact (Rat.add_zero 0).symm
theorem addL_take {a b : List Rat} (h : a.length = b.length) {i : Nat} (hi : i < a.length) : (addL a b).take (i + 1) = (addL a b).take i ++ [a.getD i 0 + b.getD i 0] := by
 have hl := addL_len h
 rw [List.take_succ_eq_append_getElem (by omega), ← addL_get h i, getD_of_lt (by omega)]
theorem addL_rs {a b : List Rat} {N : Nat} (ha : ∀ x ∈ a, RS x N) (hb : ∀ x ∈ b, RS x N) : ∀ x ∈ addL a b, RS x (N + N + 1) := by
 intro x hx
 unfold addL at hx
 obtain ⟨i, hi, rfl⟩ := List.mem_iff_getElem.1 hx
 rw [List.getElem_zipWith]
 rw [List.length_zipWith] at hi
 have h1 := ha _ (List.getElem_mem (show i < a.length by omega))
 have h2 := hb _ (List.getElem_mem (show i < b.length by omega))
 exact (rs_add (x := a[i]) (y := b[i])).mono (by omega)
theorem rat4 (a b c d : Rat) : (a + b) + (c + d) = (a + c) + (b + d) := by
 rw [Rat.add_assoc, Rat.add_assoc, ← Rat.add_assoc b c d, Rat.add_comm b c, Rat.add_assoc c b d]
theorem mvF_add {a b : List Rat} (h : a.length = b.length) (x y : Q3) (c : ColR) : mvF (addL a b) (x.1 + y.1, x.2.1 + y.2.1, x.2.2 + y.2.2) c = ((mvF a x c).1 + (mvF b y c).1, (mvF a x c).2.1 + (mvF b y c).2.1, (mvF a x c).2.2 + (mvF b y c).2.2) := by
 unfold mvF
 rw [addL_get h]
 simp only [Rat.add_mul, rat4]
theorem mvV_add {a b : List Rat} (h : a.length = b.length) (cols : List ColR) : mvV (addL a b) cols = ((mvV a cols).1 + (mvV b cols).1, (mvV a cols).2.1 + (mvV b cols).2.1, (mvV a cols).2.2 + (mvV b cols).2.2) := by
 have key : ∀ (cs : List ColR) (x y : Q3), cs.foldl (mvF (addL a b)) (x.1 + y.1, x.2.1 + y.2.1, x.2.2 + y.2.2) = ((cs.foldl (mvF a) x).1 + (cs.foldl (mvF b) y).1, (cs.foldl (mvF a) x).2.1 + (cs.foldl (mvF b) y).2.1, (cs.foldl (mvF a) x).2.2 + (cs.foldl (mvF b) y).2.2) := by
  intro cs
  induction cs with
  | nil => intro x y; rfl
  | cons c cs ih => intro x y; rw [List.foldl_cons, List.foldl_cons, List.foldl_cons, mvF_add h, ih]
 have := key cols (0, 0, 0) (0, 0, 0)
 simp only [Rat.add_zero] at this
 exact this
theorem at_diff {a b : List Rat} (h : a.length = b.length) (p : PartR) : (atV (addL a b) p).1 - (atV b p).1 = (atV a p).1 - p.hx ∧ (atV (addL a b) p).2 - (atV b p).2 = (atV a p).2 - p.hy := by
 unfold atV
 rw [mvV_add h]
 have key : ∀ h a b : Rat, h + (a + b) - (h + b) = h + a - h := by
  intro h a b
  rw [Rat.sub_eq_add_neg, Rat.sub_eq_add_neg, Rat.neg_add, ← Rat.add_assoc h a b, rat4 (h + a) b (-h) (-b), Rat.add_neg_cancel, Rat.add_zero]
 exact ⟨key _ _ _, key _ _ _⟩
theorem okCols.monoN {n N N' : Nat} {l : List ColR} (h : okCols n N l) (hn : N ≤ N') : okCols n N' l := ⟨h.1, fun c hc => by
 obtain ⟨a, b, c, d⟩ := h.2 c hc
 exact ⟨a, b.mono hn, c.mono hn, d.mono hn⟩⟩
theorem mv16 {v : List Rat} {cols : List ColR} {N : Nat} (hv : ∀ x ∈ v, RS x N) (hc : okCols v.length N cols) (hN : N < 2 ^ 10) : RS3 (mvV v cols) (2 ^ 16) := by
 obtain ⟨a1, a2, a3⟩ := mvV_rs hv hc
 have hb := cols_bd hc hN
 exact ⟨a1.mono (by omega), a2.mono (by omega), a3.mono (by omega)⟩
theorem growQ_put {lo : Nat} {H' : Heap} {id nx n : Nat} {l : List Rat} {x : Rat} {cs : List AV} (hid : lo ≤ id ∧ id < nx) (hn : n = (l ++ [x]).length) (hc : ratA x = cs) (k2 : H' id = some (.cells (cat ratA l ++ cs) true false)) : GrowC lo H' nx (.sl id 0 n none 4) (cat ratA (l ++ [x])) n 4 := by
 subst hn hc
 refine .inr ⟨id, hid, rfl, ?_⟩
 rw [cat_append, show cat ratA [x] = ratA x from rfl]
 exact k2
theorem replQ_1 : replA 1 [.bool false, .ro [] 0 false, .bool false, .ro [] 0 false] = [.bool false, .ro [] 0 false, .bool false, .ro [] 0 false] := rfl
theorem moves_part [SpC] (m : MdlR) (p : PartR) (i : Nat) (q a b : List Rat) (hi : m.parts[i]? = some p) (hpl : m.parts.length < 2 ^ 30) (hal : a.length = b.length) (hql : q.length = a.length) (hl : a.length < 2 ^ 20) (hq : ∀ x ∈ q, RS x 1) (ha : ∀ x ∈ a, RS x 1) (hb : ∀ x ∈ b, RS x 1)
  (hc : okCols a.length 1 p.cols) (h1 : RS p.hx 1) (h2 : RS p.hy 1) :
  ∃ (ax ay az bx bz cx cy cz sx sy dx dy ex ey gx gy : Rat) (by0 : Rat),
   M X 20 [.agg (mdlA m), .ro (cat ratA a) a.length false, .int .i64 i] = some (.tuple [.agg [zS (Rat.num (ax)), zD (Rat.num (ax)), zS (dz (ax)), zD (dz (ax)), zS (Rat.num (ay)), zD (Rat.num (ay)), zS (dz (ay)), zD (dz (ay))], .agg [zS (Rat.num (az)), zD (Rat.num (az)), zS (dz (az)), zD (dz (az))]]) ∧
   M X 21 [.agg (mdlA m), .ro (cat ratA a) a.length false, .int .i64 i] = some (.tuple [.agg [zS (Rat.num (ax)), zD (Rat.num (ax)), zS (dz (ax)), zD (dz (ax)), zS (Rat.num (ay)), zD (Rat.num (ay)), zS (dz (ay)), zD (dz (ay))], .agg [zS (Rat.num (az)), zD (Rat.num (az)), zS (dz (az)), zD (dz (az))]]) ∧
   M X 22 [.agg (mdlA m), .ro (cat ratA q) q.length false, .int .i64 i] = some (.agg [zS (Rat.num (sx)), zD (Rat.num (sx)), zS (dz (sx)), zD (dz (sx)), zS (Rat.num (sy)), zD (Rat.num (sy)), zS (dz (sy)), zD (dz (sy))]) ∧
   M X 23 [.agg (mdlA m), .ro (cat ratA q) q.length false, .int .i64 i] = some (.agg [zS (Rat.num (sx)), zD (Rat.num (sx)), zS (dz (sx)), zD (dz (sx)), zS (Rat.num (sy)), zD (Rat.num (sy)), zS (dz (sy)), zD (dz (sy))]) ∧
   M X 20 [.agg (mdlA m), .ro (cat ratA b) b.length false, .int .i64 i] = some (.tuple [.agg [zS (Rat.num (bx)), zD (Rat.num (bx)), zS (dz (bx)), zD (dz (bx)), zS (Rat.num (by0)), zD (Rat.num (by0)), zS (dz (by0)), zD (dz (by0))], .agg [zS (Rat.num (bz)), zD (Rat.num (bz)), zS (dz (bz)), zD (dz (bz))]]) ∧
   M X 20 [.agg (mdlA m), .ro (cat ratA (addL a b)) a.length false, .int .i64 i] = some (.tuple [.agg [zS (Rat.num (cx)), zD (Rat.num (cx)), zS (dz (cx)), zD (dz (cx)), zS (Rat.num (cy)), zD (Rat.num (cy)), zS (dz (cy)), zD (dz (cy))], .agg [zS (Rat.num (cz)), zD (Rat.num (cz)), zS (dz (cz)), zD (dz (cz))]]) ∧
   M X 19 [.agg [zS (Rat.num (ax)), zD (Rat.num (ax)), zS (dz (ax)), zD (dz (ax))], .agg [zS (Rat.num (bx)), zD (Rat.num (bx)), zS (dz (bx)), zD (dz (bx))]] = some (.agg [zS (Rat.num (cx)), zD (Rat.num (cx)), zS (dz (cx)), zD (dz (cx))]) ∧ M X 19 [.agg [zS (Rat.num (ay)), zD (Rat.num (ay)), zS (dz (ay)), zD (dz (ay))], .agg [zS (Rat.num (by0)), zD (Rat.num (by0)), zS (dz (by0)), zD (dz (by0))]] = some (.agg [zS (Rat.num (cy)), zD (Rat.num (cy)), zS (dz (cy)), zD (dz (cy))]) ∧ M X 19 [.agg [zS (Rat.num (az)), zD (Rat.num (az)), zS (dz (az)), zD (dz (az))], .agg [zS (Rat.num (bz)), zD (Rat.num (bz)), zS (dz (bz)), zD (dz (bz))]] = some (.agg [zS (Rat.num (cz)), zD (Rat.num (cz)), zS (dz (cz)), zD (dz (cz))]) ∧
   M X 22 [.agg (mdlA m), .ro (cat ratA (addL a b)) a.length false, .int .i64 i] = some (.agg [zS (Rat.num (dx)), zD (Rat.num (dx)), zS (dz (dx)), zD (dz (dx)), zS (Rat.num (dy)), zD (Rat.num (dy)), zS (dz (dy)), zD (dz (dy))]) ∧
   M X 22 [.agg (mdlA m), .ro (cat ratA b) b.length false, .int .i64 i] = some (.agg [zS (Rat.num (ex)), zD (Rat.num (ex)), zS (dz (ex)), zD (dz (ex)), zS (Rat.num (ey)), zD (Rat.num (ey)), zS (dz (ey)), zD (dz (ey))]) ∧
   M X 22 [.agg (mdlA m), .ro (cat ratA a) a.length false, .int .i64 i] = some (.agg [zS (Rat.num (gx)), zD (Rat.num (gx)), zS (dz (gx)), zD (dz (gx)), zS (Rat.num (gy)), zD (Rat.num (gy)), zS (dz (gy)), zD (dz (gy))]) ∧
   (∃ ux uy : Rat, M X 27 [.agg [zS (Rat.num (dx)), zD (Rat.num (dx)), zS (dz (dx)), zD (dz (dx)), zS (Rat.num (dy)), zD (Rat.num (dy)), zS (dz (dy)), zD (dz (dy))], .agg [zS (Rat.num (ex)), zD (Rat.num (ex)), zS (dz (ex)), zD (dz (ex)), zS (Rat.num (ey)), zD (Rat.num (ey)), zS (dz (ey)), zD (dz (ey))]] = some (.agg [zS (Rat.num (ux)), zD (Rat.num (ux)), zS (dz (ux)), zD (dz (ux)), zS (Rat.num (uy)), zD (Rat.num (uy)), zS (dz (uy)), zD (dz (uy))]) ∧ M X 27 [.agg [zS (Rat.num (gx)), zD (Rat.num (gx)), zS (dz (gx)), zD (dz (gx)), zS (Rat.num (gy)), zD (Rat.num (gy)), zS (dz (gy)), zD (dz (gy))], .agg [zS (Rat.num (p.hx)), zD (Rat.num (p.hx)), zS (dz (p.hx)), zD (dz (p.hx)), zS (Rat.num (p.hy)), zD (Rat.num (p.hy)), zS (dz (p.hy)), zD (dz (p.hy))]] = some (.agg [zS (Rat.num (ux)), zD (Rat.num (ux)), zS (dz (ux)), zD (dz (ux)), zS (Rat.num (uy)), zD (Rat.num (uy)), zS (dz (uy)), zD (dz (uy))]) ∧
    M X 24 [.agg [zS (Rat.num (ux)), zD (Rat.num (ux)), zS (dz (ux)), zD (dz (ux)), zS (Rat.num (uy)), zD (Rat.num (uy)), zS (dz (uy)), zD (dz (uy))], .agg [zS (Rat.num (ux)), zD (Rat.num (ux)), zS (dz (ux)), zD (dz (ux))], .agg [zS (Rat.num (uy)), zD (Rat.num (uy)), zS (dz (uy)), zD (dz (uy))]] = some (.bool true)) ∧
   M X 24 [.agg [zS (Rat.num (ax)), zD (Rat.num (ax)), zS (dz (ax)), zD (dz (ax)), zS (Rat.num (ay)), zD (Rat.num (ay)), zS (dz (ay)), zD (dz (ay))], .agg [zS (Rat.num (ax)), zD (Rat.num (ax)), zS (dz (ax)), zD (dz (ax))], .agg [zS (Rat.num (ay)), zD (Rat.num (ay)), zS (dz (ay)), zD (dz (ay))]] = some (.bool true) ∧
   M X 24 [.agg [zS (Rat.num (sx)), zD (Rat.num (sx)), zS (dz (sx)), zD (dz (sx)), zS (Rat.num (sy)), zD (Rat.num (sy)), zS (dz (sy)), zD (dz (sy))], .agg [zS (Rat.num (sx)), zD (Rat.num (sx)), zS (dz (sx)), zD (dz (sx))], .agg [zS (Rat.num (sy)), zD (Rat.num (sy)), zS (dz (sy)), zD (dz (sy))]] = some (.bool true) ∧
   M X 24 [.agg [zS (Rat.num (cx)), zD (Rat.num (cx)), zS (dz (cx)), zD (dz (cx)), zS (Rat.num (cy)), zD (Rat.num (cy)), zS (dz (cy)), zD (dz (cy))], .agg [zS (Rat.num (cx)), zD (Rat.num (cx)), zS (dz (cx)), zD (dz (cx))], .agg [zS (Rat.num (cy)), zD (Rat.num (cy)), zS (dz (cy)), zD (dz (cy))]] = some (.bool true) ∧
   M X 25 [.agg [zS (Rat.num (az)), zD (Rat.num (az)), zS (dz (az)), zD (dz (az))], .agg [zS (Rat.num (az)), zD (Rat.num (az)), zS (dz (az)), zD (dz (az))]] = some (.bool true) ∧ M X 26 [.agg [zS (Rat.num (cz)), zD (Rat.num (cz)), zS (dz (cz)), zD (dz (cz))], .agg [zS (Rat.num (cz)), zD (Rat.num (cz)), zS (dz (cz)), zD (dz (cz))]] = some (.bool true) := by
 have hadd := mvV_add hal p.cols
 have hdif := at_diff hal p
 have hcl := addL_len hal
 have hab := addL_rs ha hb
 have hcb : okCols b.length 1 p.cols := by rw [← hal]; exact hc
 have hcq : okCols q.length 1 p.cols := by rw [hql]; exact hc
 have hcc : okCols (addL a b).length 3 p.cols := by rw [hcl]; exact hc.monoN (by omega)
 have ra := mv16 ha hc (by omega)
 have rb := mv16 hb hcb (by omega)
 have rc := mv16 hab hcc (by omega)
 have as1 := at_rs hq hcq h1 h2 (by omega)
 have as2 := at_rs hab hcc (h1.mono (by omega)) (h2.mono (by omega)) (by omega)
 have as3 := at_rs hb hcb h1 h2 (by omega)
 have as4 := at_rs ha hc h1 h2 (by omega)
 obtain ⟨ra1, ra2, ra3⟩ := ra
 obtain ⟨rb1, rb2, rb3⟩ := rb
 obtain ⟨rc1, rc2, rc3⟩ := rc
 obtain ⟨s1, s2⟩ := as1
 obtain ⟨c1, c2⟩ := as2
 obtain ⟨b1, b2⟩ := as3
 obtain ⟨g1, g2⟩ := as4
 have e1 : (mvV (addL a b) p.cols).1 = (mvV a p.cols).1 + (mvV b p.cols).1 := by rw [hadd]
 have e2 : (mvV (addL a b) p.cols).2.1 = (mvV a p.cols).2.1 + (mvV b p.cols).2.1 := by rw [hadd]
 have e3 : (mvV (addL a b) p.cols).2.2 = (mvV a p.cols).2.2 + (mvV b p.cols).2.2 := by rw [hadd]
 have m1 := M_20 m a i p 1 hi hpl ha (by omega) hc (by omega)
 have m2 := M_21 m a i p 1 hi hpl ha (by omega) hc (by omega)
 have m3 := M_22 m q i p 1 hi hpl hq (by omega) hcq h1 h2 (by omega)
 have m4 := M_23 m q i p 1 hi hpl hq (by omega) hcq h1 h2 (by omega)
 have m5 := M_20 m b i p 1 hi hpl hb (by omega) hcb (by omega)
 have m6 := M_20 m (addL a b) i p 3 hi hpl hab (by omega) hcc (by omega)
 have m7 := M_22 m (addL a b) i p 3 hi hpl hab (by omega) hcc (h1.mono (by omega)) (h2.mono (by omega)) (by omega)
 have m8 := M_22 m b i p 1 hi hpl hb (by omega) hcb h1 h2 (by omega)
 have m9 := M_22 m a i p 1 hi hpl ha (by omega) hc h1 h2 (by omega)
 rw [hcl] at m6 m7
 refine ⟨_, _, _, _, _, _, _, _, _, _, _, _, _, _, _, _, _, m1, m2, m3, m4, m5, m6, ?_, ?_, ?_, m7, m8, m9, ⟨(atV a p).1 - p.hx, (atV a p).2 - p.hy, ?_, ?_, ?_⟩, ?_, ?_, ?_, ?_, ?_⟩
 ·rw [e1]; exact M_19 (by omega)
 ·rw [e2]; exact M_19 (by omega)
 ·rw [e3]; exact M_19 (by omega)
 ·rw [← hdif.1, ← hdif.2]
  exact M_27 (by omega)
 ·exact M_27 (by omega)
 ·exact M_24 (x := (atV a p).1 - p.hx) (y := (atV a p).2 - p.hy) (n := 2 ^ 16 + 1 + 1) (k := 2 ^ 16 + 1 + 1) (by omega) (by omega)
 ·exact M_24 (n := 2 ^ 16) (k := 2 ^ 16) (by omega) (by omega)
 ·exact M_24 (n := 2 ^ 16) (k := 2 ^ 16) (by omega) (by omega)
 ·exact M_24 (n := 2 ^ 16) (k := 2 ^ 16) (by omega) (by omega)
 ·exact M_25 (n := 2 ^ 16) (by omega)
 ·exact M_26 (n := 2 ^ 16) (by omega)
theorem M_5 [SpC] (hP : PairsSay) (l k x y : List Int) (hl : okI l) (hll : l.length < 2 ^ 60) (hk : okI k) (hkl : k.length < 2 ^ 60) (hx : okI x) (hxl : x.length < 2 ^ 60) (hy : okI y) (hyl : y.length < 2 ^ 60) :
  M X 5 [isl l, isl k, isl x, isl y] = some (.bool true) := by
 refine M_of X (fn := Tryz.f5) Tryz.func5 rfl ok_5 mode_5 res_5 _ rfl _ ?_
 intro r hr
 have hm := M_8 l hl hll
 have G := modelV_gen l
 generalize modelV l = m at *
 have hdl := G.pre.dl
 have hpl := G.pre.pl
 have hs := M_13 m k 1 G.good (by omega) (by omega) (by omega) (by omega) hk hkl
 have ha := M_13 m x 1 G.good (by omega) (by omega) (by omega) (by omega) hx hxl
 have hb := M_13 m y 1 G.good (by omega) (by omega) (by omega) (by omega) hy hyl
 have gs := good_stateV G k
 have ga := good_stateV G x
 have gb := good_stateV G y
 generalize stateV m k = s at *
 rw [staA_eq] at ha hb
 have al := ga.vl
 have bl := gb.vl
 have ar := ga.v
 have br := gb.v
 generalize (stateV m x).v = a at *
 generalize (stateV m y).v = b at *
 generalize (stateV m x).q = xq at *
 generalize (stateV m x).tick = xt at *
 generalize (stateV m x).here = xh at *
 generalize (stateV m y).q = yq at *
 generalize (stateV m y).tick = yt at *
 generalize (stateV m y).here = yh at *
 clear ga gb
 have hq := gs.ql
 have hv := gs.vl
 have hh := gs.hl
 have la := cat_length (f := ratA) a
 have lb := cat_length (f := ratA) b
 have lp := cat_length (f := partA) m.parts
 have hli := lives_15 hP
 rw [mdlA_eq] at hm hs ha hb
 rw [staA_eq] at hs
 have hal : a.length = b.length := by omega
 have hcl := addL_len hal
 have hab := addL_rs ar br
 have lab := cat_length (f := ratA) (addL a b)
 rw [hcl] at lab
 simp (maxSteps := 4000000) (disch := first | omega | (simp only [LL]; omega)) only [go_sem, hm, hs, ha, hb, weaks_cat, weaks_ptC]
 clear hm ha hb
 refine W_loop X (fun (i : Nat) t => i ≤ a.length ∧ t.env 9 = .ptr 24 0 ∧ t.env 10 = .ptr 64 0 ∧ t.env 11 = .ro (cat ratA a) a.length false ∧ t.env 12 = .ro (cat ratA b) b.length false ∧ t.env 14 = .int .i64 i ∧ 168 ≤ t.next ∧ t.heap 24 = some (.cells (mdlA m) false false) ∧ t.heap 64 = some (.cells (staA s) false false) ∧
   GrowC 168 t.heap t.next (t.env 13) (cat ratA ((addL a b).take i)) i 4) (fun i => a.length - i) ?_ 0 _ ?_
 ·rintro i ⟨env, heap, nx⟩ ⟨hi, g9, g10, g11, g12, g14, hnx, e24, e64, hgr⟩
  simp only at g9 g10 g11 g12 g14 hnx e24 e64 hgr
  rw [mdlA_eq] at e24
  rw [staA_eq] at e64
  by_cases hlt : i < a.length
  ·have ga := getD_some (l := a) (i := i) hlt 0
   have gb := getD_some (l := b) (i := i) (by omega) 0
   have da := cat_take (f := ratA) ga
   have db := cat_take (f := ratA) gb
   rw [ratA_eq] at da db
   have ra : RS (a.getD i 0) 1 := ar _ (List.mem_of_getElem? ga)
   have rb : RS (b.getD i 0) 1 := br _ (List.mem_of_getElem? gb)
   have ad := M_19 (x := a.getD i 0) (y := b.getD i 0) (by omega)
   have hsucc := addL_take hal hlt
   have hlen : ((addL a b).take i).length = i := by rw [List.length_take]; omega
   have hcat := ratA_eq (a.getD i 0 + b.getD i 0)
   have hq2 : ((addL a b).take i ++ [a.getD i 0 + b.getD i 0]).length = i + 1 := by rw [List.length_append, hlen]; rfl
   generalize a.getD i 0 + b.getD i 0 = q at *
   generalize a.getD i 0 = q1 at *
   generalize b.getD i 0 = q2 at *
   generalize (addL a b).take i = acc at *
   have ca := cat_length (f := ratA) acc
   rw [hlen] at ca
   rcases hgr with ⟨e13, ec, en⟩ | ⟨B, hB, e13, eB⟩
   ·obtain rfl : acc = [] := List.eq_nil_of_length_eq_zero (by omega)
    subst en
    simp only [Nat.zero_mul, List.drop_zero] at da db
    simp (maxSteps := 4000000) (disch := first | omega | (simp only [LL]; omega)) only [go_sem, g9, g10, g11, g12, g14, e24, e64, e13, la, lb, da, db, ad, replQ_1]
    refine ⟨0 + 1, ?_, by omega⟩
    rw [hsucc]
    repeat' apply And.intro
    all_goals first | omega | rfl | (rw [mdlA_eq]; done) | (rw [staA_eq]; done) | assumption | exact growC_put _ _ _ _ _ _ _ (by omega) | trace_state
   ·simp (maxSteps := 4000000) (disch := first | omega | (simp only [LL]; omega)) only [go_sem, g9, g10, g11, g12, g14, e24, e64, e13, eB, la, lb, da, db, ad, ca, replQ_1]
    refine ⟨i + 1, ?_, by omega⟩
    rw [hsucc]
    repeat' apply And.intro
    all_goals first | omega | rfl | (rw [mdlA_eq]; done) | (rw [staA_eq]; done) | assumption | (refine growQ_put (by omega) hq2.symm hcat ?_; simp (maxSteps := 4000000) (disch := first | omega | (simp only [LL]; omega)) only [go_sem]; done) | trace_state
  ·obtain rfl : i = a.length := by omega
   rw [List.take_of_length_le (by omega)] at hgr
   rcases hgr with ⟨e13, ec, en⟩ | ⟨B, hB, e13, eB⟩
   ·omega
   simp (maxSteps := 4000000) (disch := first | omega | (simp only [LL]; omega)) only [go_sem, g9, g10, g11, g12, g14, e24, e64, e13, eB, la]
   refine W_loop X (fun (i : Nat) t => i ≤ m.parts.length ∧ t.env 9 = .ptr 24 0 ∧ t.env 10 = .ptr 64 0 ∧ t.env 11 = .ro (cat ratA a) a.length false ∧ t.env 12 = .ro (cat ratA b) b.length false ∧ t.env 13 = .sl B 0 a.length none 4 ∧ t.env 15 = .int .i64 i ∧ B < t.next ∧ t.heap 24 = some (.cells (mdlA m) false false) ∧ t.heap 64 = some (.cells (staA s) false false) ∧
    ∃ f, t.heap B = some (.cells (cat ratA (addL a b)) true f)) (fun i => m.parts.length - i) ?_ 0 _ ?_
   ·clear g9 g10 g11 g12 g14 hnx e24 e64 e13 eB hi hlt
    rintro i ⟨env, heap, nx⟩ ⟨hi, g9, g10, g11, g12, g13, g15, hnx, e24, e64, f, eB⟩
    simp only at g9 g10 g11 g12 g13 g15 hnx e24 e64 eB
    rw [mdlA_eq] at e24
    rw [staA_eq] at e64
    by_cases hlt : i < m.parts.length
    ·have gp := List.getElem?_eq_getElem hlt
     have op := G.good.part _ (List.mem_of_getElem? gp)
     have dp := cat_drop (f := partA) gp
     have oc : okCols a.length 1 m.parts[i].cols := by rw [al]; exact op.cols
     obtain ⟨ax, ay, az, bx, bz, cx, cy, cz, sx, sy, dx, dy, ex, ey, gx, gy, by1, m1, m2, m3, m4, m5, m6, n1, n2, n3, m7, m8, m9, ⟨ux, uy, u1, u2, u3⟩, v1, v2, v3, v4, v5⟩ :=
      moves_part m m.parts[i] i s.q a b gp (by omega) hal (by omega) (by omega) gs.q ar br oc op.hx op.hy
     generalize m.parts[i] = p at *
     rw [partA_eq] at dp
     rw [mdlA_eq] at m1 m2 m3 m4 m5 m6 m7 m8 m9
     cases f with
     | false =>
      simp (maxSteps := 4000000) (disch := first | omega | (simp only [LL]; omega)) only [go_sem, g9, g10, g11, g12, g13, g15, e24, e64, eB, la, lb, lp, lab, hcl, dp, weaks_cat, weaks_ptC, snaps_cat, m1, m2, m3, m4, m5, m6, m7, m8, m9, n1, n2, n3, u1, u2, u3, v1, v2, v3, v4, v5]
      refine ⟨i + 1, ?_, by omega⟩
      repeat' apply And.intro
      all_goals first | omega | rfl | (rw [mdlA_eq]; done) | (rw [staA_eq]; done) | exact ⟨_, rfl⟩ | trace_state
     | true =>
      simp (maxSteps := 4000000) (disch := first | omega | (simp only [LL]; omega)) only [go_sem, g9, g10, g11, g12, g13, g15, e24, e64, eB, la, lb, lp, lab, hcl, dp, weaks_cat, weaks_ptC, snaps_cat, m1, m2, m3, m4, m5, m6, m7, m8, m9, n1, n2, n3, u1, u2, u3, v1, v2, v3, v4, v5]
      refine ⟨i + 1, ?_, by omega⟩
      repeat' apply And.intro
      all_goals first | omega | rfl | (rw [mdlA_eq]; done) | (rw [staA_eq]; done) | exact ⟨_, rfl⟩ | trace_state
    ·obtain rfl : i = m.parts.length := by omega
     have fl1 := M_16 m s.here s.tick (.ro (cat ratA s.q) s.q.length false) (.ro (cat ratA s.v) s.v.length false) false G.good.live hh
     have fl2 := M_29 m s.here s.tick (.ro (cat ratA s.q) s.q.length false) (.ro (cat ratA s.v) s.v.length false) false G.good.live hh
     have ll := liveV_len m s.here
     have cl := cat_length (f := boolA) (liveV m s.here)
     rw [ll] at cl
     have sf := M_28 (liveV m s.here) (by omega)
     rw [ll] at sf
     have p1 := M_pairs (hP m s (G.pairs hh))
     have pe : pairsA m s = .ro (ptC (pairsV m s.here)) (pairsV m s.here).length false := rfl
     rw [pe] at p1
     have p2 := M_31 m s (by omega) (by have := G.good.sl; omega) hh
     have plen : (pairsV m s.here).length < 2 ^ 20 := by
      have := pairsK_len m s.here m.parts.length
      have := Nat.mul_le_mul (show m.parts.length ≤ 1023 by omega) (show m.parts.length ≤ 1023 by omega)
      unfold pairsV; omega
     have sp := M_30 (pairsV m s.here) (by omega)
     rw [mdlA_eq] at fl1 fl2 p1 p2
     rw [staA_eq] at p1 p2
     simp (maxSteps := 4000000) (disch := first | omega | (simp only [LL]; omega)) only [go_sem, g9, g10, g11, g12, g13, g15, e24, e64, la, lb, lp, cl, weaks_cat, weaks_ptC, snaps_cat, fl1, fl2, sf, p1, p2, sp, hli]
     rw [hr]
   ·simp (maxSteps := 4000000) (disch := first | omega | (simp only [LL]; omega)) only [go_sem, g9, g10, g11, g12, g14, e24, e64, e13, eB]
    repeat' apply And.intro
    all_goals first | omega | rfl | (rw [mdlA_eq]; done) | (rw [staA_eq]; done) | assumption | exact ⟨_, rfl⟩ | trace_state
 ·simp (maxSteps := 4000000) (disch := first | omega | (simp only [LL]; omega)) only [go_sem]
  repeat' apply And.intro
  all_goals first | omega | rfl | (rw [mdlA_eq]; done) | (rw [staA_eq]; done) | assumption | exact growC_nil _ _ _ _ | trace_state
end Go.Proofs.YtenhjccadhlgoaaGreat.Abs
