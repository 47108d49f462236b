/-
  From what the interpreter answers to the given rows: arguments that are slices of whole numbers and whole numbers. No conditions. Package model: Fit. No conditions. The shapes of the generator of models: valid, and of the same sides in the program and in the reference model. No conditions. gantrylaw15.lives. No conditions. gantrylaw15.lives: its walk. No conditions. The models of the generator: what suits them, and where their parts lie. No conditions. The models of the generator suit what is asked of a model, and their start fits. No conditions. A state of the generator fits; without one of its parts it fits, and has no more pairs. No conditions.
-/
import Derived.Test.YtenhjccadhlgoaaGreatQ19
import Derived.Test.YtenhjccadhlgoaaGreatRows
import Derived.ProofKit
import Derived.LaidMore
import Derived.OpenShut
import Derived.SizedLaws
import Derived.ChangeBears2
import Derived.Stop.Joined
import Derived.Test.YtenhjccadhlgoaaGreatQ09
import Derived.Test.YtenhjccadhlgoaaGreatQ06
import Derived.Test.YtenhjccadhlgoaaGreatQ08
import Derived.Test.YtenhjccadhlgoaaGreatQ10
set_option linter.unusedSimpArgs false
set_option linter.unusedVariables false
set_option maxRecDepth 100000
set_option maxHeartbeats 16000000
section
set_option maxRecDepth 100000
namespace Go.Proofs.YtenhjccadhlgoaaGreat.Abs
open Go Go.ChangeShapes Go.WideShapes Go.ChangeAt Go.RowKit
inductive Arg where
 | s (l : List Int)
 | i (n : Int)
def Arg.ty : Arg → TypeId
 | .s _ => 22
 | .i _ => 3
def Arg.av : Arg → AV
 | .s l => isl l
 | .i n => .int .i64 n
def Arg.ok : Arg → Prop
 | .s l => okI l ∧ l.length < 2 ^ 60
 | .i n => ok64 n
abbrev noW : Nat → Prop := fun _ => False
noncomputable abbrev PR : Program := Tryz.prog
theorem cellsInt : PR.cellsOf 3 = 1 := by kernel_rfl
theorem bytesInt : PR.bytesOf 3 = 8 := by kernel_rfl
theorem laidOut : laidOutB PR = true := by kernel_rfl
def Fits {H : Type} (t : TypeId) (d : DataW H) : Prop := ∀ elems spare e, d = .slice elems spare → PR.underlying t = some (.slice e) → (elems.length + spare.length) * PR.bytesOf e ≤ reachBytes
theorem open_arg {H : Type} {enc : TypeId × Value → H} {W : World} {base : Nat} {sp : Nat → Bool} {t : TypeId} {v : Value} {d : DataW H} {p : List MemPlace} (ht : t = 22 ∨ t = 3) (hval : Value.okWide PR W .any base t v) (h0 : DataW.Trod enc PR W 0 sp true t v d p) (hf : Fits t d) :
  ∃ a : Arg, a.ty = t ∧ a.ok ∧ Rep W noW noMu v a.av := by
 rcases ht with rfl | rfl
 ·obtain ⟨a0, len, cap, rfl⟩ := okWide_slice Tryz.underlying22 hval
  obtain ⟨fuel, h0⟩ := h0
  rcases open_ints Tryz.underlying22 Tryz.underlying3 cellsInt h0 with ⟨hcs, hx⟩ | ⟨a, len', cap', zs, hcs, _, hl, hm, hz, hx, hcell, hwz⟩
  ·simp [Value.cells] at hcs
   obtain ⟨rfl, rfl, rfl⟩ := hcs
   exact ⟨.s [], rfl, ⟨by intro x hx; simp at hx, by simp⟩, .ro0 _ _ _ _ (by simp)⟩
  ·simp [Value.cells] at hcs
   obtain ⟨rfl, rfl, rfl⟩ := hcs
   have hlz : len ≤ zs.length := by rw [hz]; split <;> omega
   have hbig : len * 8 ≤ reachBytes := by
    simp only [Prod.mk.injEq] at hx
    have := hf _ _ _ hx.1 Tryz.underlying22
    rw [bytesInt] at this
    simp only [lits, List.length_map, List.length_take, List.length_drop] at this
    omega
   have hok : okI (zs.take len) := by
    intro x hx
    have := bounds_i64 (hwz x (List.mem_of_mem_take hx))
    exact ⟨by omega, by omega⟩
   have hlen : (zs.take len).length = len := by rw [List.length_take]; omega
   refine ⟨.s (zs.take len), rfl, ⟨hok, by rw [hlen]; unfold reachBytes at hbig; omega⟩, ?_⟩
   show Rep W noW noMu (.slice (some a) len cap) (.ro (ints (zs.take len)) (zs.take len).length false)
   rw [hlen]
   by_cases h0 : len = 0
   ·subst h0
    rw [List.take_zero]
    exact .ro0 _ _ _ _ (by simp)
   ·obtain ⟨B, o, spot⟩ := a
    have hspot : spot = none := by simpa [Addr.add] using World.cell?_spot (hcell 0 (by omega))
    subst hspot
    have hc : ∀ i, i < len → W.cell? ⟨B, o + i, none⟩ = some (.int .i64 (zs.getD i 0)) := fun i hi => by
     rw [← add_plain]; exact hcell i (by omega)
    have hB : B < W.heap.size := by
     have := hc 0 (by omega)
     unfold World.cell? at this
     simp only at this
     rcases Nat.lt_or_ge B W.heap.size with h | h
     ·exact h
     ·rw [Array.getElem?_eq_none h] at this; simp at this
    have hg : ∀ i x, (ints (zs.take len))[i]? = some x → i < len ∧ x = .int .i64 (zs.getD i 0) := by
     intro i x hx
     rw [ints_getD, hlen] at hx
     split at hx
     ·rename_i hi
      refine ⟨hi, ?_⟩
      injection hx with hx
      rw [← hx, List.getD_eq_getElem?_getD, List.getElem?_take, if_pos hi, List.getD_eq_getElem?_getD]
     ·simp at hx
    refine .ro _ B o len cap _ false (fun i => .int .i64 (zs.getD i 0)) hB (fun h => h) hl (by simp) (fun i x hx => hc i (hg i x hx).1) (fun i x hx => ?_) (fun i x hx => ?_)
    ·rw [(hg i x hx).2]; exact .int _ _ _
    ·rw [(hg i x hx).2]; rfl
 ·obtain ⟨n, rfl, rfl, _, hw⟩ := open_int Tryz.underlying3 hval h0
  have := bounds_i64 hw
  exact ⟨.i n, rfl, ⟨by omega, by omega⟩, .int _ _ _⟩
theorem open_args {H : Type} {enc : TypeId × Value → H} {W : World} {base : Nat} {sp : Nat → Bool} : ∀ (ts : List TypeId) (vs : List Value) (ds : List (DataW H)) (p : List MemPlace), (∀ t ∈ ts, t = 22 ∨ t = 3) →
  (∀ (j : Nat) t v, ts[j]? = some t → vs[j]? = some v → Value.okWide PR W .any base t v) → (∀ (j : Nat) t d, ts[j]? = some t → ds[j]? = some d → Fits t d) → DataW.TrodAll enc PR W 0 sp true ts vs ds p →
  ∃ bs : List Arg, bs.map Arg.ty = ts ∧ (∀ a ∈ bs, a.ok) ∧ vs.length = bs.length ∧ ∀ (i : Nat) v a, vs[i]? = some v → bs[i]? = some a → Rep W noW noMu v a.av
 | [], vs, ds, p, _, _, _, h => by
  obtain ⟨rfl, rfl, rfl⟩ := trodAll_nil h
  exact ⟨[], rfl, by simp, rfl, by simp⟩
 | t :: ts, vs, ds, p, ht, hv, hf, h => by
  obtain ⟨v, vs', d, ds', p1, q, rfl, rfl, rfl, hd, hrest⟩ := trodAll_cons h
  obtain ⟨a, a1, a2, a3⟩ := open_arg (ht t (by simp)) (hv 0 t v rfl rfl) hd (hf 0 t d rfl rfl)
  obtain ⟨bs, b1, b2, b3, b4⟩ := open_args ts vs' ds' q (fun t ht' => ht t (by simp [ht'])) (fun j t v h1 h2 => hv (j + 1) t v h1 h2) (fun j t d h1 h2 => hf (j + 1) t d h1 h2) hrest
  refine ⟨a :: bs, by simp [a1, b1], fun x hx => ?_, by simp [b3], fun i v' a' hv' ha' => ?_⟩
  ·simp only [List.mem_cons] at hx
   rcases hx with rfl | hx
   ·exact a2
   ·exact b2 x hx
  ·match i with
   | 0 => simp at hv' ha'; subst hv'; subst ha'; exact a3
   | i + 1 => exact b4 i v' a' (by simpa using hv') (by simpa using ha')
theorem trodAll_below {H : Type} {enc : TypeId × Value → H} {W W' : World} (hB : Below W.heap.size W W') : ∀ (ts : List TypeId) (vs : List Value) (ds : List (DataW H)) (p : List MemPlace), (∀ t ∈ ts, PR.readableRec t = true ∧ t < PR.types.size) → DataW.TrodAll enc PR W 0 (fun _ => true) true ts vs ds p → (∀ x ∈ p, x.block < W.heap.size) →
  DataW.TrodAll enc PR W' 0 (fun b => decide (b < W.heap.size)) true ts vs ds p
 | [], vs, ds, p, _, h, _ => by
  obtain ⟨rfl, rfl, rfl⟩ := trodAll_nil h
  rfl
 | t :: ts, vs, ds, p, hr, h, hlt => by
  obtain ⟨v, vs', d, ds', p1, q, rfl, rfl, rfl, hd, hrest⟩ := trodAll_cons h
  exact ⟨p1, q, Below.trod laidOut (hr t (by simp)).1 (hr t (by simp)).2 hd hB (fun x hx => hlt x (by simp [hx])), trodAll_below hB ts vs' ds' q (fun t ht => hr t (by simp [ht])) hrest (fun x hx => hlt x (by simp [hx])), rfl⟩
theorem own : ownKnob PR.godebug = none := by kernel_rfl
theorem starts {W : World} {vals : Array Value} {bs : List Arg} (hlen : vals.toList.length = bs.length) (hr : ∀ (i : Nat) v a, vals.toList[i]? = some v → bs[i]? = some a → Rep W noW noMu v a.av) : Starts (@X spc1) W vals (bs.map Arg.av) := by
 refine ⟨fun g cs hg => ?_, by simpa using hlen, fun i v a hv ha => ?_⟩
 ·have hg : (none : Option (List AV)) = some cs := hg
  cases hg
 ·rw [List.getElem?_map] at ha
  obtain ⟨b, hb, rfl⟩ := Option.map_eq_some_iff.1 ha
  exact hr i v b (by simpa using hv) hb
def Law (F : Nat) (ts : List TypeId) : Prop := ∀ bs : List Arg, bs.map Arg.ty = ts → (∀ a ∈ bs, a.ok) → @M (@X spc1) F (bs.map Arg.av) = some (.bool true)
theorem contract_law {H : Type} {enc : TypeId × Value → H} {s : ChangeSpec} {F : Nat} {fn : Func} {ts : List TypeId} {conds : List PathCond} (hp : fn.params.toList = ts) (hts : ∀ t ∈ ts, t = 22 ∨ t = 3) (hrt : fn.resultTypes = #[4]) (hv : s.vars = [])
  (hs : ∀ ds : List (DataW H), ds.length = ts.length → s.fn H ds = { results := [.lit (.bool true)], args := ds }) (hM : Law F ts) (hns : (@X spc1).mode F = .ro)
  (W : World) (base : Nat) (args : Array Value) (ds gs : List (DataW H)) (before : List MemPlace)
  (hval : ∀ (j : Nat) t v, fn.params[j]? = some t → args[j]? = some v → Value.okWide PR W .any base t v)
  (hW : DataW.Whole enc PR fn.params.toList s.vars false W args.toList ds gs before)
  (_ : conds.all (PathCond.test PR ⟨fn.params.toList, ds, s.plain.varTypes PR, gs⟩) = true)
  (hsz : (DataW.weightsEach PR (fn.params.toList ++ s.plain.varTypes PR) (ds ++ gs)).all (· ≤ reachBytes) = true) {Q : Prop} (_ : Q) :
  Calls PR F args W fun e W' => ∃ v, e = .returned v ∧ s.post enc PR fn false true false false W args v W' := by
 have hW' := hW
 obtain ⟨p, q, hA, hV, rfl, hfz, hnd⟩ := hW
 rw [hp] at hA hsz
 have hV0 : gs = [] ∧ q = [] := by
  rw [hv] at hV
  cases gs with
  | nil => exact ⟨rfl, hV⟩
  | cons g gs => exact hV.elim
 obtain ⟨rfl, rfl⟩ := hV0
 have hdl : ds.length = ts.length := by
  clear hsz hW' hval hfz hnd
  revert hA
  generalize args.toList = vs
  have : ∀ (ts : List TypeId) (vs : List Value) (ds : List (DataW H)) (p : List MemPlace), DataW.TrodAll enc PR W 0 (fun _ => true) true ts vs ds p → ds.length = ts.length := by
   intro ts
   induction ts with
   | nil => intro vs ds p h; obtain ⟨rfl, rfl, rfl⟩ := trodAll_nil h; rfl
   | cons t ts ih =>
    intro vs ds p h
    obtain ⟨v, vs', d, ds', p1, q, rfl, rfl, rfl, hd, hrest⟩ := trodAll_cons h
    simp [ih _ _ _ hrest]
  exact this ts vs ds p
 have hfn := hs ds hdl
 obtain ⟨bs, b1, b2, b3, b4⟩ := open_args ts args.toList ds p hts (fun j t v h1 h2 => hval j t v (by rw [← hp] at h1; simpa using h1) (by simpa using h2)) (fun j t d h1 h2 elems spare e hd hu => by
   subst hd
   refine sized_slice hsz (j := j) (t := t) (e := e) ?_ ?_ hu
   ·rw [List.getElem?_append_left (List.getElem?_eq_some_iff.1 h1).1]; exact h1
   ·rw [List.getElem?_append_left (List.getElem?_eq_some_iff.1 h2).1]; exact h2) hA
 refine (sound (@mixed spc1) sp1 (by rw [hns]; rfl) (hM bs b1 b2) rfl (starts b3 b4)).mono ?_
 rintro e W1 ⟨u, rfl, hu, hB⟩
 obtain rfl : u = .bool true := by cases hu; rfl
 have hlt : ∀ x ∈ p, x.block < W.heap.size := fun x hx => by simpa using hW'.lt x (List.mem_append_left _ hx)
 refine ⟨_, rfl, ds, [], p ++ [], [], p, [], hW', ?_, ?_, ?_, hB.frame _, fun h => by cases h⟩
 ·rw [List.append_nil, hfn, hrt]; exact trodAll_mk1 (shut_bool Tryz.underlying4 _)
 ·rw [List.append_nil, hfn, hp]
  exact trodAll_below hB ts _ _ _ (fun t ht => by rcases hts t ht with rfl | rfl <;> exact ⟨by kernel_rfl, of_decide_eq_true (by kernel_rfl)⟩) hA hlt
 ·rw [List.append_nil, hfn, hv]; rfl
end Go.Proofs.YtenhjccadhlgoaaGreat.Abs
end
namespace Go.Proofs.YtenhjccadhlgoaaGreat.Abs
open Go
def SameSides (m : MdlR) : Prop := ∀ p ∈ m.parts, ∀ q ∈ m.parts, sidesV p.shape q.shape = sidesR p.shape q.shape
theorem M_pairs [SpC] {args : List AV} {r : AV} (h : SpC.spec 18 args = some r) : M X 18 args = some r := by
 unfold M pureCall; rw [mode_18]; exact h
theorem ppair_facts [SpC] {m : MdlR} {s : StaR} {N : Nat} (hg : GoodM m N) (hs : GoodS m s N) (hN : N < 2 ^ 10) (hss : SameSides m) {x : Pt} (hx : x ∈ pairsV m s.here) :
  ∃ (sa sb : List Pt) (pa pb : Rat × Rat) (rx ry : Rat) (es : List Ed), (0 ≤ x.1 ∧ x.1 < m.parts.length) ∧ (0 ≤ x.2 ∧ x.2 < m.parts.length) ∧
   (∃ qa, m.parts[x.1.toNat]? = some qa ∧ qa.shape = sa) ∧ (∃ qb, m.parts[x.2.toNat]? = some qb ∧ qb.shape = sb) ∧
   M X 22 [.agg (mdlA m), .ro (cat ratA s.q) s.q.length false, .int .i64 x.1] = some (.agg [zS (Rat.num (pa.1)), zD (Rat.num (pa.1)), zS (dz (pa.1)), zD (dz (pa.1)), zS (Rat.num (pa.2)), zD (Rat.num (pa.2)), zS (dz (pa.2)), zD (dz (pa.2))]) ∧ M X 22 [.agg (mdlA m), .ro (cat ratA s.q) s.q.length false, .int .i64 x.2] = some (.agg [zS (Rat.num (pb.1)), zD (Rat.num (pb.1)), zS (dz (pb.1)), zD (dz (pb.1)), zS (Rat.num (pb.2)), zD (Rat.num (pb.2)), zS (dz (pb.2)), zD (dz (pb.2))]) ∧
   M X 72 [.agg [zS (Rat.num (pb.1)), zD (Rat.num (pb.1)), zS (dz (pb.1)), zD (dz (pb.1)), zS (Rat.num (pb.2)), zD (Rat.num (pb.2)), zS (dz (pb.2)), zD (dz (pb.2))], .agg [zS (Rat.num (pa.1)), zD (Rat.num (pa.1)), zS (dz (pa.1)), zD (dz (pa.1)), zS (Rat.num (pa.2)), zD (Rat.num (pa.2)), zS (dz (pa.2)), zD (dz (pa.2))]] = some (.agg [zS (Rat.num (rx)), zD (Rat.num (rx)), zS (dz (rx)), zD (dz (rx)), zS (Rat.num (ry)), zD (Rat.num (ry)), zS (dz (ry)), zD (dz (ry))]) ∧
   M X 71 [.ro (ptC sa) sa.length false, .ro (ptC sb) sb.length false] = some (.ro (edC es) es.length false) ∧
   M X 70 [.ro (edC es) es.length false, .agg [zS (Rat.num (rx)), zD (Rat.num (rx)), zS (dz (rx)), zD (dz (rx)), zS (Rat.num (ry)), zD (Rat.num (ry)), zS (dz (ry)), zD (dz (ry))]] = some (.bool (meetV m s x)) := by
 obtain ⟨h1, h2, h3⟩ := pairsV_mem hx
 have ga := getD_some (l := m.parts) (i := x.1.toNat) (by omega) part0
 have gb := getD_some (l := m.parts) (i := x.2.toNat) (by omega) part0
 have oa := hg.part _ (List.mem_of_getElem? ga)
 have ob := hg.part _ (List.mem_of_getElem? gb)
 obtain ⟨r1, r2⟩ := posV_rs hg hs hN (i := x.1) ⟨by omega, by omega⟩
 obtain ⟨r3, r4⟩ := posV_rs hg hs hN (i := x.2) ⟨by omega, by omega⟩
 have l1 := oa.sl
 have l2 := ob.sl
 have cs := M_71 _ _ oa.pts ob.pts oa.s0 ob.s0 (by omega) (by omega)
 rw [hss _ (List.mem_of_getElem? ga) _ (List.mem_of_getElem? gb)] at cs
 refine ⟨_, _, posV m s.q x.1, posV m s.q x.2, (posV m s.q x.2).1 - (posV m s.q x.1).1, (posV m s.q x.2).2 - (posV m s.q x.1).2, sidesR (shapeAt m x.1) (shapeAt m x.2), ⟨by omega, by omega⟩, ⟨by omega, by omega⟩, ⟨_, ga, rfl⟩, ⟨_, gb, rfl⟩,
  at_posm hg hs hN ⟨by omega, by omega⟩, at_posm hg hs hN ⟨by omega, by omega⟩, M_72 (by omega),
  cs, ?_⟩
 have hl := sidesR_len (shapeAt m x.1) (shapeAt m x.2)
 exact M_70 _ (by unfold shapeAt at hl; omega) (sidesR_okE oa.pts ob.pts) (by omega)
theorem M_17 [SpC] (m : MdlR) (s : StaR) (N : Nat) (hg : GoodM m N) (hs : GoodS m s N) (hN : N < 2 ^ 10) (ht : 0 ≤ s.tick ∧ s.tick ≤ 1048576) (hss : SameSides m) (hpv : SpC.spec 18 [.agg (mdlA m), .agg (staA s)] = some (pairsA m s)) :
  M X 17 [.agg (mdlA m), .agg (staA s)] = some (.int .i64 (fitV m s)) := by
 refine M_of X (fn := Tryz.f17) Tryz.func17 rfl ok_17 mode_17 res_17 _ rfl _ ?_
 intro r hr
 have h1 := hg.dl
 have h2 := hg.pl
 have h3 := hg.rl
 have h4 := hg.sl
 have hql := hs.ql
 have hvl := hs.vl
 have hhl := hs.hl
 have cq := cat_length (f := ratA) s.q
 have cv := cat_length (f := ratA) s.v
 have ch := cat_length (f := boolA) s.here
 have cd := cat_length (f := dofA) m.dofs
 have cp := cat_length (f := partA) m.parts
 have cr := cat_length (f := ropeA) m.ropes
 have nq := canonical_q s.q N (by omega) hs.q (by omega)
 have nv := canonical_q s.v N (by omega) hs.v (by omega)
 have pv : M X 18 [.agg (mdlA m), .agg (staA s)] = some (.ro (ptC (pairsV m s.here)) (pairsV m s.here).length false) := M_pairs hpv
 have ll := liveV_len m s.here
 have lv := M_16 m s.here s.tick (.ro (cat ratA s.q) s.q.length false) (.ro (cat ratA s.v) s.v.length false) false hg.live hhl
 rw [mdlA_eq] at lv
 have cl := cat_length (f := boolA) (liveV m s.here)
 have pm : ∀ x ∈ pairsV m s.here, x ∈ pairsV m s.here := fun _ h => h
 have cpr := ptC_length (pairsV m s.here)
 have plen : (pairsV m s.here).length < 2 ^ 20 := by
  have := pairsK_len m s.here m.parts.length
  have := Nat.mul_le_mul (show m.parts.length ≤ 1023 by omega) (show m.parts.length ≤ 1023 by omega)
  unfold pairsV; omega
 rw [mdlA_eq, staA_eq] at pv
 unfold fitV at hr
 simp (maxSteps := 4000000) (disch := first | omega | (simp only [LL]; omega)) only [go_sem, mdlA_eq, staA_eq, cq, cv, ch, cd, cp, weaks_cat, weaks_ptC, mode_54, mode_16, nq, nv, lv]
 obtain ⟨L, hL⟩ : ∃ L, L = 416 := ⟨_, rfl⟩
 refine W_loop X (fun (k : Nat) t => k ≤ m.dofs.length ∧ (List.range k).any (velBad m s) = false ∧ t.env 2 = .ptr 0 0 ∧ t.env 3 = .ptr 8 0 ∧ t.env 6 = .sl L 0 m.dofs.length none 1 ∧ L < t.next ∧ t.heap L = some (.cells (cat boolA (liveV m s.here)) true false) ∧ t.env 67 = .ro (cat ratA s.v) s.v.length false ∧ t.env 68 = .int .i64 m.dofs.length ∧ t.env 69 = .int .i64 k ∧ 16 ≤ t.next ∧ t.heap 0 = some (.cells (mdlA m) false false) ∧ t.heap 8 = some (.cells (staA s) false false)) (fun k => m.dofs.length - k) ?_ 0 _ ?_
 ·rintro k ⟨env, heap, nx⟩ ⟨hk, hb, g2, g3, gS, gL, eL, g67, g68, g69, hnx, e0, e8⟩
  simp only at g2 g3 gS gL eL g67 g68 g69 hnx e0 e8
  rw [mdlA_eq] at e0
  rw [staA_eq] at e8
  by_cases hlt : k < m.dofs.length
  ·have hld := cat_drop (f := boolA) (getD_some (l := liveV m s.here) (i := k) (by omega) false)
   rw [boolA_eq] at hld
   simp only [Nat.mul_one] at hld
   have hvk := getD_some (l := s.v) (i := k) (by omega) 0
   have hvd := cat_take (f := ratA) hvk
   rw [ratA_eq] at hvd
   have rv := getD_rs hs.v k (by omega)
   have sg := M_69 (x := s.v.getD k 0)
   have hP : velBad m s k = (!(liveV m s.here).getD k false && !decide (cmpQ (s.v.getD k 0) 0 = 0)) := rfl
   have hsucc := anyR_succ (velBad m s) k
   cases hB : velBad m s k with
   | true =>
    have hany := anyR_hit hlt hB
    rw [if_pos hany] at hr
    rw [hB] at hP
    generalize (liveV m s.here).getD k false = b at *
    generalize s.v.getD k 0 = x at *
    generalize cmpQ x 0 = c at *
    cases b with
    | true => simp at hP
    | false =>
     have hc : c ≠ 0 := by intro h; rw [h] at hP; simp at hP
     simp (maxSteps := 4000000) (disch := first | omega | (simp only [LL]; omega)) only [go_sem, g2, g3, gS, eL, g67, g68, g69, e0, e8, ch, cv, cl, ll, hld, hvd, sg]
     rw [hr]
   | false =>
    rw [hb, hB] at hsucc
    rw [hB] at hP
    generalize (liveV m s.here).getD k false = b at *
    generalize s.v.getD k 0 = x at *
    generalize cmpQ x 0 = c at *
    cases b with
    | true =>
     simp (maxSteps := 4000000) (disch := first | omega | (simp only [LL]; omega)) only [go_sem, g2, g3, gS, eL, g67, g68, g69, e0, e8, ch, cv, cl, ll, hld, hvd, sg]
     refine ⟨k + 1, ?_, by omega⟩
     repeat' apply And.intro
     all_goals first | omega | rfl | exact gL | exact eL | exact hsucc | (rw [mdlA_eq]; done) | (rw [staA_eq]; done)
    | false =>
     have hc : c = 0 := by
      apply Classical.byContradiction; intro h
      rw [decide_eq_false h] at hP; simp at hP
     simp (maxSteps := 4000000) (disch := first | omega | (simp only [LL]; omega)) only [go_sem, g2, g3, gS, eL, g67, g68, g69, e0, e8, ch, cv, cl, ll, hld, hvd, sg]
     refine ⟨k + 1, ?_, by omega⟩
     repeat' apply And.intro
     all_goals first | omega | rfl | exact gL | exact eL | exact hsucc | (rw [mdlA_eq]; done) | (rw [staA_eq]; done)
  ·obtain rfl : k = m.dofs.length := by omega
   rw [if_neg (by rw [hb]; decide)] at hr
   simp (maxSteps := 4000000) (disch := first | omega | (simp only [LL]; omega)) only [go_sem, g2, g3, gS, eL, g67, g68, g69, e0, e8, ch, weaks_cat, weaks_ptC, mode_18, pv]
   refine W_loop X (fun (k : Nat) t => k ≤ (pairsV m s.here).length ∧ ((pairsV m s.here).take k).any (meetV m s) = false ∧ t.env 2 = .ptr 0 0 ∧ t.env 3 = .ptr 8 0 ∧ t.env 6 = .sl L 0 m.dofs.length none 1 ∧ L < t.next ∧ t.heap L = some (.cells (cat boolA (liveV m s.here)) true false) ∧ t.env 87 = .ro (ptC (pairsV m s.here)) (pairsV m s.here).length false ∧ t.env 88 = .int .i64 (pairsV m s.here).length ∧ t.env 89 = .int .i64 k ∧ 16 ≤ t.next ∧ t.heap 0 = some (.cells (mdlA m) false false) ∧ t.heap 8 = some (.cells (staA s) false false)) (fun k => (pairsV m s.here).length - k) ?_ 0 _ ?_
   ·clear hb g2 g3 gS gL eL g67 g68 g69 hnx e0 e8 hk
    rintro k ⟨env, heap, nx⟩ ⟨hk, hb, g2, g3, gS, gL, eL, g87, g88, g89, hnx, e0, e8⟩
    simp only at g2 g3 gS gL eL g87 g88 g89 hnx e0 e8
    rw [mdlA_eq] at e0
    rw [staA_eq] at e8
    by_cases hlt : k < (pairsV m s.here).length
    ·have hgx := getD_some (l := pairsV m s.here) (i := k) hlt (0, 0)
     have hxd := ptC_take (pairsV m s.here) k hlt
     obtain ⟨sa, sb, pa, pb, rx, ry, es, ⟨x1, x2⟩, ⟨x3, x4⟩, ⟨qa, ga, esa⟩, ⟨qb, gb, esb⟩, w1, w2, w3, w4, w5⟩ := ppair_facts hg hs hN hss (List.mem_of_getElem? hgx)
     have hsucc := any_take_succ (meetV m s) hgx
     have hhit := fun h => any_hit (f := meetV m s) hgx h
     have hda := cat_drop (f := partA) ga
     have hdb := cat_drop (f := partA) gb
     rw [partA_eq, esa] at hda
     rw [partA_eq, esb] at hdb
     have esl := edC_length es
     have psa := ptC_length sa
     have psb := ptC_length sb
     rw [mdlA_eq] at w1 w2
     generalize (pairsV m s.here).getD k (0, 0) = x at *
     cases hB : meetV m s x with
     | true =>
      rw [if_pos (hhit hB)] at hr
      rw [hB] at w5
      clear hhit
      simp (maxSteps := 4000000) (disch := first | omega | (simp only [LL]; omega)) only [go_sem, g2, g3, gS, eL, g87, g88, g89, e0, e8, cp, cpr, hxd, hda, hdb, weaks_cat, weaks_ptC, weaks_edC, w1, w2, w3, w4, w5]
      rw [hr]
     | false =>
      rw [hb, hB] at hsucc
      rw [hB] at w5
      clear hhit
      simp (maxSteps := 4000000) (disch := first | omega | (simp only [LL]; omega)) only [go_sem, g2, g3, gS, eL, g87, g88, g89, e0, e8, cp, cpr, hxd, hda, hdb, weaks_cat, weaks_ptC, weaks_edC, w1, w2, w3, w4, w5]
      refine ⟨k + 1, ?_, by omega⟩
      repeat' apply And.intro
      all_goals first | omega | rfl | exact gL | exact eL | exact hsucc | (rw [mdlA_eq]; done) | (rw [staA_eq]; done) | (rw [mdlA_eq, e0]; done) | (rw [staA_eq, e8]; done)
    ·obtain rfl : k = (pairsV m s.here).length := by omega
     rw [List.take_length] at hb
     rw [if_neg (by rw [hb]; decide)] at hr
     clear cpr plen pv pm
     simp (maxSteps := 4000000) (disch := first | omega | (simp only [LL]; omega)) only [go_sem, g2, g3, gS, eL, g87, g88, g89, e0, e8]
     refine W_loop X (fun (k : Nat) t => k ≤ m.dofs.length ∧ (List.range k).any (dofBad m s) = false ∧ t.env 2 = .ptr 0 0 ∧ t.env 3 = .ptr 8 0 ∧ t.env 6 = .sl L 0 m.dofs.length none 1 ∧ L < t.next ∧ t.heap L = some (.cells (cat boolA (liveV m s.here)) true false) ∧ t.env 124 = .ro (cat dofA m.dofs) m.dofs.length false ∧ t.env 125 = .int .i64 m.dofs.length ∧ t.env 126 = .int .i64 k ∧ 16 ≤ t.next ∧ t.heap 0 = some (.cells (mdlA m) false false) ∧ t.heap 8 = some (.cells (staA s) false false)) (fun k => m.dofs.length - k) ?_ 0 _ ?_
     ·clear hb g2 g3 gS gL eL g87 g88 g89 hnx e0 e8 hk
      rintro k ⟨env, heap, nx⟩ ⟨hk, hb, g2, g3, gS, gL, eL, g124, g125, g126, hnx, e0, e8⟩
      simp only at g2 g3 gS gL eL g124 g125 g126 hnx e0 e8
      rw [mdlA_eq] at e0
      rw [staA_eq] at e8
      by_cases hlt : k < m.dofs.length
      ·have hld := cat_drop (f := boolA) (getD_some (l := liveV m s.here) (i := k) (by omega) false)
       rw [boolA_eq] at hld
       simp only [Nat.mul_one] at hld
       have hqd := cat_take (f := ratA) (getD_some (l := s.q) (i := k) (by omega) 0)
       rw [ratA_eq] at hqd
       have hgd := getD_some (l := m.dofs) (i := k) hlt dof0
       have hdd := cat_take (f := dofA) hgd
       rw [dofA_eq] at hdd
       have rq := getD_rs hs.q k (by omega)
       obtain ⟨rl, rh⟩ := hg.dof _ (List.mem_of_getElem? hgd)
       have c1 := M_73 (x := s.q.getD k 0) (y := (m.dofs.getD k dof0).lo) (by omega)
       have c2 := M_73 (x := s.q.getD k 0) (y := (m.dofs.getD k dof0).hi) (by omega)
       have hP : dofBad m s k = (((liveV m s.here).getD k false && (m.dofs.getD k dof0).bd) && (decide (cmpQ (s.q.getD k 0) (m.dofs.getD k dof0).lo < 0) || decide (0 < cmpQ (s.q.getD k 0) (m.dofs.getD k dof0).hi))) := rfl
       have hsucc := anyR_succ (dofBad m s) k
       have hhit := fun h => anyR_hit (P := dofBad m s) hlt h
       generalize (liveV m s.here).getD k false = b at *
       generalize s.q.getD k 0 = x at *
       generalize m.dofs.getD k dof0 = d at *
       generalize cmpQ x d.lo = u at *
       generalize cmpQ x d.hi = v at *
       cases hB : dofBad m s k with
       | true =>
        rw [if_pos (hhit hB)] at hr
        rw [hB] at hP
        clear hhit hsucc
        have hP' := hP.symm
        simp only [Bool.and_eq_true, Bool.or_eq_true, decide_eq_true_eq] at hP'
        obtain ⟨⟨rfl, hbd⟩, huv⟩ := hP'
        by_cases hu : u < 0
        ·simp (maxSteps := 4000000) (disch := first | omega | (simp only [LL]; omega)) only [go_sem, g2, g3, gS, eL, g124, g125, g126, e0, e8, cd, cq, cl, ll, hld, hqd, hdd, hbd, c1, c2]
         rw [hr]
        ·have hv : 0 < v := by omega
         simp (maxSteps := 4000000) (disch := first | omega | (simp only [LL]; omega)) only [go_sem, g2, g3, gS, eL, g124, g125, g126, e0, e8, cd, cq, cl, ll, hld, hqd, hdd, hbd, c1, c2]
         rw [hr]
       | false =>
        rw [hb, hB] at hsucc
        rw [hB] at hP
        clear hhit
        cases b with
        | false =>
         simp (maxSteps := 4000000) (disch := first | omega | (simp only [LL]; omega)) only [go_sem, g2, g3, gS, eL, g124, g125, g126, e0, e8, cd, cq, cl, ll, hld, hqd, hdd, c1, c2]
         refine ⟨k + 1, ?_, by omega⟩
         repeat' apply And.intro
         all_goals first | omega | rfl | exact gL | exact eL | exact hsucc | (rw [mdlA_eq]; done) | (rw [staA_eq]; done) | (rw [mdlA_eq, e0]; done) | (rw [staA_eq, e8]; done)
        | true =>
         cases hbd : d.bd with
         | false =>
          simp (maxSteps := 4000000) (disch := first | omega | (simp only [LL]; omega)) only [go_sem, g2, g3, gS, eL, g124, g125, g126, e0, e8, cd, cq, cl, ll, hld, hqd, hdd, hbd, c1, c2]
          refine ⟨k + 1, ?_, by omega⟩
          repeat' apply And.intro
          all_goals first | omega | rfl | exact gL | exact eL | exact hsucc | (rw [mdlA_eq]; done) | (rw [staA_eq]; done) | (rw [mdlA_eq, e0]; done) | (rw [staA_eq, e8]; done)
         | true =>
          rw [hbd] at hP
          have hP' := hP.symm
          simp only [Bool.and_self, Bool.true_and, Bool.or_eq_false_iff, decide_eq_false_iff_not] at hP'
          obtain ⟨hu, hv⟩ := hP'
          simp (maxSteps := 4000000) (disch := first | omega | (simp only [LL]; omega)) only [go_sem, g2, g3, gS, eL, g124, g125, g126, e0, e8, cd, cq, cl, ll, hld, hqd, hdd, hbd, c1, c2]
          refine ⟨k + 1, ?_, by omega⟩
          repeat' apply And.intro
          all_goals first | omega | rfl | exact gL | exact eL | exact hsucc | (rw [mdlA_eq]; done) | (rw [staA_eq]; done) | (rw [mdlA_eq, e0]; done) | (rw [staA_eq, e8]; done)
      ·obtain rfl : k = m.dofs.length := by omega
       rw [if_neg (by rw [hb]; decide)] at hr
       simp (maxSteps := 4000000) (disch := first | omega | (simp only [LL]; omega)) only [go_sem, g2, g3, gS, eL, g124, g125, g126, e0, e8]
       refine W_loop X (fun (k : Nat) t => k ≤ m.ropes.length ∧ (m.ropes.take k).any (ropeBad m s) = false ∧ t.env 2 = .ptr 0 0 ∧ t.env 3 = .ptr 8 0 ∧ t.env 163 = .ro (cat ropeA m.ropes) m.ropes.length false ∧ t.env 164 = .int .i64 m.ropes.length ∧ t.env 165 = .int .i64 k ∧ 16 ≤ t.next ∧ t.heap 0 = some (.cells (mdlA m) false false) ∧ t.heap 8 = some (.cells (staA s) false false)) (fun k => m.ropes.length - k) ?_ 0 _ ?_
       ·clear hb g2 g3 gS gL eL g124 g125 g126 hnx e0 e8 hk
        rintro k ⟨env, heap, nx⟩ ⟨hk, hb, g2, g3, g163, g164, g165, hnx, e0, e8⟩
        simp only at g2 g3 g163 g164 g165 hnx e0 e8
        rw [mdlA_eq] at e0
        rw [staA_eq] at e8
        by_cases hlt : k < m.ropes.length
        ·have hgr := List.getElem?_eq_getElem hlt
         have hrd := cat_take (f := ropeA) hgr
         have hor := hg.rope _ (List.mem_of_getElem? hgr)
         have w1 := M_74 m s m.ropes[k] N hg hs hN hor
         have hsucc := any_take_succ (ropeBad m s) hgr
         have hhit := fun h => any_hit (f := ropeBad m s) hgr h
         generalize m.ropes[k] = q at *
         rw [mdlA_eq, staA_eq, ropeA_eq] at w1
         rw [ropeA_eq] at hrd
         have cdr := cat_length (f := dirA) q.dirs
         cases hB : ropeBad m s q with
         | true =>
          rw [if_pos (hhit hB)] at hr
          rw [hB] at w1
          clear hhit hsucc
          simp (maxSteps := 4000000) (disch := first | omega | (simp only [LL]; omega)) only [go_sem, g2, g3, g163, g164, g165, e0, e8, cr, hrd, weaks_cat, weaks_ptC, w1]
          rw [hr]
         | false =>
          rw [hb, hB] at hsucc
          rw [hB] at w1
          clear hhit
          simp (maxSteps := 4000000) (disch := first | omega | (simp only [LL]; omega)) only [go_sem, g2, g3, g163, g164, g165, e0, e8, cr, hrd, weaks_cat, weaks_ptC, w1]
          refine ⟨k + 1, ?_, by omega⟩
          repeat' apply And.intro
          all_goals first | omega | rfl | exact hsucc | (rw [mdlA_eq]; done) | (rw [staA_eq]; done) | (rw [mdlA_eq, e0]; done) | (rw [staA_eq, e8]; done) | trace_state
        ·obtain rfl : k = m.ropes.length := by omega
         rw [List.take_length] at hb
         rw [if_neg (by rw [hb]; decide)] at hr
         simp (maxSteps := 4000000) (disch := first | omega | (simp only [LL]; omega)) only [go_sem, g2, g3, g163, g164, g165, e0, e8, cr]
         rw [hr]
       ·simp (maxSteps := 4000000) (disch := first | omega | (simp only [LL]; omega)) only [go_sem, g2, g3]
        repeat' apply And.intro
        all_goals first | omega | rfl | exact gL | exact eL | exact hsucc | (rw [mdlA_eq]; done) | (rw [staA_eq]; done) | (rw [mdlA_eq, e0]; done) | (rw [staA_eq, e8]; done) | trace_state
     ·simp (maxSteps := 4000000) (disch := first | omega | (simp only [LL]; omega)) only [go_sem, g2, g3, gS, eL]
      repeat' apply And.intro
      all_goals first | omega | rfl | exact gL | exact eL | exact hsucc | (rw [mdlA_eq]; done) | (rw [staA_eq]; done) | (rw [mdlA_eq, e0]; done) | (rw [staA_eq, e8]; done) | trace_state
   ·simp (maxSteps := 4000000) (disch := first | omega | (simp only [LL]; omega)) only [go_sem, g2, g3, gS, eL]
    repeat' apply And.intro
    all_goals first | omega | rfl | exact gL | exact eL | exact hsucc | (rw [mdlA_eq]; done) | (rw [staA_eq]; done) | (rw [mdlA_eq, e0]; done) | (rw [staA_eq, e8]; done) | trace_state
 ·subst hL
  simp (maxSteps := 4000000) (disch := first | omega | (simp only [LL]; omega)) only [go_sem]
  repeat' apply And.intro
  all_goals first | omega | rfl | (rw [mdlA_eq]; done) | (rw [staA_eq]; done) | (rw [hvl]; done) | trace_state
def vldB (l : List Pt) : Bool := decide (3 ≤ l.length) && decide (l.length ≤ 8) && l.all (fun p => decide (-1048576 ≤ p.1) && decide (p.1 ≤ 1048576) && decide (-1048576 ≤ p.2) && decide (p.2 ≤ 1048576)) &&
 (List.range l.length).all (fun i => normOk ((ptA l ((i + 1) % l.length)).1 - (ptA l i).1) ((ptA l ((i + 1) % l.length)).2 - (ptA l i).2) &&
  (List.range l.length).all fun k => decide (k = i) || decide (k = (i + 1) % l.length) || decide (0 < crossP (ptA l i) (ptA l ((i + 1) % l.length)) (ptA l k)))
theorem vldP_of {l : List Pt} (h : vldB l = true) : vldP l := by
 unfold vldB at h
 simp only [Bool.and_eq_true, decide_eq_true_eq, List.all_eq_true, List.mem_range, Bool.or_eq_true] at h
 obtain ⟨⟨⟨h1, h2⟩, h3⟩, h4⟩ := h
 refine ⟨⟨h1, h2⟩, fun p hp => ?_, fun i hi => (h4 i hi).1, fun i hi k hk n1 n2 => ?_⟩
 ·obtain ⟨⟨⟨a, b⟩, c⟩, d⟩ := h3 p hp
  exact ⟨⟨a, b⟩, c, d⟩
 ·rcases (h4 i hi).2 k hk with (h5 | h5) | h5
  ·exact absurd h5 n1
  ·exact absurd h5 n2
  ·exact h5
def gndP0 : List Pt := [(-5, -2), (5, -2), (5, 0), (-5, 0)]
def shpM : List (List Pt) := [groundP, gndP0, shp 0, shp 1, shp 2, shp 3, shp 4, shp 5]
theorem vld_shpM : shpM.all vldB = true := by kernel_rfl
theorem sides_shpM : (shpM.all fun a => shpM.all fun b => decide (sidesV a b = sidesR a b)) = true := by kernel_rfl
theorem shpM_vld {l : List Pt} (h : l ∈ shpM) : vldP l := vldP_of (List.all_eq_true.1 vld_shpM l h)
theorem shpM_sides {a b : List Pt} (ha : a ∈ shpM) (hb : b ∈ shpM) : sidesV a b = sidesR a b := by
 have h := List.all_eq_true.1 (List.all_eq_true.1 sides_shpM a ha) b hb
 exact of_decide_eq_true h
theorem sameSides_of {m : MdlR} (h : ∀ p ∈ m.parts, p.shape ∈ shpM) : SameSides m := fun p hp q hq => shpM_sides (h p hp) (h q hq)
theorem okPart_of {n N : Nat} {p : PartR} (hs : p.shape ∈ shpM) (hc : okCols n N p.cols) (h1 : RS p.hx N) (h2 : RS p.hy N) : OkPart n N p := by
 obtain ⟨⟨a, b⟩, c, _⟩ := shpM_vld hs
 exact ⟨hc, h1, h2, by omega, by omega, c⟩
theorem shp_mem {k : Int} (h : 0 ≤ k ∧ k < 6) : shp k ∈ shpM := by
 have : k = 0 ∨ k = 1 ∨ k = 2 ∨ k = 3 ∨ k = 4 ∨ k = 5 := by omega
 unfold shpM
 rcases this with rfl | rfl | rfl | rfl | rfl | rfl <;> simp
def gnd0 : PartR := ⟨[(-5, -2), (5, -2), (5, 0), (-5, 0)], 0, 0, [], 0, 0⟩
def sqr0 : PartR := ⟨[(0, 0), (2, 0), (2, 2), (0, 2)], 0, 0, [⟨0, Rat.divInt 1 1, 0, 0⟩, ⟨1, 0, Rat.divInt 1 1, 0⟩], 0, 0⟩
def m0 : MdlR := ⟨[⟨Rat.divInt 1 2, ofQ 0, false, 0, 0⟩, ⟨Rat.divInt 1 2, ofQ 0, false, 0, 0⟩], [gnd0, sqr0], [], []⟩
def s0 : StaR := startV m0
def t0 : StaR := { s0 with q := [0, Rat.divInt (-1) 2] }
theorem fit_s0 : fitV m0 s0 = 0 := by kernel_rfl
theorem fit_t0 : fitV m0 t0 = 14 := by kernel_rfl
theorem pairs_s0 : pairsV m0 s0.here = [(0, 1)] := by kernel_rfl
theorem live_u0 : liveV m0 [true, false] = [false, false] := by kernel_rfl
theorem at_m0 : atV [Rat.divInt 3 1, Rat.divInt 4 1] sqr0 = (Rat.divInt 3 1, Rat.divInt 4 1) := by kernel_rfl
theorem parts_m0 {P : PartR → Prop} (h1 : P gnd0) (h2 : P sqr0) : ∀ p ∈ m0.parts, P p := by
 intro p hp
 simp only [m0, List.mem_cons, List.not_mem_nil, or_false] at hp
 rcases hp with rfl | rfl
 ·exact h1
 ·exact h2
theorem shp_m0 : ∀ p ∈ m0.parts, p.shape ∈ shpM := parts_m0 (by decide) (by decide)
theorem sides_m0 : SameSides m0 := sameSides_of shp_m0
theorem good_m0 : GoodM m0 1 where
 dl := by decide
 pl := by decide
 rl := by decide
 sl := by decide
 part := parts_m0 (okPart_of (by decide) ⟨by decide, by intro c hc; cases hc⟩ rs_zero rs_zero) (okPart_of (by decide) ⟨by decide, by
  intro c hc
  simp only [sqr0, List.mem_cons, List.not_mem_nil, or_false] at hc
  rcases hc with rfl | rfl
  ·exact ⟨⟨by decide, by decide⟩, rs_small (p := 1) (q := 1) (by decide) (by decide), rs_zero, rs_zero⟩
  ·exact ⟨⟨by decide, by decide⟩, rs_zero, rs_small (p := 1) (q := 1) (by decide) (by decide), rs_zero⟩⟩ rs_zero rs_zero)
 dof := by
  intro d hd
  simp only [m0, List.mem_cons, List.not_mem_nil, or_false] at hd
  rcases hd with rfl | rfl <;> exact ⟨rs_zero, rs_zero⟩
 rope := by intro r hr; cases hr
theorem good_s0 : GoodS m0 s0 1 where
 tick := ⟨by decide, by decide⟩
 ql := rfl
 vl := rfl
 hl := rfl
 q := fun x hx => by rw [List.eq_of_mem_replicate hx]; exact rs_zero
 v := fun x hx => by rw [List.eq_of_mem_replicate hx]; exact rs_zero
theorem good_t0 : GoodS m0 t0 1 where
 tick := ⟨by decide, by decide⟩
 ql := rfl
 vl := rfl
 hl := rfl
 q := fun x hx => by
  simp only [t0, List.mem_cons, List.not_mem_nil, or_false] at hx
  rcases hx with rfl | rfl
  ·exact rs_zero
  ·exact rs_small (by decide) (by decide)
 v := fun x hx => by rw [List.eq_of_mem_replicate hx]; exact rs_zero
theorem pairsOk_m0 {s : StaR} (h : s.here.length = 2) : PairsOk m0 s := ⟨by decide, by decide, h, (by intro p hp; cases hp), List.nodup_nil⟩
abbrev PairsSay [SpC] : Prop := ∀ m s, PairsOk m s → SpC.spec 18 [.agg (mdlA m), .agg (staA s)] = some (pairsA m s)
theorem valid_m0 [SpC] : M X 10 [.agg (mdlA m0)] = some (.int .i64 0) := by
 refine pvalid0 m0 1 (by omega) (by decide) (by decide) rfl rfl (parts_m0 ⟨by decide, by intro c hc; cases hc⟩ ⟨by decide, by
  intro c hc
  simp only [sqr0, List.mem_cons, List.not_mem_nil, or_false] at hc
  rcases hc with rfl | rfl <;> exact ⟨by decide, by decide⟩⟩) ?_ (by kernel_rfl) good_m0.dof ?_ (parts_m0 ⟨rs_zero, rs_zero⟩ ⟨rs_zero, rs_zero⟩) (parts_m0 ⟨shpM_vld (by decide), by kernel_rfl⟩ ⟨shpM_vld (by decide), by kernel_rfl⟩)
 ·have z : nmB (ofQ 0) := nmB_ofQ rs_zero (by decide)
  have o : nmB (ofQ (Rat.divInt 1 1)) := nmB_ofQ (rs_small (by decide) (by decide)) (show 1 < 2 ^ 19 by decide)
  have hf : nmB (ofQ (Rat.divInt 1 2)) := nmB_ofQ (rs_small (by decide) (by decide)) (show 1 < 2 ^ 19 by decide)
  intro n hn
  have hall : numsV m0 = [ofQ (Rat.divInt 1 2), ofQ 0, ofQ 0, ofQ 0, ofQ (Rat.divInt 1 2), ofQ 0, ofQ 0, ofQ 0, ofQ 0, ofQ 0, ofQ 0, ofQ 0, ofQ 0, ofQ 0, ofQ 0, ofQ 0, ofQ (Rat.divInt 1 1), ofQ 0, ofQ 0, ofQ 0, ofQ (Rat.divInt 1 1), ofQ 0] := rfl
  rw [hall] at hn
  simp only [List.mem_cons, List.not_mem_nil, or_false] at hn
  rcases hn with rfl | rfl | rfl | rfl | rfl | rfl | rfl | rfl | rfl | rfl | rfl | rfl | rfl | rfl | rfl | rfl | rfl | rfl | rfl | rfl | rfl | rfl <;> first | exact z | exact o | exact hf
 ·intro d hd
  simp only [m0, List.mem_cons, List.not_mem_nil, or_false] at hd
  rcases hd with rfl | rfl <;> kernel_rfl
theorem mdl_m0 : mdlA m0 = .ro (zS (Rat.divInt 1 2).num :: zD (Rat.divInt 1 2).num :: zS (dz (Rat.divInt 1 2)) :: zD (dz (Rat.divInt 1 2)) :: .bool false :: .ro [] 0 false :: .bool false :: .ro [] 0 false :: .bool false :: .bool false :: .ro [] 0 false :: .bool false :: .ro [] 0 false :: .bool false :: .ro [] 0 false :: .bool false :: .ro [] 0 false :: zS (Rat.divInt 1 2).num :: zD (Rat.divInt 1 2).num :: zS (dz (Rat.divInt 1 2)) :: zD (dz (Rat.divInt 1 2)) :: .bool false :: .ro [] 0 false :: .bool false :: .ro [] 0 false :: .bool false :: .bool false :: .ro [] 0 false :: .bool false :: .ro [] 0 false :: .bool false :: .ro [] 0 false :: .bool false :: .ro [] 0 false :: []) 2 false :: .ro (.ro (.int .i64 (-5) :: .int .i64 (-2) :: .int .i64 5 :: .int .i64 (-2) :: .int .i64 5 :: .int .i64 0 :: .int .i64 (-5) :: .int .i64 0 :: []) 4 false :: .bool false :: .ro [] 0 false :: .bool false :: .ro [] 0 false :: .bool false :: .ro [] 0 false :: .bool false :: .ro [] 0 false :: .ro [] 0 false :: .bool false :: .ro [] 0 false :: .bool false :: .ro [] 0 false :: .bool false :: .ro [] 0 false :: .bool false :: .ro [] 0 false :: .ro (.int .i64 0 :: .int .i64 0 :: .int .i64 2 :: .int .i64 0 :: .int .i64 2 :: .int .i64 2 :: .int .i64 0 :: .int .i64 2 :: []) 4 false :: .bool false :: .ro [] 0 false :: .bool false :: .ro [] 0 false :: .bool false :: .ro [] 0 false :: .bool false :: .ro [] 0 false :: .ro (.int .i64 0 :: zS (Rat.divInt 1 1).num :: zD (Rat.divInt 1 1).num :: zS (dz (Rat.divInt 1 1)) :: zD (dz (Rat.divInt 1 1)) :: .bool false :: .ro [] 0 false :: .bool false :: .ro [] 0 false :: .bool false :: .ro [] 0 false :: .bool false :: .ro [] 0 false :: .int .i64 1 :: .bool false :: .ro [] 0 false :: .bool false :: .ro [] 0 false :: zS (Rat.divInt 1 1).num :: zD (Rat.divInt 1 1).num :: zS (dz (Rat.divInt 1 1)) :: zD (dz (Rat.divInt 1 1)) :: .bool false :: .ro [] 0 false :: .bool false :: .ro [] 0 false :: []) 2 false :: .bool false :: .ro [] 0 false :: .bool false :: .ro [] 0 false :: .bool false :: .ro [] 0 false :: .bool false :: .ro [] 0 false :: []) 2 false :: .ro [] 0 false :: .ro [] 0 false :: [] := by kernel_rfl
theorem sta_s0 : staA s0 = .int .i64 0 :: .ro (.bool false :: .ro [] 0 false :: .bool false :: .ro [] 0 false :: .bool false :: .ro [] 0 false :: .bool false :: .ro [] 0 false :: []) 2 false :: .ro (.bool false :: .ro [] 0 false :: .bool false :: .ro [] 0 false :: .bool false :: .ro [] 0 false :: .bool false :: .ro [] 0 false :: []) 2 false :: .ro [.bool true, .bool true] 2 false :: [] := by kernel_rfl
theorem sta_t0 : staA t0 = .int .i64 0 :: .ro (.bool false :: .ro [] 0 false :: .bool false :: .ro [] 0 false :: zS (Rat.divInt (-1) 2).num :: zD (Rat.divInt (-1) 2).num :: zS (dz (Rat.divInt (-1) 2)) :: zD (dz (Rat.divInt (-1) 2)) :: []) 2 false :: .ro (.bool false :: .ro [] 0 false :: .bool false :: .ro [] 0 false :: .bool false :: .ro [] 0 false :: .bool false :: .ro [] 0 false :: []) 2 false :: .ro [.bool true, .bool true] 2 false :: [] := by kernel_rfl
theorem q_s0 : cat ratA s0.q = [.bool false, .ro [] 0 false, .bool false, .ro [] 0 false, .bool false, .ro [] 0 false, .bool false, .ro [] 0 false] := by kernel_rfl
theorem v_s0 : cat ratA s0.v = [.bool false, .ro [] 0 false, .bool false, .ro [] 0 false, .bool false, .ro [] 0 false, .bool false, .ro [] 0 false] := by kernel_rfl
theorem h_s0 : cat boolA s0.here = [.bool true, .bool true] := by kernel_rfl
theorem ql_s0 : s0.q.length = 2 := rfl
theorem vl_s0 : s0.v.length = 2 := rfl
theorem hl_s0 : s0.here.length = 2 := rfl
theorem lives_15 [SpC] (hP : PairsSay) : M X 12 [] = some (.bool true) := by
 refine M_of X (fn := Tryz.f12) Tryz.func12 rfl ok_12 mode_12 res_12 _ rfl _ ?_
 intro r hr
 have n1 := M_68 1 (by omega)
 have n3 := M_68 3 (by omega)
 have n4 := M_68 4 (by omega)
 have oh := M_44 1 2 (by omega) (by omega)
 have om := M_44 (-1) 2 (by omega) (by omega)
 have st : M X 36 [.agg (mdlA m0)] = some (.agg (staA s0)) := pstart m0 (by decide) (by decide)
 have va := valid_m0
 have fs := M_17 m0 s0 1 good_m0 good_s0 (by omega) (by decide) sides_m0 (hP m0 s0 (pairsOk_m0 rfl))
 have ft := M_17 m0 t0 1 good_m0 good_t0 (by omega) (by decide) sides_m0 (hP m0 t0 (pairsOk_m0 rfl))
 have ps := M_pairs (hP m0 s0 (pairsOk_m0 rfl))
 rw [fit_s0] at fs
 rw [fit_t0] at ft
 have pe : pairsA m0 s0 = .ro [.int .i64 0, .int .i64 1] 1 false := by unfold pairsA; rw [pairs_s0]; rfl
 rw [pe] at ps
 have r3 : RS (Rat.divInt 3 1) 1 := rs_small (by decide) (by decide)
 have r4 : RS (Rat.divInt 4 1) 1 := rs_small (by decide) (by decide)
 have at1 := M_22 m0 [Rat.divInt 3 1, Rat.divInt 4 1] 1 sqr0 1 rfl (by decide) (by
  intro x hx
  simp only [List.mem_cons, List.not_mem_nil, or_false] at hx
  rcases hx with rfl | rfl
  ·exact r3
  ·exact r4) (by decide) (good_m0.part sqr0 (by simp [m0])).cols rs_zero rs_zero (by decide)
 rw [at_m0] at at1
 have cq : cat ratA [Rat.divInt 3 1, Rat.divInt 4 1] = zS (Rat.divInt 3 1).num :: zD (Rat.divInt 3 1).num :: zS (dz (Rat.divInt 3 1)) :: zD (dz (Rat.divInt 3 1)) :: zS (Rat.divInt 4 1).num :: zD (Rat.divInt 4 1).num :: zS (dz (Rat.divInt 4 1)) :: zD (dz (Rat.divInt 4 1)) :: [] := rfl
 rw [cq] at at1
 simp only [List.length_cons, List.length_nil, Nat.reduceAdd] at at1
 rw [show (((1 : Nat)) : Int) = 1 from rfl] at at1
 have ve := M_24 (x := Rat.divInt 3 1) (y := Rat.divInt 4 1) (by decide : 1 < 2 ^ 28) (by decide : 1 < 2 ^ 28)
 have lw : M X 16 [.agg (mdlA m0), .agg (.int .i64 0 :: .ro (.bool false :: .ro [] 0 false :: .bool false :: .ro [] 0 false :: .bool false :: .ro [] 0 false :: .bool false :: .ro [] 0 false :: []) 2 false :: .ro (.bool false :: .ro [] 0 false :: .bool false :: .ro [] 0 false :: .bool false :: .ro [] 0 false :: .bool false :: .ro [] 0 false :: []) 2 false :: .ro (.bool true :: .bool false :: []) 2 false :: [])] = some (.fresh (.bool false :: .bool false :: []) 2 1) := by
  have h := M_16 m0 [true, false] 0 (.ro (.bool false :: .ro [] 0 false :: .bool false :: .ro [] 0 false :: .bool false :: .ro [] 0 false :: .bool false :: .ro [] 0 false :: []) 2 false) (.ro (.bool false :: .ro [] 0 false :: .bool false :: .ro [] 0 false :: .bool false :: .ro [] 0 false :: .bool false :: .ro [] 0 false :: []) 2 false) false good_m0.live rfl
  rw [live_u0] at h
  exact h
 rw [mdl_m0] at st va fs ft ps at1 lw
 rw [sta_s0] at st fs ps
 rw [sta_t0] at ft
 simp (maxSteps := 4000000) (disch := first | omega | (simp only [LL]; omega)) only [go_sem, n1, n3, n4, oh, om, replA_2, replA_4, st, va, fs]
 refine copy_step s0 (by decide) (by decide) (by decide) _ _ _ _ 0 _ 0 (by omega) (.inl ⟨by rw [q_s0]; rfl, by rw [v_s0]; rfl, by rw [h_s0]; rfl⟩) _ ?_
 intro vq vv vh h1 nx1 k1 k2 k3
 obtain ⟨A, B, C, a1, a2, a3, a4, a5, a6, rfl, rfl, rfl, a7, a8, a9⟩ := k3
 have e272 := k2 272 (by omega)
 have e232 := k2 232 (by omega)
 have e256 := k2 256 (by omega)
 have e40 := k2 40 (by omega)
 have e104 := k2 104 (by omega)
 have e144 := k2 144 (by omega)
 have e304 := k2 304 (by omega)
 simp (maxSteps := 4000000) (disch := first | omega | (simp only [LL]; omega)) only [go_sem] at e272 e232 e256 e40 e104 e144 e304
 rw [q_s0] at a7
 rw [v_s0] at a8
 rw [h_s0] at a9
 rw [ql_s0, vl_s0, hl_s0]
 simp (maxSteps := 4000000) (disch := first | omega | (simp only [LL]; omega)) only [go_sem, a7, a8, a9, om, e304]
 refine copy_step s0 (by decide) (by decide) (by decide) _ _ _ _ 0 _ 0 (by omega) (.inl ⟨by rw [q_s0]; rfl, by rw [v_s0]; rfl, by rw [h_s0]; rfl⟩) _ ?_
 intro vq vv vh h2 nx2 k3 k4 k5
 obtain ⟨A2, B2, C2, b1, b2, b3, b4, b5, b6, rfl, rfl, rfl, b7, b8, b9⟩ := k5
 have f504 := k4 504 (by omega)
 have fA := k4 A (by omega)
 have fB := k4 B (by omega)
 have fC := k4 C (by omega)
 have f272 := k4 272 (by omega)
 have f232 := k4 232 (by omega)
 have f256 := k4 256 (by omega)
 have f40 := k4 40 (by omega)
 have f104 := k4 104 (by omega)
 have f144 := k4 144 (by omega)
 have f304 := k4 304 (by omega)
 simp (maxSteps := 4000000) (disch := first | omega | (simp only [LL]; omega)) only [go_sem, a7, a8, a9, e272, e232, e256, e40, e104, e144, e304] at f504 fA fB fC f272 f232 f256 f40 f104 f144 f304
 rw [q_s0] at b7
 rw [v_s0] at b8
 rw [h_s0] at b9
 rw [ql_s0, vl_s0, hl_s0]
 clear e272 e232 e256 e40 e104 e144 e304 a7 a8 a9
 have ts : s0.tick = 0 := rfl
 simp (maxSteps := 4000000) (disch := first | omega | (simp only [LL]; omega)) only [go_sem, b7, b8, b9, f504, fA, fB, fC, f272, f232, f256, f40, f104, f144, f304, mode_16, ts, lw, ps, ft, n3, n4, at1, ve, replA_2]
 rw [hr]
def mxY (k : Int) : Int := if k = 0 then 2 else if k = 1 then 2 else if k = 2 then 3 else if k = 3 then 4 else if k = 4 then 4 else 1
theorem mxY_hgt (k : Int) (h : 0 < hgt k) : mxY k = hgt k := by
 unfold mxY hgt at *
 repeat' split
 all_goals simp_all
def apartP (p q : PartR) : Prop := (sidesR p.shape q.shape).any (opens (q.hx - p.hx) (q.hy - p.hy)) = true
structure BlkAt (p : PartR) (k x y : Int) : Prop where
 sh : p.shape = shp k
 hx : p.hx = Rat.divInt x 1
 hy : p.hy = Rat.divInt y 1
 kb : 0 ≤ k ∧ k < 6
 yb : 0 ≤ y ∧ y ≤ 8
 xb : x = -8 ∨ x = 2 ∨ x = 12 ∨ x = 22 ∨ x = 32
structure IsG (p : PartR) : Prop where
 sh : p.shape = groundP
 hx : p.hx = 0
 hy : p.hy = 0
 cols : p.cols = []
def six : List Int := [0, 1, 2, 3, 4, 5]
theorem six_mem {k : Int} (h : 0 ≤ k ∧ k < 6) : k ∈ six := by
 have : k = 0 ∨ k = 1 ∨ k = 2 ∨ k = 3 ∨ k = 4 ∨ k = 5 := by omega
 unfold six
 rcases this with rfl | rfl | rfl | rfl | rfl | rfl <;> simp
def openXY (es : List Ed) (x y : Int) : Bool := es.any (opens (Rat.divInt x 1) (Rat.divInt y 1))
def chkX (a b dx : Int) : Bool := (List.range 17).all fun y => openXY (sidesR (shp a) (shp b)) dx ((y : Int) - 8)
def chkY (a b : Int) : Bool := (List.range 9).all fun y => !decide (mxY a ≤ (y : Int)) || openXY (sidesR (shp a) (shp b)) 0 (y : Int)
def chkG (b x : Int) : Bool := (List.range 9).all fun y => openXY (sidesR groundP (shp b)) x (y : Int)
theorem chkX10 : (six.all fun a => six.all fun b => chkX a b 10) = true := by kernel_rfl
theorem chkX20 : (six.all fun a => six.all fun b => chkX a b 20) = true := by kernel_rfl
theorem chkX30 : (six.all fun a => six.all fun b => chkX a b 30) = true := by kernel_rfl
theorem chkX40 : (six.all fun a => six.all fun b => chkX a b 40) = true := by kernel_rfl
theorem chkYs : (six.all fun a => six.all fun b => chkY a b) = true := by kernel_rfl
theorem chkGs : (six.all fun b => [-8, 2, 12, 22, 32].all fun x => chkG b x) = true := by kernel_rfl
theorem openX {a b dx dy : Int} (ha : 0 ≤ a ∧ a < 6) (hb : 0 ≤ b ∧ b < 6) (hx : dx = 10 ∨ dx = 20 ∨ dx = 30 ∨ dx = 40) (hy : -8 ≤ dy ∧ dy ≤ 8) : openXY (sidesR (shp a) (shp b)) dx dy = true := by
 have h : chkX a b dx = true := by
  rcases hx with rfl | rfl | rfl | rfl
  ·exact List.all_eq_true.1 (List.all_eq_true.1 chkX10 a (six_mem ha)) b (six_mem hb)
  ·exact List.all_eq_true.1 (List.all_eq_true.1 chkX20 a (six_mem ha)) b (six_mem hb)
  ·exact List.all_eq_true.1 (List.all_eq_true.1 chkX30 a (six_mem ha)) b (six_mem hb)
  ·exact List.all_eq_true.1 (List.all_eq_true.1 chkX40 a (six_mem ha)) b (six_mem hb)
 have := List.all_eq_true.1 h (dy + 8).toNat (by simp; omega)
 rwa [show (((dy + 8).toNat : Nat) : Int) - 8 = dy by omega] at this
theorem openY {a b dy : Int} (ha : 0 ≤ a ∧ a < 6) (hb : 0 ≤ b ∧ b < 6) (hy : mxY a ≤ dy ∧ 0 ≤ dy ∧ dy ≤ 8) : openXY (sidesR (shp a) (shp b)) 0 dy = true := by
 have h : chkY a b = true := List.all_eq_true.1 (List.all_eq_true.1 chkYs a (six_mem ha)) b (six_mem hb)
 have := List.all_eq_true.1 h dy.toNat (by simp; omega)
 rw [show ((dy.toNat : Nat) : Int) = dy by omega] at this
 simpa [hy.1] using this
theorem openG {b x y : Int} (hb : 0 ≤ b ∧ b < 6) (hx : x = -8 ∨ x = 2 ∨ x = 12 ∨ x = 22 ∨ x = 32) (hy : 0 ≤ y ∧ y ≤ 8) : openXY (sidesR groundP (shp b)) x y = true := by
 have h : chkG b x = true := List.all_eq_true.1 (List.all_eq_true.1 chkGs b (six_mem hb)) x (by simp; omega)
 have := List.all_eq_true.1 h y.toNat (by simp; omega)
 rwa [show ((y.toNat : Nat) : Int) = y by omega] at this
theorem divInt_sub1 (a b : Int) : Rat.divInt a 1 - Rat.divInt b 1 = Rat.divInt (a - b) 1 := by
 rw [Rat.divInt_sub_divInt _ _ (by decide) (by decide)]
 simp only [Int.mul_one]
theorem divInt_add1 (a b : Int) : Rat.divInt a 1 + Rat.divInt b 1 = Rat.divInt (a + b) 1 := by
 rw [Rat.divInt_add_divInt _ _ (by decide) (by decide)]
 simp only [Int.mul_one]
theorem rat_zero1 : (0 : Rat) = Rat.divInt 0 1 := by rfl
theorem apart_gnd {p q : PartR} (hp : IsG p) {k x y : Int} (hq : BlkAt q k x y) : apartP p q := by
 unfold apartP
 rw [hp.sh, hq.sh, hp.hx, hp.hy, hq.hx, hq.hy, rat_zero1, divInt_sub1, divInt_sub1]
 have := openG hq.kb hq.xb hq.yb
 rwa [← Int.sub_zero x, ← Int.sub_zero y] at this
theorem apart_blk {p q : PartR} {k1 x1 y1 k2 x2 y2 : Int} (hp : BlkAt p k1 x1 y1) (hq : BlkAt q k2 x2 y2) (h : x1 < x2 ∨ (x1 = x2 ∧ y1 + mxY k1 ≤ y2)) : apartP p q := by
 unfold apartP
 rw [hp.sh, hq.sh, hp.hx, hp.hy, hq.hx, hq.hy, divInt_sub1, divInt_sub1]
 have y1b := hp.yb
 have y2b := hq.yb
 rcases h with h | ⟨rfl, h⟩
 ·exact openX hp.kb hq.kb (by have := hp.xb; have := hq.xb; omega) (by omega)
 ·rw [Int.sub_self]
  have hm : 0 ≤ mxY k1 := by
   unfold mxY
   repeat' split
   all_goals decide
  exact openY hp.kb hq.kb ⟨by omega, by omega, by omega⟩
structure GInv (g : GenS) (j : Nat) : Prop where
 jb : j ≤ 3
 ro : g.m.ropes = []
 sk : g.m.skip = []
 d1 : 2 * j ≤ g.m.dofs.length
 d2 : g.m.dofs.length ≤ 3 * j
 x : g.x = -18 ∨ g.x = -8 ∨ g.x = 2 ∨ g.x = 12
 xj : g.x ≤ -18 + 10 * (j : Int)
 top : 0 ≤ g.top ∧ g.top ≤ 4 + 2 * (j : Int)
 top0 : 0 < g.top → -8 ≤ g.x
 dof : ∀ d ∈ g.m.dofs, d.bd = false ∧ d.lo = 0 ∧ d.hi = 0
 pt : ∃ g0 bs, g.m.parts = g0 :: bs ∧ IsG g0 ∧ bs.length = j ∧ ∀ p ∈ bs, ∃ k x y, BlkAt p k x y ∧ x ≤ g.x ∧ (x = g.x → 0 < g.top → y + mxY k ≤ g.top)
 cols : ∀ p ∈ g.m.parts, okCols g.m.dofs.length 1 p.cols
 ap : g.m.parts.Pairwise apartP
theorem okCols.mono {n n' N : Nat} {l : List ColR} (h : okCols n N l) (hn : n ≤ n') : okCols n' N l := ⟨h.1, fun c hc => by
 obtain ⟨⟨a, b⟩, c⟩ := h.2 c hc
 exact ⟨⟨a, by omega⟩, c⟩⟩
theorem gen0_inv (l : List Int) : GInv (gen0 l) 0 where
 jb := by omega
 ro := rfl
 sk := rfl
 d1 := by simp [gen0]
 d2 := by simp [gen0]
 x := .inl rfl
 xj := by simp [gen0]
 top := by simp [gen0]
 top0 := by simp [gen0]
 dof := by intro d hd; cases hd
 pt := ⟨_, [], rfl, ⟨rfl, rfl, rfl, rfl⟩, rfl, by intro p hp; cases hp⟩
 cols := by
  intro p hp
  simp only [gen0, List.mem_cons, List.not_mem_nil, or_false] at hp
  subst hp
  exact ⟨by simp, by intro c hc; cases hc⟩
 ap := List.pairwise_singleton _ _
def newCols (D : Nat) (w : Bool) : List ColR := [⟨D, Rat.divInt 1 1, 0, 0⟩, ⟨D + 1, 0, Rat.divInt 1 1, 0⟩] ++ (if w then [⟨D + 2, 0, 0, Rat.divInt 1 1⟩] else [])
theorem newCols_ok (D : Nat) (w : Bool) : okCols (D + (if w = true then 3 else 2)) 1 (newCols D w) := by
 have o : RS (Rat.divInt 1 1) 1 := rs_small (by decide) (by decide)
 have z : RS (0 : Rat) 1 := rs_zero
 refine ⟨by cases w <;> simp [newCols], fun c hc => ?_⟩
 cases w with
 | true =>
  simp only [newCols, if_true, List.cons_append, List.nil_append, List.mem_cons, List.not_mem_nil, or_false] at hc ⊢
  rcases hc with rfl | rfl | rfl
  ·exact ⟨⟨by dsimp only; omega, by dsimp only; omega⟩, o, z, z⟩
  ·exact ⟨⟨by dsimp only; omega, by dsimp only; omega⟩, z, o, z⟩
  ·exact ⟨⟨by dsimp only; omega, by dsimp only; omega⟩, z, z, o⟩
 | false =>
  simp only [newCols, Bool.false_eq_true, if_false, List.append_nil, List.mem_cons, List.not_mem_nil, or_false] at hc ⊢
  rcases hc with rfl | rfl
  ·exact ⟨⟨by dsimp only; omega, by dsimp only; omega⟩, o, z, z⟩
  ·exact ⟨⟨by dsimp only; omega, by dsimp only; omega⟩, z, o, z⟩
theorem block_inv {m : MdlR} {j : Nat} {x y top x' y' n k : Int} {w : Bool} (h : GInv ⟨m, x, y, top⟩ j) (hj : j < 3) (hk : 0 ≤ k ∧ k < 6)
  (hxy : (x' = x ∧ y' = top ∧ 0 < top) ∨ (x' = x + 10 ∧ 0 ≤ y' ∧ y' ≤ 4)) : GInv ⟨blockV m (shp k) x' y' n w, x', y', if 0 < hgt k then y' + hgt k else 0⟩ (j + 1) := by
 obtain ⟨_, ro, sk, d1, d2, hx, hxj, htop, htop0, hdof, ⟨g0, bs, e1, e2, e3, e4⟩, hcols, hap⟩ := h
 simp only at ro sk d1 d2 hx hxj htop htop0 hdof e1 e4 hcols hap
 obtain ⟨l1, l2, l3, l4⟩ := blockV_len m (shp k) x' y' n w
 have hyb : 0 ≤ y' ∧ y' ≤ 8 := by omega
 have hxb : x' = -8 ∨ x' = 2 ∨ x' = 12 := by omega
 let q : PartR := ⟨shp k, Rat.divInt x' 1, Rat.divInt y' 1, newCols m.dofs.length w, Rat.divInt (n / 9 % 4) 2, Rat.divInt (n / 36 % 3) 2⟩
 have hq : BlkAt q k x' y' := ⟨rfl, rfl, rfl, hk, hyb, by omega⟩
 have hparts : (blockV m (shp k) x' y' n w).parts = m.parts ++ [q] := rfl
 have hlen : (blockV m (shp k) x' y' n w).dofs.length = m.dofs.length + (if w = true then 3 else 2) := l1
 have hw : 2 ≤ (if w = true then 3 else 2 : Nat) ∧ (if w = true then 3 else 2 : Nat) ≤ 3 := by cases w <;> simp
 have hg := hgt_bd k
 refine ⟨by omega, ?_, ?_, ?_, ?_, ?_, ?_, ?_, ?_, ?_, ?_, ?_, ?_⟩
 ·exact ro
 ·exact sk
 ·show 2 * (j + 1) ≤ (blockV m (shp k) x' y' n w).dofs.length; omega
 ·show (blockV m (shp k) x' y' n w).dofs.length ≤ 3 * (j + 1); omega
 ·show x' = -18 ∨ x' = -8 ∨ x' = 2 ∨ x' = 12; omega
 ·show x' ≤ -18 + 10 * ((j + 1 : Nat) : Int); omega
 ·show 0 ≤ (if 0 < hgt k then y' + hgt k else 0) ∧ (if 0 < hgt k then y' + hgt k else 0) ≤ 4 + 2 * ((j + 1 : Nat) : Int)
  split <;> omega
 ·show _ → -8 ≤ x'; omega
 ·intro d hd
  simp only [blockV, List.mem_append, List.mem_cons, List.not_mem_nil, or_false] at hd
  rcases hd with (hd | rfl | rfl) | hd
  ·exact hdof d hd
  ·exact ⟨rfl, rfl, rfl⟩
  ·exact ⟨rfl, rfl, rfl⟩
  ·cases w with
   | true =>
    simp only [if_true, List.mem_cons, List.not_mem_nil, or_false] at hd
    subst hd
    exact ⟨rfl, rfl, rfl⟩
   | false => simp at hd
 ·refine ⟨g0, bs ++ [q], by rw [hparts, e1]; rfl, e2, by simp [e3], fun p hp => ?_⟩
  rcases List.mem_append.1 hp with hp | hp
  ·obtain ⟨k1, x1, y1, b1, b2, b3⟩ := e4 p hp
   refine ⟨k1, x1, y1, b1, by dsimp only; omega, fun hxx ht => ?_⟩
   dsimp only at hxx ht ⊢
   rcases hxy with ⟨hxy, hy2, h0⟩ | hxy
   ·have := b3 (by omega) h0
    split at ht
    ·rename_i hh; rw [if_pos hh]; omega
    ·omega
   ·omega
  ·simp only [List.mem_cons, List.not_mem_nil, or_false] at hp
   subst hp
   refine ⟨k, x', y', hq, Int.le_refl _, fun _ ht => ?_⟩
   dsimp only at ht ⊢
   split at ht
   ·rename_i hh; rw [if_pos hh, mxY_hgt k hh]; omega
   ·omega
 ·intro p hp
  dsimp only at hp ⊢
  rw [hparts] at hp
  rw [hlen]
  rcases List.mem_append.1 hp with hp | hp
  ·exact (hcols p hp).mono (by omega)
  ·simp only [List.mem_cons, List.not_mem_nil, or_false] at hp
   subst hp
   exact newCols_ok _ _
 ·show (blockV m (shp k) x' y' n w).parts.Pairwise apartP
  rw [hparts]
  refine List.pairwise_append.2 ⟨hap, List.pairwise_singleton _ _, fun p hp q' hq' => ?_⟩
  simp only [List.mem_cons, List.not_mem_nil, or_false] at hq'
  subst hq'
  rw [e1] at hp
  rcases List.mem_cons.1 hp with rfl | hp
  ·exact apart_gnd e2 hq
  ·obtain ⟨k1, x1, y1, b1, b2, b3⟩ := e4 p hp
   refine apart_blk b1 hq ?_
   rcases hxy with ⟨rfl, rfl, h0⟩ | hxy
   ·by_cases hxx : x1 = x'
    ·exact .inr ⟨hxx, b3 hxx h0⟩
    ·left; omega
   ·left; omega
theorem step_inv {g : GenS} {j : Nat} (h : GInv g j) (hj : j < 3) {n how : Int} (hn : 0 ≤ n) : GInv (stepV g n how) (j + 1) := by
 have hk := arnd_bd n 6 (by decide)
 obtain ⟨m, x, y, top⟩ := g
 have h4 := Int.emod_nonneg n (show (4 : Int) ≠ 0 by decide)
 have h5 := Int.emod_lt_of_pos n (show (0 : Int) < 4 by decide)
 unfold stepV
 refine block_inv h hj hk ?_
 dsimp only
 by_cases hs : 0 < top ∧ how < 3
 ·rw [if_pos hs, if_pos hs]; exact .inl ⟨rfl, rfl, hs.1⟩
 ·rw [if_neg hs, if_neg hs]
  right
  refine ⟨rfl, ?_⟩
  split <;> omega
theorem go_inv (l : List Int) : ∀ (k i : Nat) (g : GenS) (j : Nat), GInv g j → j + k ≤ 3 → ∃ j', j ≤ j' ∧ (0 < k → j = 0 → 1 ≤ j') ∧ GInv (genGo l k i g) j'
 | 0, _, g, j, h, _ => ⟨j, Nat.le_refl _, by omega, h⟩
 | k + 1, i, g, j, h, hj => by
  unfold genGo
  have b := atN_bd l (4 + 2 * i) 432 (by decide)
  by_cases hd : g.m.dofs.length < 5
  ·rw [if_pos hd]
   obtain ⟨j', h1, _, h2⟩ := go_inv l k (i + 1) _ (j + 1) (step_inv (how := atN l (5 + 2 * i) 7) h (by omega) b.1) (by omega)
   exact ⟨j', by omega, by omega, h2⟩
  ·rw [if_neg hd]
   exact ⟨j, Nat.le_refl _, fun _ h0 => by have := h.d2; omega, h⟩
theorem genV_inv (l : List Int) : ∃ j, 1 ≤ j ∧ GInv (genV l) j := by
 have b := atN_bd l 2 3 (by decide)
 obtain ⟨j, _, h1, h2⟩ := go_inv l (1 + atN l 2 3).toNat 0 (gen0 l) 0 (gen0_inv l) (by omega)
 exact ⟨j, h1 (by omega) rfl, h2⟩
theorem getD_of_lt {α : Type} {l : List α} {i : Nat} {d : α} (h : i < l.length) : l.getD i d = l[i] := by rw [List.getD_eq_getElem?_getD, List.getElem?_eq_getElem h]; rfl
structure Pre (m : MdlR) : Prop where
 dl : 2 ≤ m.dofs.length ∧ m.dofs.length ≤ 10
 pl : 2 ≤ m.parts.length ∧ m.parts.length ≤ 6
 hd : ∃ g0 p1 ps, m.parts = g0 :: p1 :: ps ∧ IsG g0 ∧ ∃ k x y, BlkAt p1 k x y
 shp : ∀ p ∈ m.parts, p.shape ∈ shpM
 hxy : ∀ p ∈ m.parts, RS p.hx 1 ∧ RS p.hy 1
 cols : ∀ p ∈ m.parts, okCols m.dofs.length 1 p.cols
 dof : ∀ d ∈ m.dofs, (RS d.lo 1 ∧ RS d.hi 1) ∧ (d.bd = true → d.lo ≤ 0 ∧ 0 ≤ d.hi)
 ap : m.parts.Pairwise apartP
theorem blk_facts {p : PartR} {k x y : Int} (h : BlkAt p k x y) : p.shape ∈ shpM ∧ RS p.hx 1 ∧ RS p.hy 1 := by
 have hx := h.xb
 have hy := h.yb
 refine ⟨by rw [h.sh]; exact shp_mem h.kb, by rw [h.hx]; exact rs_small (by omega) (by decide), by rw [h.hy]; exact rs_small (by omega) (by decide)⟩
theorem gnd_facts {p : PartR} (h : IsG p) : p.shape ∈ shpM ∧ RS p.hx 1 ∧ RS p.hy 1 := by
 refine ⟨by rw [h.sh]; simp [shpM], by rw [h.hx]; exact rs_zero, by rw [h.hy]; exact rs_zero⟩
theorem inv_facts {g : GenS} {j : Nat} (h : GInv g j) : ∀ p ∈ g.m.parts, p.shape ∈ shpM ∧ RS p.hx 1 ∧ RS p.hy 1 := by
 obtain ⟨g0, bs, e1, e2, e3, e4⟩ := h.pt
 intro p hp
 rw [e1] at hp
 rcases List.mem_cons.1 hp with rfl | hp
 ·exact gnd_facts e2
 ·obtain ⟨k, x, y, b, _⟩ := e4 p hp
  exact blk_facts b
theorem inv_hd {g : GenS} {j : Nat} (h : GInv g j) (hj : 1 ≤ j) : ∃ g0 p1 ps, g.m.parts = g0 :: p1 :: ps ∧ IsG g0 ∧ ∃ k x y, BlkAt p1 k x y := by
 obtain ⟨g0, bs, e1, e2, e3, e4⟩ := h.pt
 cases bs with
 | nil => simp at e3; omega
 | cons p1 ps =>
  obtain ⟨k, x, y, b, _⟩ := e4 p1 (by simp)
  exact ⟨g0, p1, ps, e1, e2, k, x, y, b⟩
theorem inv_pl {g : GenS} {j : Nat} (h : GInv g j) : g.m.parts.length = 1 + j := by
 obtain ⟨g0, bs, e1, e2, e3, e4⟩ := h.pt
 rw [e1, List.length_cons, e3]; omega
theorem inv_dof {g : GenS} {j : Nat} (h : GInv g j) : ∀ d ∈ g.m.dofs, (RS d.lo 1 ∧ RS d.hi 1) ∧ (d.bd = true → d.lo ≤ 0 ∧ 0 ≤ d.hi) := by
 intro d hd
 obtain ⟨h1, h2, h3⟩ := h.dof d hd
 rw [h1, h2, h3]
 exact ⟨⟨rs_zero, rs_zero⟩, by intro h; cases h⟩
theorem pre_gen {g : GenS} {j : Nat} (h : GInv g j) (hj : 1 ≤ j) : Pre g.m where
 dl := by have := h.d1; have := h.d2; have := h.jb; omega
 pl := by have := inv_pl h; have := h.jb; omega
 hd := inv_hd h hj
 shp := fun p hp => (inv_facts h p hp).1
 hxy := fun p hp => (inv_facts h p hp).2
 cols := h.cols
 dof := inv_dof h
 ap := h.ap
theorem pre_train {g : GenS} {j : Nat} (h : GInv g j) (hj : 1 ≤ j) {n : Int} (hn : 0 ≤ n) : Pre (trainV g.m n) := by
 obtain ⟨l1, l2, l3, l4⟩ := trainV_len g.m n
 obtain ⟨g0, p1, ps, e1, e2, e3⟩ := inv_hd h hj
 obtain ⟨g0', bs, f1, f2, f3, f4⟩ := h.pt
 have hpl := inv_pl h
 have hjb := h.jb
 have hd1 := h.d1
 have hd2 := h.d2
 have hgx := h.x
 let sl : PartR := ⟨shp 1, Rat.divInt 22 1, 0, [⟨g.m.dofs.length, Rat.divInt 1 1, 0, 0⟩], Rat.divInt (n % 3) 2, 0⟩
 let li : PartR := ⟨shp 5, Rat.divInt 32 1, Rat.divInt 2 1, [⟨g.m.dofs.length, 0, Rat.divInt (1 + n % 2) 2, 0⟩], Rat.divInt (n % 4) 2, Rat.divInt (n % 3) 2⟩
 have hsl : BlkAt sl 1 22 0 := ⟨rfl, rfl, rat_zero1, by omega, by omega, by omega⟩
 have hli : BlkAt li 5 32 2 := ⟨rfl, rfl, rfl, by omega, by omega, by omega⟩
 have hparts : (trainV g.m n).parts = g.m.parts ++ [sl, li] := by
  show g.m.parts ++ [sl] ++ [li] = _
  rw [List.append_assoc]; rfl
 have o : RS (Rat.divInt 1 1) 1 := rs_small (by decide) (by decide)
 have z : RS (0 : Rat) 1 := rs_zero
 have h2 := Int.emod_nonneg n (show (2 : Int) ≠ 0 by decide)
 have h3 := Int.emod_lt_of_pos n (show (0 : Int) < 2 by decide)
 have o2 : RS (Rat.divInt (1 + n % 2) 2) 1 := rs_small (by omega) (by decide)
 refine ⟨by omega, by omega, ⟨g0, p1, ps ++ [sl, li], by rw [hparts, e1]; rfl, e2, e3⟩, ?_, ?_, ?_, ?_, ?_⟩
 ·intro p hp
  rw [hparts] at hp
  rcases List.mem_append.1 hp with hp | hp
  ·exact (inv_facts h p hp).1
  ·simp only [List.mem_cons, List.not_mem_nil, or_false] at hp
   rcases hp with rfl | rfl
   ·exact (blk_facts hsl).1
   ·exact (blk_facts hli).1
 ·intro p hp
  rw [hparts] at hp
  rcases List.mem_append.1 hp with hp | hp
  ·exact (inv_facts h p hp).2
  ·simp only [List.mem_cons, List.not_mem_nil, or_false] at hp
   rcases hp with rfl | rfl
   ·exact (blk_facts hsl).2
   ·exact (blk_facts hli).2
 ·intro p hp
  rw [hparts] at hp
  rw [l1]
  rcases List.mem_append.1 hp with hp | hp
  ·exact (h.cols p hp).mono (by omega)
  ·simp only [List.mem_cons, List.not_mem_nil, or_false] at hp
   rcases hp with rfl | rfl
   ·refine ⟨by simp [sl], fun c hc => ?_⟩
    simp only [sl, List.mem_cons, List.not_mem_nil, or_false] at hc
    subst hc
    exact ⟨⟨by dsimp only; omega, by dsimp only; omega⟩, o, z, z⟩
   ·refine ⟨by simp [li], fun c hc => ?_⟩
    simp only [li, List.mem_cons, List.not_mem_nil, or_false] at hc
    subst hc
    exact ⟨⟨by dsimp only; omega, by dsimp only; omega⟩, z, o2, z⟩
 ·intro d hd
  have hdd : (trainV g.m n).dofs = g.m.dofs ++ [⟨Rat.divInt 1 2, ofQ 0, true, Rat.divInt (-1) 1, Rat.divInt 3 1⟩] := rfl
  rw [hdd] at hd
  rcases List.mem_append.1 hd with hd | hd
  ·exact inv_dof h d hd
  ·simp only [List.mem_cons, List.not_mem_nil, or_false] at hd
   subst hd
   exact ⟨⟨rs_small (p := -1) (q := 1) (by decide) (by decide), rs_small (p := 3) (q := 1) (by decide) (by decide)⟩, fun _ => ⟨by show Rat.divInt (-1) 1 ≤ 0; decide +kernel, by show 0 ≤ Rat.divInt 3 1; decide +kernel⟩⟩
 ·rw [hparts]
  refine List.pairwise_append.2 ⟨h.ap, ?_, fun p hp q hq => ?_⟩
  ·refine List.pairwise_cons.2 ⟨fun q hq => ?_, List.pairwise_singleton _ _⟩
   simp only [List.mem_cons, List.not_mem_nil, or_false] at hq
   subst hq
   exact apart_blk hsl hli (.inl (by decide))
  ·rw [f1] at hp
   simp only [List.mem_cons, List.not_mem_nil, or_false] at hq
   rcases List.mem_cons.1 hp with rfl | hp
   ·rcases hq with rfl | rfl
    ·exact apart_gnd f2 hsl
    ·exact apart_gnd f2 hli
   ·obtain ⟨k1, x1, y1, b1, b2, b3⟩ := f4 p hp
    rcases hq with rfl | rfl
    ·exact apart_blk b1 hsl (.inl (by omega))
    ·exact apart_blk b1 hli (.inl (by omega))
def ropeG (p : PartR) (e : Int) : RopeR := ⟨0, 1, p.hx, 0, 0, 0, [(0, 1, 1), (3, 4, 5), (1, 0, 1)], p.hy + Rat.divInt e 1⟩
structure GenM (m : MdlR) : Prop where
 pre : Pre m
 good : GoodM m 1
 skip : m.skip = [] ∨ (m.skip = [(1, 2)] ∧ 2 < m.parts.length)
 rope : m.ropes = [] ∨ ∃ e : Int, (0 ≤ e ∧ e ≤ 1) ∧ m.ropes = [ropeG (m.parts.getD 1 part0) e]
theorem genM_of {m : MdlR} (h : Pre m) (hs : m.skip = [] ∨ (m.skip = [(1, 2)] ∧ 2 < m.parts.length)) (hr : m.ropes = [] ∨ ∃ e : Int, (0 ≤ e ∧ e ≤ 1) ∧ m.ropes = [ropeG (m.parts.getD 1 part0) e]) : GenM m where
 pre := h
 skip := hs
 rope := hr
 good := {
  dl := by have := h.dl; omega
  pl := by have := h.pl; omega
  rl := by rcases hr with hr | ⟨e, _, hr⟩ <;> (rw [hr]; simp)
  sl := by rcases hs with hs | ⟨hs, _⟩ <;> (rw [hs]; simp)
  part := fun p hp => okPart_of (h.shp p hp) (h.cols p hp) (h.hxy p hp).1 (h.hxy p hp).2
  dof := fun d hd => (h.dof d hd).1
  rope := fun r hr' => by
   rcases hr with hr | ⟨e, he, hr⟩
   ·rw [hr] at hr'; cases hr'
   ·rw [hr] at hr'
    simp only [List.mem_cons, List.not_mem_nil, or_false] at hr'
    subst hr'
    obtain ⟨g0, p1, ps, e1, e2, k, x, y, b⟩ := h.hd
    have hp1 : m.parts.getD 1 part0 = p1 := by rw [e1]; rfl
    rw [hp1]
    have hpl := h.pl
    have hyb := b.yb
    refine ⟨⟨by show (0 : Int) ≤ 0; omega, by show (0 : Int) < _; omega⟩, ⟨by show (-1 : Int) ≤ 1; omega, by show (1 : Int) < _; omega⟩, (blk_facts b).2.1, rs_zero, rs_zero, rs_zero, ?_, by simp [ropeG], ?_⟩
    ·show RS (p1.hy + Rat.divInt e 1) 1
     rw [b.hy, divInt_add1]
     exact rs_small (by omega) (by decide)
    ·intro d hd
     simp only [ropeG, List.mem_cons, List.not_mem_nil, or_false] at hd
     rcases hd with rfl | rfl | rfl <;> exact ⟨by unfold okd3; decide, by unfold ok64; decide⟩ }
theorem modelV_gen (l : List Int) : GenM (modelV l) := by
 obtain ⟨j, hj, hg⟩ := genV_inv l
 have hb := atN_bd l 3 8 (by decide)
 unfold modelV
 generalize atN l 3 8 = more at *
 dsimp only
 have hpre : Pre (if more % 2 = 1 ∧ (genV l).m.dofs.length < 6 then trainV (genV l).m more else (genV l).m) := by
  split
  ·exact pre_train hg hj hb.1
  ·exact pre_gen hg hj
 have hrs : (if more % 2 = 1 ∧ (genV l).m.dofs.length < 6 then trainV (genV l).m more else (genV l).m).ropes = [] ∧ (if more % 2 = 1 ∧ (genV l).m.dofs.length < 6 then trainV (genV l).m more else (genV l).m).skip = [] := by
  split
  ·obtain ⟨_, _, l3, l4⟩ := trainV_len (genV l).m more
   rw [l3, l4]; exact ⟨hg.ro, hg.sk⟩
  ·exact ⟨hg.ro, hg.sk⟩
 generalize (if more % 2 = 1 ∧ (genV l).m.dofs.length < 6 then trainV (genV l).m more else (genV l).m) = m1 at *
 obtain ⟨dofs, parts, ropes, skip⟩ := m1
 obtain ⟨rfl, rfl⟩ := hrs
 obtain ⟨p1, p2, p3, p4, p5, p6, p7, p8⟩ := hpre
 have key : ∀ ro sk, Pre ⟨dofs, parts, ro, sk⟩ := fun ro sk => ⟨p1, p2, p3, p4, p5, p6, p7, p8⟩
 have he : 0 ≤ more / 4 ∧ more / 4 ≤ 1 := by omega
 by_cases h2 : more / 2 % 2 = 1
 ·rw [if_pos h2]
  split
  ·rename_i h7
   exact genM_of (key _ _) (.inr ⟨rfl, h7.2⟩) (.inr ⟨more / 4, he, rfl⟩)
  ·exact genM_of (key _ _) (.inl rfl) (.inr ⟨more / 4, he, rfl⟩)
 ·rw [if_neg h2]
  split
  ·rename_i h7
   exact genM_of (key _ _) (.inr ⟨rfl, h7.2⟩) (.inl rfl)
  ·exact genM_of (key _ _) (.inl rfl) (.inl rfl)
theorem GenM.pairs {m : MdlR} (h : GenM m) {s : StaR} (hl : s.here.length = m.parts.length) : PairsOk m s := by
 have h1 := h.good.pl
 have h2 := h.good.sl
 refine ⟨h1, h2, hl, ?_, ?_⟩
 ·intro p hp
  rcases h.skip with hs | ⟨hs, _⟩
  ·rw [hs] at hp; cases hp
  ·rw [hs] at hp
   simp only [List.mem_cons, List.not_mem_nil, or_false] at hp
   subst hp
   unfold okp
   decide
 ·rcases h.skip with hs | ⟨hs, _⟩ <;> (rw [hs]; simp)
theorem GenM.same {m : MdlR} (h : GenM m) : SameSides m := sameSides_of h.pre.shp
theorem fit_iff (m : MdlR) (s : StaR) : fitV m s = 0 ↔ (∀ i, i < m.dofs.length → velBad m s i = false) ∧ (∀ x ∈ pairsV m s.here, meetV m s x = false) ∧ (∀ i, i < m.dofs.length → dofBad m s i = false) ∧ ∀ r ∈ m.ropes, ropeBad m s r = false := by
 have e1 : ((List.range m.dofs.length).any (velBad m s) = true) ↔ ¬ ∀ i, i < m.dofs.length → velBad m s i = false := by
  rw [List.any_eq_true]; simp
 have e2 : ((pairsV m s.here).any (meetV m s) = true) ↔ ¬ ∀ x ∈ pairsV m s.here, meetV m s x = false := by
  rw [List.any_eq_true]; simp
 have e3 : ((List.range m.dofs.length).any (dofBad m s) = true) ↔ ¬ ∀ i, i < m.dofs.length → dofBad m s i = false := by
  rw [List.any_eq_true]; simp
 have e4 : (m.ropes.any (ropeBad m s) = true) ↔ ¬ ∀ r ∈ m.ropes, ropeBad m s r = false := by
  rw [List.any_eq_true]; simp
 unfold fitV
 constructor
 ·intro h
  split at h
  ·simp at h
  rename_i h1
  split at h
  ·simp at h
  rename_i h2
  split at h
  ·simp at h
  rename_i h3
  split at h
  ·simp at h
  rename_i h4
  exact ⟨Classical.not_not.1 fun hn => h1 (e1.2 hn), Classical.not_not.1 fun hn => h2 (e2.2 hn), Classical.not_not.1 fun hn => h3 (e3.2 hn), Classical.not_not.1 fun hn => h4 (e4.2 hn)⟩
 ·rintro ⟨h1, h2, h3, h4⟩
  rw [if_neg fun h => e1.1 h h1, if_neg fun h => e2.1 h h2, if_neg fun h => e3.1 h h3, if_neg fun h => e4.1 h h4]
theorem mvV_zero (n : Nat) (cols : List ColR) : mvV (List.replicate n 0) cols = (0, 0, 0) := by
 unfold mvV
 induction cols with
 | nil => rfl
 | cons c cs ih =>
  have h0 : (List.replicate n (0 : Rat)).getD c.dof.toNat 0 = 0 := by
   rw [List.getD_eq_getElem?_getD, List.getElem?_replicate]
   split <;> rfl
  rw [List.foldl_cons, show mvF (List.replicate n 0) (0, 0, 0) c = (0, 0, 0) by unfold mvF; rw [h0]; simp only [Rat.zero_mul, Rat.add_zero]]
  exact ih
theorem posV_zero (m : MdlR) (n : Nat) (i : Int) : posV m (List.replicate n 0) i = ((m.parts.getD i.toNat part0).hx, (m.parts.getD i.toNat part0).hy) := by
 unfold posV atV
 rw [mvV_zero]
 simp only [Rat.add_zero]
theorem ropeFits : ([-8, 2, 12, 22, 32].all fun x => (List.range 9).all fun y => [0, 1].all fun e => [((0 : Int), (1 : Int), (1 : Int)), (3, 4, 5), (1, 0, 1)].all fun d => !dirBad (Rat.divInt x 1 + 0, 0 + 0, 0 + Rat.divInt x 1, 0 + Rat.divInt (y : Int) 1) (Rat.divInt (y : Int) 1 + Rat.divInt e 1) d) = true := by kernel_rfl
theorem cmpQ_self (x : Rat) : cmpQ x x = 0 := by unfold cmpQ; rw [if_neg (Rat.lt_irrefl), if_neg (Rat.lt_irrefl)]
theorem fit_start {m : MdlR} (h : GenM m) (t : Int) (here : List Bool) : fitV m ⟨t, List.replicate m.dofs.length 0, List.replicate m.dofs.length 0, here⟩ = 0 := by
 have z : ∀ i, (List.replicate m.dofs.length (0 : Rat)).getD i 0 = 0 := fun i => by
  rw [List.getD_eq_getElem?_getD, List.getElem?_replicate]
  split <;> rfl
 refine (fit_iff _ _).2 ⟨fun i hi => ?_, fun x hx => ?_, fun i hi => ?_, fun r hr => ?_⟩
 ·unfold velBad
  rw [z, cmpQ_self]
  simp
 ·obtain ⟨x1, x2, x3⟩ := pairsV_mem hx
  unfold meetV
  dsimp only
  rw [posV_zero, posV_zero]
  have := List.pairwise_iff_getElem.1 h.pre.ap x.1.toNat x.2.toNat (by omega) (by omega) (by omega)
  unfold apartP at this
  unfold shapeAt
  rw [getD_of_lt (by omega), getD_of_lt (by omega), this]
  rfl
 ·unfold dofBad
  have hd := h.pre.dof _ (List.getElem_mem hi)
  rw [z, getD_of_lt hi]
  cases hb : m.dofs[i].bd with
  | false => simp
  | true =>
   obtain ⟨a, b⟩ := hd.2 hb
   have c1 : ¬ cmpQ 0 m.dofs[i].lo < 0 := by
    unfold cmpQ
    rw [if_neg (Rat.not_lt.2 a)]
    split <;> decide
   have c2 : ¬ 0 < cmpQ 0 m.dofs[i].hi := by
    unfold cmpQ
    rw [if_neg (c := m.dofs[i].hi < 0) (Rat.not_lt.2 b)]
    split <;> decide
   simp [c1, c2]
 ·rcases h.rope with hro | ⟨e, he, hro⟩
  ·rw [hro] at hr; cases hr
  ·rw [hro] at hr
   simp only [List.mem_cons, List.not_mem_nil, or_false] at hr
   obtain ⟨g0, p1, ps, e1, e2, k, x, y, b⟩ := h.pre.hd
   have hp1 : m.parts.getD 1 part0 = p1 := by rw [e1]; rfl
   have hp0 : m.parts.getD 0 part0 = g0 := by rw [e1]; rfl
   rw [hp1] at hr
   subst hr
   unfold ropeBad endsV
   have t1 : (ropeG p1 e).b.toNat = 1 := rfl
   have t0 : (ropeG p1 e).a.toNat = 0 := rfl
   dsimp only
   rw [posV_zero, posV_zero, t1, t0, hp1, hp0, e2.hx, e2.hy, b.hx, b.hy]
   by_cases ha : hereB ⟨t, List.replicate m.dofs.length 0, List.replicate m.dofs.length 0, here⟩ (ropeG p1 e).a = false
   ·rw [if_pos ha]
   ·rw [if_neg ha, if_pos (show 0 ≤ (ropeG p1 e).b by show (0 : Int) ≤ 1; decide)]
    by_cases hb : hereB ⟨t, List.replicate m.dofs.length 0, List.replicate m.dofs.length 0, here⟩ (ropeG p1 e).b = false
    ·rw [if_pos hb]
    ·rw [if_neg hb]
     dsimp only
     rw [List.any_eq_false]
     intro d hd
     have hyb := b.yb
     have c1 := List.all_eq_true.1 (List.all_eq_true.1 (List.all_eq_true.1 ropeFits x (by have := b.xb; simp; omega)) y.toNat (by simp; omega)) e (by simp; omega)
     have c2 := List.all_eq_true.1 c1 d hd
     rw [show ((y.toNat : Nat) : Int) = y by omega] at c2
     have h0 : (ropeG p1 e).fx = Rat.divInt x 1 := b.hx
     have h1 : (ropeG p1 e).len = Rat.divInt y 1 + Rat.divInt e 1 := by show p1.hy + _ = _; rw [b.hy]
     rw [h0, h1]
     have h2 : (ropeG p1 e).fy = 0 := rfl
     have h3 : (ropeG p1 e).tx = 0 := rfl
     have h4 : (ropeG p1 e).ty = 0 := rfl
     rw [h2, h3, h4]
     simpa using c2
theorem moves_fit {m : MdlR} (h : GenM m) (l : List Int) : ∀ i, fitV m (movesK m l i) = 0
 | 0 => by
  show fitV m (st0 m l) = 0
  unfold st0
  split
  ·exact fit_start h _ _
  ·exact fit_start h _ _
 | i + 1 => by
  show fitV m (moveS m l i (movesK m l i)) = 0
  have ih := moves_fit h l i
  unfold moveS
  split
  ·split
   ·assumption
   ·exact ih
  ·exact ih
theorem fit_v {m : MdlR} {s : StaR} {v : List Rat} (h : fitV m s = 0) (hv : ∀ i, i < m.dofs.length → (liveV m s.here).getD i false = false → v.getD i 0 = 0) : fitV m { s with v := v } = 0 := by
 obtain ⟨h1, h2, h3, h4⟩ := (fit_iff _ _).1 h
 refine (fit_iff _ _).2 ⟨fun i hi => ?_, h2, h3, h4⟩
 show (!(liveV m s.here).getD i false && !decide (cmpQ (v.getD i 0) 0 = 0)) = false
 cases hl : (liveV m s.here).getD i false with
 | true => rfl
 | false => rw [hv i hi hl, cmpQ_self]; rfl
theorem cmpQ_zero {x : Rat} (h : cmpQ x 0 = 0) : x = 0 := by
 unfold cmpQ at h
 split at h
 ·simp at h
 ·rename_i h1
  split at h
  ·simp at h
  ·rename_i h2
   exact Rat.le_antisymm (Rat.not_lt.1 h2) (Rat.not_lt.1 h1)
theorem fit_vz {m : MdlR} {s : StaR} (h : fitV m s = 0) {i : Nat} (hi : i < m.dofs.length) (hl : (liveV m s.here).getD i false = false) : s.v.getD i 0 = 0 := by
 have := ((fit_iff _ _).1 h).1 i hi
 unfold velBad at this
 rw [hl] at this
 simp only [Bool.not_false, Bool.true_and, Bool.not_eq_false', decide_eq_true_eq] at this
 exact cmpQ_zero this
theorem vels_eq (m : MdlR) (l : List Int) (s : StaR) : ∀ i, ∃ v, velsK m l s i = { s with v := v } ∧ ∀ k, (liveV m s.here).getD k false = false → v.getD k 0 = s.v.getD k 0
 | 0 => ⟨s.v, rfl, fun _ _ => rfl⟩
 | i + 1 => by
  obtain ⟨v, h1, h2⟩ := vels_eq m l s i
  show ∃ v, velS (liveV m s.here) l i (velsK m l s i) = _ ∧ _
  unfold velS
  rw [h1]
  split
  ·rename_i hc
   refine ⟨v.set i (Rat.divInt (atN l (3 + 2 * i) 20 - 5) 4), rfl, fun k hk => ?_⟩
   rw [← h2 k hk, List.getD_eq_getElem?_getD, List.getD_eq_getElem?_getD, List.getElem?_set_ne]
   rintro rfl
   rw [hc.1] at hk; cases hk
  ·exact ⟨v, rfl, h2⟩
theorem state_fit {m : MdlR} (h : GenM m) (l : List Int) : fitV m (stateV m l) = 0 := by
 have h1 := moves_fit h l m.dofs.length
 obtain ⟨v, h2, h3⟩ := vels_eq m l (movesK m l m.dofs.length) m.dofs.length
 unfold stateV
 rw [h2]
 refine fit_v h1 fun i hi hl => ?_
 rw [h3 i hl]
 exact fit_vz h1 hi hl
theorem good_stateV {m : MdlR} (h : GenM m) (l : List Int) : GoodS m (stateV m l) 1 := (good_vels (by omega) (good_moves (l := l) (by omega) m.dofs.length) m.dofs.length).1
theorem tick_stateV (m : MdlR) (l : List Int) : (stateV m l).tick = atN l 0 9 := by
 obtain ⟨v, h2, _⟩ := vels_eq m l (movesK m l m.dofs.length) m.dofs.length
 unfold stateV
 rw [h2]
 exact moves_tick m l _
def below (a b : List Bool) : Prop := ∀ i : Nat, a.getD i false = true → b.getD i false = true
theorem below_set (l : List Bool) (i : Nat) : below (l.set i false) l := by
 intro k hk
 rw [List.getD_eq_getElem?_getD, List.getElem?_set] at hk
 rw [List.getD_eq_getElem?_getD]
 split at hk
 ·split at hk <;> simp at hk
 ·exact hk
theorem lvFs_get (h : Bool) (k : Nat) : ∀ (cols : List ColR) (o : List Bool), (cols.foldl (lvF h) o).getD k false = true ↔ o.getD k false = true ∨ (h = true ∧ k < o.length ∧ ∃ c ∈ cols, c.dof.toNat = k)
 | [], o => by simp
 | c :: cs, o => by
  rw [List.foldl_cons, lvFs_get h k cs (lvF h o c), lvF_len]
  unfold lvF
  cases h with
  | false => simp
  | true =>
   simp only [if_true, true_and, List.mem_cons]
   rw [List.getD_eq_getElem?_getD, List.getElem?_set, List.getD_eq_getElem?_getD]
   by_cases hk : c.dof.toNat = k
   ·subst hk
    by_cases hl : c.dof.toNat < o.length
    ·simp [hl]
    ·simp [hl]
   ·rw [if_neg hk]
    constructor
    ·rintro (h1 | ⟨h1, c', h2, h3⟩)
     ·exact .inl h1
     ·exact .inr ⟨h1, c', .inr h2, h3⟩
    ·rintro (h1 | ⟨h1, c', h2 | h2, h3⟩)
     ·exact .inl h1
     ·subst h2; exact absurd h3 hk
     ·exact .inr ⟨h1, c', h2, h3⟩
theorem lvPs_get (k : Nat) : ∀ (zs : List (PartR × Bool)) (o : List Bool), (zs.foldl lvP o).getD k false = true ↔ o.getD k false = true ∨ (k < o.length ∧ ∃ z ∈ zs, z.2 = true ∧ ∃ c ∈ z.1.cols, c.dof.toNat = k)
 | [], o => by simp
 | z :: zs, o => by
  rw [List.foldl_cons, lvPs_get k zs (lvP o z)]
  unfold lvP
  rw [lvFs_get, lvFs_len]
  constructor
  ·rintro ((h1 | ⟨h1, h2, c, h3, h4⟩) | ⟨h1, z', h2, h3, h4⟩)
   ·exact .inl h1
   ·exact .inr ⟨h2, z, by simp, h1, c, h3, h4⟩
   ·exact .inr ⟨h1, z', by simp [h2], h3, h4⟩
  ·rintro (h1 | ⟨h1, z', h2, h3, h4⟩)
   ·exact .inl (.inl h1)
   ·rcases List.mem_cons.1 h2 with rfl | h2
    ·obtain ⟨c, h5, h6⟩ := h4
     exact .inl (.inr ⟨h3, h1, c, h5, h6⟩)
    ·exact .inr ⟨h1, z', h2, h3, h4⟩
theorem zip_get {α β : Type} {l : List α} {l' : List β} {z : α × β} (h : z ∈ l.zip l') : ∃ i : Nat, l[i]? = some z.1 ∧ l'[i]? = some z.2 := by
 obtain ⟨i, hi⟩ := List.mem_iff_getElem?.1 h
 rw [List.getElem?_zip_eq_some] at hi
 exact ⟨i, hi.1, hi.2⟩
theorem live_below {m : MdlR} {a b : List Bool} (h : below a b) : below (liveV m a) (liveV m b) := by
 intro k hk
 unfold liveV at hk ⊢
 rw [lvPs_get] at hk ⊢
 rcases hk with hk | ⟨h1, z, h2, h3, h4⟩
 ·exact .inl hk
 ·right
  obtain ⟨i, g1, g2⟩ := zip_get h2
  have hb : b[i]? = some true := by
   have := h i (by rw [List.getD_eq_getElem?_getD, g2, h3]; rfl)
   rw [List.getD_eq_getElem?_getD] at this
   cases hb : b[i]? with
   | none => rw [hb] at this; simp at this
   | some x => rw [hb] at this; simpa using this
  exact ⟨h1, (z.1, true), List.mem_iff_getElem?.2 ⟨i, List.getElem?_zip_eq_some.2 ⟨g1, hb⟩⟩, rfl, h4⟩
theorem pairOk_below {m : MdlR} {a b : List Bool} (h : below a b) {i j : Nat} (hp : pairOk m a i j = true) : pairOk m b i j = true := by
 unfold pairOk at hp ⊢
 simp only [Bool.and_eq_true] at hp ⊢
 exact ⟨⟨h i hp.1.1, h j hp.1.2⟩, hp.2⟩
theorem rowV_sub {m : MdlR} {a b : List Bool} (h : below a b) (i : Nat) : ∀ k, (rowV m a i k).Sublist (rowV m b i k)
 | 0 => List.Sublist.slnil
 | k + 1 => by
  unfold rowV
  refine (rowV_sub h i k).append ?_
  split
  ·rename_i hp
   rw [if_pos (pairOk_below h hp)]
   exact List.Sublist.refl _
  ·exact List.nil_sublist _
theorem pairsK_sub {m : MdlR} {a b : List Bool} (h : below a b) : ∀ k, (pairsK m a k).Sublist (pairsK m b k)
 | 0 => List.Sublist.slnil
 | k + 1 => by
  unfold pairsK
  exact (pairsK_sub h k).append (rowV_sub h k _)
theorem pairsV_sub {m : MdlR} {a b : List Bool} (h : below a b) : (pairsV m a).Sublist (pairsV m b) := pairsK_sub h _
theorem fit_below {m : MdlR} {s : StaR} {here : List Bool} {v : List Rat} (hb : below here s.here) (h : fitV m s = 0) (hv : ∀ i, i < m.dofs.length → (liveV m here).getD i false = false → v.getD i 0 = 0) : fitV m ⟨s.tick, s.q, v, here⟩ = 0 := by
 obtain ⟨h1, h2, h3, h4⟩ := (fit_iff _ _).1 h
 refine (fit_iff _ _).2 ⟨fun i hi => ?_, fun x hx => h2 x ((pairsV_sub hb).subset hx), fun i hi => ?_, fun r hr => ?_⟩
 ·show (!(liveV m here).getD i false && !decide (cmpQ (v.getD i 0) 0 = 0)) = false
  cases hl : (liveV m here).getD i false with
  | true => rfl
  | false => rw [hv i hi hl, cmpQ_self]; rfl
 ·have := h3 i hi
  unfold dofBad at this ⊢
  dsimp only at this ⊢
  cases hl : (liveV m here).getD i false with
  | true => rwa [live_below hb i hl] at this
  | false => simp
 ·have := h4 r hr
  have hh : ∀ i, hereB ⟨s.tick, s.q, v, here⟩ i = true → hereB s i = true := fun i hi => hb _ hi
  unfold ropeBad at this ⊢
  have he : endsV m ⟨s.tick, s.q, v, here⟩ r = none ∨ endsV m ⟨s.tick, s.q, v, here⟩ r = endsV m s r := by
   unfold endsV
   cases ha : hereB ⟨s.tick, s.q, v, here⟩ r.a with
   | false => exact .inl (if_pos rfl)
   | true =>
    rw [hh _ ha]
    simp only [Bool.true_eq_false, if_false]
    by_cases hrb : 0 ≤ r.b
    ·simp only [hrb, if_true]
     cases hc : hereB ⟨s.tick, s.q, v, here⟩ r.b with
     | false => left; simp only [if_true]
     | true => right; rw [hh _ hc]
    ·right; simp only [hrb, if_false]
  rcases he with he | he
  ·rw [he]
  ·rw [he]; exact this
def zerK (live : List Bool) (v : List Rat) : Nat → List Rat
 | 0 => v
 | i + 1 => if live.getD i false = true then zerK live v i else (zerK live v i).set i 0
theorem zerK_len (live : List Bool) (v : List Rat) : ∀ i, (zerK live v i).length = v.length
 | 0 => rfl
 | i + 1 => by
  unfold zerK
  split
  ·exact zerK_len live v i
  ·rw [List.length_set]; exact zerK_len live v i
theorem zerK_get (live : List Bool) (v : List Rat) : ∀ i k, k < i → live.getD k false = false → (zerK live v i).getD k 0 = 0
 | 0, k, h, _ => by omega
 | i + 1, k, h, hl => by
  unfold zerK
  by_cases hk : k = i
  ·subst hk
   rw [if_neg (by rw [hl]; simp), List.getD_eq_getElem?_getD, List.getElem?_set]
   rw [if_pos rfl]
   split <;> rfl
  ·have ih := zerK_get live v i k (by omega) hl
   split
   ·exact ih
   ·rw [List.getD_eq_getElem?_getD, List.getElem?_set_ne (by omega), ← List.getD_eq_getElem?_getD]; exact ih
theorem zerK_rs (live : List Bool) {v : List Rat} {N : Nat} (hN : 1 ≤ N) (h : ∀ x ∈ v, RS x N) : ∀ i, ∀ x ∈ zerK live v i, RS x N
 | 0 => h
 | i + 1 => by
  unfold zerK
  split
  ·exact zerK_rs live hN h i
  ·exact set_rs (zerK_rs live hN h i) i (rs_zero.mono hN)
end Go.Proofs.YtenhjccadhlgoaaGreat.Abs
