/-
  From what the interpreter answers to the given rows: arguments that are slices of whole numbers and whole numbers. No conditions. Package model: Fit. No conditions. The shapes of the generator of models: valid, and of the same sides in the program and in the reference model. No conditions. gantrylaw15.lives. No conditions. gantrylaw15.lives: its walk. No conditions. Packages convex and gantryref12: Valid, of any list of corners. No conditions. Package gantryref12: Valid, of any list of corners. No conditions. Package gantryref15: dof, from, part. No conditions. Package gantryref15: part. No conditions. Packages convex and gantryref12: Normal, of the directions that occur. No conditions. Package gantryref15: rope. No conditions.
-/
import Derived.Test.YtenhjccadhlgoaaGreatQ19
import Derived.Test.YtenhjccadhlgoaaGreatQ07
import Derived.Test.YtenhjccadhlgoaaGreatRows
import Derived.ProofKit
import Derived.LaidMore
import Derived.OpenShut
import Derived.SizedLaws
import Derived.ChangeBears2
import Derived.Stop.Joined
import Derived.Test.YtenhjccadhlgoaaGreatQ08
import Derived.Test.YtenhjccadhlgoaaGreatQ06
import Derived.Test.YtenhjccadhlgoaaGreatQ09
set_option linter.unusedSimpArgs false
set_option linter.unusedVariables false
set_option maxRecDepth 100000
set_option maxHeartbeats 16000000
section
set_option maxRecDepth 100000
namespace Go.Proofs.YtenhjccadhlgoaaGreat.Abs
open Go Go.ChangeShapes Go.WideShapes Go.ChangeAt Go.RowKit
inductive Arg where
 | s (l : List Int)
 | i (n : Int)
 | b (l : List Int)
 | u (n : Int)
def Arg.ty : Arg → TypeId
 | .s _ => 22
 | .i _ => 3
 | .b _ => 72
 | .u _ => 5
def Arg.av : Arg → AV
 | .s l => isl l
 | .i n => .int .i64 n
 | .b l => bsl l
 | .u n => .int .u8 n
def Arg.ok : Arg → Prop
 | .s l => okI l ∧ l.length < 2 ^ 60
 | .i n => ok64 n
 | .b l => okb l ∧ l.length < 2 ^ 60
 | .u n => 0 ≤ n ∧ n < 256
def tyOk (t : TypeId) : Prop := t = 22 ∨ t = 3 ∨ t = 72 ∨ t = 5
abbrev noW : Nat → Prop := fun _ => False
noncomputable abbrev PR : Program := Tryz.prog
theorem cellsInt : PR.cellsOf 3 = 1 := by kernel_rfl
theorem bytesInt : PR.bytesOf 3 = 8 := by kernel_rfl
theorem cellsByte : PR.cellsOf 5 = 1 := by kernel_rfl
theorem bytesByte : PR.bytesOf 5 = 1 := by kernel_rfl
theorem laidOut : laidOutB PR = true := by kernel_rfl
def Fits {H : Type} (t : TypeId) (d : DataW H) : Prop := ∀ elems spare e, d = .slice elems spare → PR.underlying t = some (.slice e) → (elems.length + spare.length) * PR.bytesOf e ≤ reachBytes
theorem open_sl {H : Type} {enc : TypeId × Value → H} {W : World} {base : Nat} {sp : Nat → Bool} {t e : TypeId} {k : IntKind} {v : Value} {d : DataW H} {p : List MemPlace} (hu : PR.underlying t = some (.slice e)) (he : PR.underlying e = some (.int k)) (hc1 : PR.cellsOf e = 1) (hb1 : 1 ≤ PR.bytesOf e)
  (hval : Value.okWide PR W .any base t v) (h0 : DataW.Trod enc PR W 0 sp true t v d p) (hf : Fits t d) :
  ∃ l : List Int, (∀ x ∈ l, (Lit.int k x).wf = true) ∧ l.length < 2 ^ 60 ∧ Rep W noW noMu v (.ro (l.map (.int k)) l.length false) := by
 obtain ⟨a0, len, cap, rfl⟩ := okWide_slice hu hval
 obtain ⟨fuel, h0⟩ := h0
 rcases open_ints hu he hc1 h0 with ⟨hcs, hx⟩ | ⟨a, len', cap', zs, hcs, _, hl, hm, hz, hx, hcell, hwz⟩
 ·simp [Value.cells] at hcs
  obtain ⟨rfl, rfl, rfl⟩ := hcs
  exact ⟨[], by simp, by simp, .ro0 _ _ _ _ (by simp)⟩
 ·simp [Value.cells] at hcs
  obtain ⟨rfl, rfl, rfl⟩ := hcs
  have hlz : len ≤ zs.length := by rw [hz]; split <;> omega
  have hbig : len ≤ reachBytes := by
   simp only [Prod.mk.injEq] at hx
   have := hf _ _ _ hx.1 hu
   simp only [lits, List.length_map, List.length_take, List.length_drop] at this
   have h2 := Nat.mul_le_mul_left (min len zs.length + (zs.length - len)) hb1
   omega
  have hlen : (zs.take len).length = len := by rw [List.length_take]; omega
  refine ⟨zs.take len, fun x hx => hwz x (List.mem_of_mem_take hx), by rw [hlen]; unfold reachBytes at hbig; omega, ?_⟩
  rw [hlen]
  by_cases h0 : len = 0
  ·subst h0
   rw [List.take_zero]
   exact .ro0 _ _ _ _ (by simp)
  ·obtain ⟨B, o, spot⟩ := a
   have hspot : spot = none := by simpa [Addr.add] using World.cell?_spot (hcell 0 (by omega))
   subst hspot
   have hc : ∀ i, i < len → W.cell? ⟨B, o + i, none⟩ = some (.int k (zs.getD i 0)) := fun i hi => by
    rw [← add_plain]; exact hcell i (by omega)
   have hB : B < W.heap.size := by
    have := hc 0 (by omega)
    unfold World.cell? at this
    simp only at this
    rcases Nat.lt_or_ge B W.heap.size with h | h
    ·exact h
    ·rw [Array.getElem?_eq_none h] at this; simp at this
   have hg : ∀ i x, ((zs.take len).map (AV.int k))[i]? = some x → i < len ∧ x = .int k (zs.getD i 0) := by
    intro i x hx
    rw [List.getElem?_map, List.getElem?_take] at hx
    split at hx
    ·rename_i hi
     refine ⟨hi, ?_⟩
     rw [List.getElem?_eq_getElem (by omega)] at hx
     injection hx with hx
     rw [← hx, List.getD_eq_getElem?_getD, List.getElem?_eq_getElem (by omega)]; rfl
    ·simp at hx
   refine .ro _ B o len cap _ false (fun i => .int k (zs.getD i 0)) hB (fun h => h) hl (by simp) (fun i x hx => hc i (hg i x hx).1) (fun i x hx => ?_) (fun i x hx => ?_)
   ·rw [(hg i x hx).2]; exact .int _ _ _
   ·rw [(hg i x hx).2]; rfl
theorem open_arg {H : Type} {enc : TypeId × Value → H} {W : World} {base : Nat} {sp : Nat → Bool} {t : TypeId} {v : Value} {d : DataW H} {p : List MemPlace} (ht : tyOk t) (hval : Value.okWide PR W .any base t v) (h0 : DataW.Trod enc PR W 0 sp true t v d p) (hf : Fits t d) :
  ∃ a : Arg, a.ty = t ∧ a.ok ∧ Rep W noW noMu v a.av := by
 rcases ht with rfl | rfl | rfl | rfl
 ·obtain ⟨l, h1, h2, h3⟩ := open_sl Tryz.underlying22 Tryz.underlying3 cellsInt (by rw [bytesInt]; decide) hval h0 hf
  refine ⟨.s l, rfl, ⟨fun x hx => ?_, h2⟩, h3⟩
  have := bounds_i64 (h1 x hx)
  exact ⟨by omega, by omega⟩
 ·obtain ⟨n, rfl, rfl, _, hw⟩ := open_int Tryz.underlying3 hval h0
  have := bounds_i64 hw
  exact ⟨.i n, rfl, ⟨by omega, by omega⟩, .int _ _ _⟩
 ·obtain ⟨l, h1, h2, h3⟩ := open_sl Tryz.underlying72 Tryz.underlying5 cellsByte (by rw [bytesByte]; decide) hval h0 hf
  refine ⟨.b l, rfl, ⟨fun x hx => ?_, h2⟩, h3⟩
  have := bounds_u8 (h1 x hx)
  exact ⟨by omega, by omega⟩
 ·obtain ⟨n, rfl, rfl, _, hw⟩ := open_int Tryz.underlying5 hval h0
  have := bounds_u8 hw
  exact ⟨.u n, rfl, ⟨by omega, by omega⟩, .int _ _ _⟩
theorem open_args {H : Type} {enc : TypeId × Value → H} {W : World} {base : Nat} {sp : Nat → Bool} : ∀ (ts : List TypeId) (vs : List Value) (ds : List (DataW H)) (p : List MemPlace), (∀ t ∈ ts, tyOk t) →
  (∀ (j : Nat) t v, ts[j]? = some t → vs[j]? = some v → Value.okWide PR W .any base t v) → (∀ (j : Nat) t d, ts[j]? = some t → ds[j]? = some d → Fits t d) → DataW.TrodAll enc PR W 0 sp true ts vs ds p →
  ∃ bs : List Arg, bs.map Arg.ty = ts ∧ (∀ a ∈ bs, a.ok) ∧ vs.length = bs.length ∧ ∀ (i : Nat) v a, vs[i]? = some v → bs[i]? = some a → Rep W noW noMu v a.av
 | [], vs, ds, p, _, _, _, h => by
  obtain ⟨rfl, rfl, rfl⟩ := trodAll_nil h
  exact ⟨[], rfl, by simp, rfl, by simp⟩
 | t :: ts, vs, ds, p, ht, hv, hf, h => by
  obtain ⟨v, vs', d, ds', p1, q, rfl, rfl, rfl, hd, hrest⟩ := trodAll_cons h
  obtain ⟨a, a1, a2, a3⟩ := open_arg (ht t (by simp)) (hv 0 t v rfl rfl) hd (hf 0 t d rfl rfl)
  obtain ⟨bs, b1, b2, b3, b4⟩ := open_args ts vs' ds' q (fun t ht' => ht t (by simp [ht'])) (fun j t v h1 h2 => hv (j + 1) t v h1 h2) (fun j t d h1 h2 => hf (j + 1) t d h1 h2) hrest
  refine ⟨a :: bs, by simp [a1, b1], fun x hx => ?_, by simp [b3], fun i v' a' hv' ha' => ?_⟩
  ·simp only [List.mem_cons] at hx
   rcases hx with rfl | hx
   ·exact a2
   ·exact b2 x hx
  ·match i with
   | 0 => simp at hv' ha'; subst hv'; subst ha'; exact a3
   | i + 1 => exact b4 i v' a' (by simpa using hv') (by simpa using ha')
theorem trodAll_below {H : Type} {enc : TypeId × Value → H} {W W' : World} (hB : Below W.heap.size W W') : ∀ (ts : List TypeId) (vs : List Value) (ds : List (DataW H)) (p : List MemPlace), (∀ t ∈ ts, PR.readableRec t = true ∧ t < PR.types.size) → DataW.TrodAll enc PR W 0 (fun _ => true) true ts vs ds p → (∀ x ∈ p, x.block < W.heap.size) →
  DataW.TrodAll enc PR W' 0 (fun b => decide (b < W.heap.size)) true ts vs ds p
 | [], vs, ds, p, _, h, _ => by
  obtain ⟨rfl, rfl, rfl⟩ := trodAll_nil h
  rfl
 | t :: ts, vs, ds, p, hr, h, hlt => by
  obtain ⟨v, vs', d, ds', p1, q, rfl, rfl, rfl, hd, hrest⟩ := trodAll_cons h
  exact ⟨p1, q, Below.trod laidOut (hr t (by simp)).1 (hr t (by simp)).2 hd hB (fun x hx => hlt x (by simp [hx])), trodAll_below hB ts vs' ds' q (fun t ht => hr t (by simp [ht])) hrest (fun x hx => hlt x (by simp [hx])), rfl⟩
theorem own : ownKnob PR.godebug = none := by kernel_rfl
theorem starts {W : World} {vals : Array Value} {bs : List Arg} (hlen : vals.toList.length = bs.length) (hr : ∀ (i : Nat) v a, vals.toList[i]? = some v → bs[i]? = some a → Rep W noW noMu v a.av) : Starts (@X spc1) W vals (bs.map Arg.av) := by
 refine ⟨fun g cs hg => ?_, by simpa using hlen, fun i v a hv ha => ?_⟩
 ·have hg : (none : Option (List AV)) = some cs := hg
  cases hg
 ·rw [List.getElem?_map] at ha
  obtain ⟨b, hb, rfl⟩ := Option.map_eq_some_iff.1 ha
  exact hr i v b (by simpa using hv) hb
def Law (F : Nat) (ts : List TypeId) : Prop := ∀ bs : List Arg, bs.map Arg.ty = ts → (∀ a ∈ bs, a.ok) → @M (@X spc1) F (bs.map Arg.av) = some (.bool true)
theorem contract_law {H : Type} {enc : TypeId × Value → H} {s : ChangeSpec} {F : Nat} {fn : Func} {ts : List TypeId} {conds : List PathCond} (hp : fn.params.toList = ts) (hts : ∀ t ∈ ts, tyOk t) (hrt : fn.resultTypes = #[4]) (hv : s.vars = [])
  (hs : ∀ ds : List (DataW H), ds.length = ts.length → s.fn H ds = { results := [.lit (.bool true)], args := ds }) (hM : Law F ts) (hns : (@X spc1).mode F = .ro)
  (W : World) (base : Nat) (args : Array Value) (ds gs : List (DataW H)) (before : List MemPlace)
  (hval : ∀ (j : Nat) t v, fn.params[j]? = some t → args[j]? = some v → Value.okWide PR W .any base t v)
  (hW : DataW.Whole enc PR fn.params.toList s.vars false W args.toList ds gs before)
  (_ : conds.all (PathCond.test PR ⟨fn.params.toList, ds, s.plain.varTypes PR, gs⟩) = true)
  (hsz : (DataW.weightsEach PR (fn.params.toList ++ s.plain.varTypes PR) (ds ++ gs)).all (· ≤ reachBytes) = true) {Q : Prop} (_ : Q) :
  Calls PR F args W fun e W' => ∃ v, e = .returned v ∧ s.post enc PR fn false true false false W args v W' := by
 have hW' := hW
 obtain ⟨p, q, hA, hV, rfl, hfz, hnd⟩ := hW
 rw [hp] at hA hsz
 have hV0 : gs = [] ∧ q = [] := by
  rw [hv] at hV
  cases gs with
  | nil => exact ⟨rfl, hV⟩
  | cons g gs => exact hV.elim
 obtain ⟨rfl, rfl⟩ := hV0
 have hdl : ds.length = ts.length := by
  clear hsz hW' hval hfz hnd
  revert hA
  generalize args.toList = vs
  have : ∀ (ts : List TypeId) (vs : List Value) (ds : List (DataW H)) (p : List MemPlace), DataW.TrodAll enc PR W 0 (fun _ => true) true ts vs ds p → ds.length = ts.length := by
   intro ts
   induction ts with
   | nil => intro vs ds p h; obtain ⟨rfl, rfl, rfl⟩ := trodAll_nil h; rfl
   | cons t ts ih =>
    intro vs ds p h
    obtain ⟨v, vs', d, ds', p1, q, rfl, rfl, rfl, hd, hrest⟩ := trodAll_cons h
    simp [ih _ _ _ hrest]
  exact this ts vs ds p
 have hfn := hs ds hdl
 obtain ⟨bs, b1, b2, b3, b4⟩ := open_args ts args.toList ds p hts (fun j t v h1 h2 => hval j t v (by rw [← hp] at h1; simpa using h1) (by simpa using h2)) (fun j t d h1 h2 elems spare e hd hu => by
   subst hd
   refine sized_slice hsz (j := j) (t := t) (e := e) ?_ ?_ hu
   ·rw [List.getElem?_append_left (List.getElem?_eq_some_iff.1 h1).1]; exact h1
   ·rw [List.getElem?_append_left (List.getElem?_eq_some_iff.1 h2).1]; exact h2) hA
 refine (sound (@mixed spc1) sp1 (by rw [hns]; rfl) (hM bs b1 b2) rfl (starts b3 b4)).mono ?_
 rintro e W1 ⟨u, rfl, hu, hB⟩
 obtain rfl : u = .bool true := by cases hu; rfl
 have hlt : ∀ x ∈ p, x.block < W.heap.size := fun x hx => by simpa using hW'.lt x (List.mem_append_left _ hx)
 refine ⟨_, rfl, ds, [], p ++ [], [], p, [], hW', ?_, ?_, ?_, hB.frame _, fun h => by cases h⟩
 ·rw [List.append_nil, hfn, hrt]; exact trodAll_mk1 (shut_bool Tryz.underlying4 _)
 ·rw [List.append_nil, hfn, hp]
  exact trodAll_below hB ts _ _ _ (fun t ht => by rcases hts t ht with rfl | rfl | rfl | rfl <;> exact ⟨by kernel_rfl, of_decide_eq_true (by kernel_rfl)⟩) hA hlt
 ·rw [List.append_nil, hfn, hv]; rfl
end Go.Proofs.YtenhjccadhlgoaaGreat.Abs
end
namespace Go.Proofs.YtenhjccadhlgoaaGreat.Abs
open Go
def SameSides (m : MdlR) : Prop := ∀ p ∈ m.parts, ∀ q ∈ m.parts, sidesV p.shape q.shape = sidesR p.shape q.shape
theorem M_pairs [SpC] {args : List AV} {r : AV} (h : SpC.spec 18 args = some r) : M X 18 args = some r := by
 unfold M pureCall; rw [mode_18]; exact h
theorem ppair_facts [SpC] {m : MdlR} {s : StaR} {N : Nat} (hg : GoodM m N) (hs : GoodS m s N) (hN : N < 2 ^ 10) (hss : SameSides m) {x : Pt} (hx : x ∈ pairsV m s.here) :
  ∃ (sa sb : List Pt) (pa pb : Rat × Rat) (rx ry : Rat) (es : List Ed), (0 ≤ x.1 ∧ x.1 < m.parts.length) ∧ (0 ≤ x.2 ∧ x.2 < m.parts.length) ∧
   (∃ qa, m.parts[x.1.toNat]? = some qa ∧ qa.shape = sa) ∧ (∃ qb, m.parts[x.2.toNat]? = some qb ∧ qb.shape = sb) ∧
   M X 22 [.agg (mdlA m), .ro (cat ratA s.q) s.q.length false, .int .i64 x.1] = some (.agg [zS (Rat.num (pa.1)), zD (Rat.num (pa.1)), zS (dz (pa.1)), zD (dz (pa.1)), zS (Rat.num (pa.2)), zD (Rat.num (pa.2)), zS (dz (pa.2)), zD (dz (pa.2))]) ∧ M X 22 [.agg (mdlA m), .ro (cat ratA s.q) s.q.length false, .int .i64 x.2] = some (.agg [zS (Rat.num (pb.1)), zD (Rat.num (pb.1)), zS (dz (pb.1)), zD (dz (pb.1)), zS (Rat.num (pb.2)), zD (Rat.num (pb.2)), zS (dz (pb.2)), zD (dz (pb.2))]) ∧
   M X 72 [.agg [zS (Rat.num (pb.1)), zD (Rat.num (pb.1)), zS (dz (pb.1)), zD (dz (pb.1)), zS (Rat.num (pb.2)), zD (Rat.num (pb.2)), zS (dz (pb.2)), zD (dz (pb.2))], .agg [zS (Rat.num (pa.1)), zD (Rat.num (pa.1)), zS (dz (pa.1)), zD (dz (pa.1)), zS (Rat.num (pa.2)), zD (Rat.num (pa.2)), zS (dz (pa.2)), zD (dz (pa.2))]] = some (.agg [zS (Rat.num (rx)), zD (Rat.num (rx)), zS (dz (rx)), zD (dz (rx)), zS (Rat.num (ry)), zD (Rat.num (ry)), zS (dz (ry)), zD (dz (ry))]) ∧
   M X 71 [.ro (ptC sa) sa.length false, .ro (ptC sb) sb.length false] = some (.ro (edC es) es.length false) ∧
   M X 70 [.ro (edC es) es.length false, .agg [zS (Rat.num (rx)), zD (Rat.num (rx)), zS (dz (rx)), zD (dz (rx)), zS (Rat.num (ry)), zD (Rat.num (ry)), zS (dz (ry)), zD (dz (ry))]] = some (.bool (meetV m s x)) := by
 obtain ⟨h1, h2, h3⟩ := pairsV_mem hx
 have ga := getD_some (l := m.parts) (i := x.1.toNat) (by omega) part0
 have gb := getD_some (l := m.parts) (i := x.2.toNat) (by omega) part0
 have oa := hg.part _ (List.mem_of_getElem? ga)
 have ob := hg.part _ (List.mem_of_getElem? gb)
 obtain ⟨r1, r2⟩ := posV_rs hg hs hN (i := x.1) ⟨by omega, by omega⟩
 obtain ⟨r3, r4⟩ := posV_rs hg hs hN (i := x.2) ⟨by omega, by omega⟩
 have l1 := oa.sl
 have l2 := ob.sl
 have cs := M_71 _ _ oa.pts ob.pts oa.s0 ob.s0 (by omega) (by omega)
 rw [hss _ (List.mem_of_getElem? ga) _ (List.mem_of_getElem? gb)] at cs
 refine ⟨_, _, posV m s.q x.1, posV m s.q x.2, (posV m s.q x.2).1 - (posV m s.q x.1).1, (posV m s.q x.2).2 - (posV m s.q x.1).2, sidesR (shapeAt m x.1) (shapeAt m x.2), ⟨by omega, by omega⟩, ⟨by omega, by omega⟩, ⟨_, ga, rfl⟩, ⟨_, gb, rfl⟩,
  at_posm hg hs hN ⟨by omega, by omega⟩, at_posm hg hs hN ⟨by omega, by omega⟩, M_72 (by omega),
  cs, ?_⟩
 have hl := sidesR_len (shapeAt m x.1) (shapeAt m x.2)
 exact M_70 _ (by unfold shapeAt at hl; omega) (sidesR_okE oa.pts ob.pts) (by omega)
theorem M_17 [SpC] (m : MdlR) (s : StaR) (N : Nat) (hg : GoodM m N) (hs : GoodS m s N) (hN : N < 2 ^ 10) (ht : 0 ≤ s.tick ∧ s.tick ≤ 1048576) (hss : SameSides m) (hpv : SpC.spec 18 [.agg (mdlA m), .agg (staA s)] = some (pairsA m s)) :
  M X 17 [.agg (mdlA m), .agg (staA s)] = some (.int .i64 (fitV m s)) := by
 refine M_of X (fn := Tryz.f17) Tryz.func17 rfl ok_17 mode_17 res_17 _ rfl _ ?_
 intro r hr
 have h1 := hg.dl
 have h2 := hg.pl
 have h3 := hg.rl
 have h4 := hg.sl
 have hql := hs.ql
 have hvl := hs.vl
 have hhl := hs.hl
 have cq := cat_length (f := ratA) s.q
 have cv := cat_length (f := ratA) s.v
 have ch := cat_length (f := boolA) s.here
 have cd := cat_length (f := dofA) m.dofs
 have cp := cat_length (f := partA) m.parts
 have cr := cat_length (f := ropeA) m.ropes
 have nq := canonical_q s.q N (by omega) hs.q (by omega)
 have nv := canonical_q s.v N (by omega) hs.v (by omega)
 have pv : M X 18 [.agg (mdlA m), .agg (staA s)] = some (.ro (ptC (pairsV m s.here)) (pairsV m s.here).length false) := M_pairs hpv
 have ll := liveV_len m s.here
 have lv := M_16 m s.here s.tick (.ro (cat ratA s.q) s.q.length false) (.ro (cat ratA s.v) s.v.length false) false hg.live hhl
 rw [mdlA_eq] at lv
 have cl := cat_length (f := boolA) (liveV m s.here)
 have pm : ∀ x ∈ pairsV m s.here, x ∈ pairsV m s.here := fun _ h => h
 have cpr := ptC_length (pairsV m s.here)
 have plen : (pairsV m s.here).length < 2 ^ 20 := by
  have := pairsK_len m s.here m.parts.length
  have := Nat.mul_le_mul (show m.parts.length ≤ 1023 by omega) (show m.parts.length ≤ 1023 by omega)
  unfold pairsV; omega
 rw [mdlA_eq, staA_eq] at pv
 unfold fitV at hr
 simp (maxSteps := 4000000) (disch := first | omega | (simp only [LL]; omega)) only [go_sem, mdlA_eq, staA_eq, cq, cv, ch, cd, cp, weaks_cat, weaks_ptC, mode_54, mode_16, nq, nv, lv]
 obtain ⟨L, hL⟩ : ∃ L, L = 416 := ⟨_, rfl⟩
 refine W_loop X (fun (k : Nat) t => k ≤ m.dofs.length ∧ (List.range k).any (velBad m s) = false ∧ t.env 2 = .ptr 0 0 ∧ t.env 3 = .ptr 8 0 ∧ t.env 6 = .sl L 0 m.dofs.length none 1 ∧ L < t.next ∧ t.heap L = some (.cells (cat boolA (liveV m s.here)) true false) ∧ t.env 67 = .ro (cat ratA s.v) s.v.length false ∧ t.env 68 = .int .i64 m.dofs.length ∧ t.env 69 = .int .i64 k ∧ 16 ≤ t.next ∧ t.heap 0 = some (.cells (mdlA m) false false) ∧ t.heap 8 = some (.cells (staA s) false false)) (fun k => m.dofs.length - k) ?_ 0 _ ?_
 ·rintro k ⟨env, heap, nx⟩ ⟨hk, hb, g2, g3, gS, gL, eL, g67, g68, g69, hnx, e0, e8⟩
  simp only at g2 g3 gS gL eL g67 g68 g69 hnx e0 e8
  rw [mdlA_eq] at e0
  rw [staA_eq] at e8
  by_cases hlt : k < m.dofs.length
  ·have hld := cat_drop (f := boolA) (getD_some (l := liveV m s.here) (i := k) (by omega) false)
   rw [boolA_eq] at hld
   simp only [Nat.mul_one] at hld
   have hvk := getD_some (l := s.v) (i := k) (by omega) 0
   have hvd := cat_take (f := ratA) hvk
   rw [ratA_eq] at hvd
   have rv := getD_rs hs.v k (by omega)
   have sg := M_69 (x := s.v.getD k 0)
   have hP : velBad m s k = (!(liveV m s.here).getD k false && !decide (cmpQ (s.v.getD k 0) 0 = 0)) := rfl
   have hsucc := anyR_succ (velBad m s) k
   cases hB : velBad m s k with
   | true =>
    have hany := anyR_hit hlt hB
    rw [if_pos hany] at hr
    rw [hB] at hP
    generalize (liveV m s.here).getD k false = b at *
    generalize s.v.getD k 0 = x at *
    generalize cmpQ x 0 = c at *
    cases b with
    | true => simp at hP
    | false =>
     have hc : c ≠ 0 := by intro h; rw [h] at hP; simp at hP
     simp (maxSteps := 4000000) (disch := first | omega | (simp only [LL]; omega)) only [go_sem, g2, g3, gS, eL, g67, g68, g69, e0, e8, ch, cv, cl, ll, hld, hvd, sg]
     rw [hr]
   | false =>
    rw [hb, hB] at hsucc
    rw [hB] at hP
    generalize (liveV m s.here).getD k false = b at *
    generalize s.v.getD k 0 = x at *
    generalize cmpQ x 0 = c at *
    cases b with
    | true =>
     simp (maxSteps := 4000000) (disch := first | omega | (simp only [LL]; omega)) only [go_sem, g2, g3, gS, eL, g67, g68, g69, e0, e8, ch, cv, cl, ll, hld, hvd, sg]
     refine ⟨k + 1, ?_, by omega⟩
     repeat' apply And.intro
     all_goals first | omega | rfl | exact gL | exact eL | exact hsucc | (rw [mdlA_eq]; done) | (rw [staA_eq]; done)
    | false =>
     have hc : c = 0 := by
      apply Classical.byContradiction; intro h
      rw [decide_eq_false h] at hP; simp at hP
     simp (maxSteps := 4000000) (disch := first | omega | (simp only [LL]; omega)) only [go_sem, g2, g3, gS, eL, g67, g68, g69, e0, e8, ch, cv, cl, ll, hld, hvd, sg]
     refine ⟨k + 1, ?_, by omega⟩
     repeat' apply And.intro
     all_goals first | omega | rfl | exact gL | exact eL | exact hsucc | (rw [mdlA_eq]; done) | (rw [staA_eq]; done)
  ·obtain rfl : k = m.dofs.length := by omega
   rw [if_neg (by rw [hb]; decide)] at hr
   simp (maxSteps := 4000000) (disch := first | omega | (simp only [LL]; omega)) only [go_sem, g2, g3, gS, eL, g67, g68, g69, e0, e8, ch, weaks_cat, weaks_ptC, mode_18, pv]
   refine W_loop X (fun (k : Nat) t => k ≤ (pairsV m s.here).length ∧ ((pairsV m s.here).take k).any (meetV m s) = false ∧ t.env 2 = .ptr 0 0 ∧ t.env 3 = .ptr 8 0 ∧ t.env 6 = .sl L 0 m.dofs.length none 1 ∧ L < t.next ∧ t.heap L = some (.cells (cat boolA (liveV m s.here)) true false) ∧ t.env 87 = .ro (ptC (pairsV m s.here)) (pairsV m s.here).length false ∧ t.env 88 = .int .i64 (pairsV m s.here).length ∧ t.env 89 = .int .i64 k ∧ 16 ≤ t.next ∧ t.heap 0 = some (.cells (mdlA m) false false) ∧ t.heap 8 = some (.cells (staA s) false false)) (fun k => (pairsV m s.here).length - k) ?_ 0 _ ?_
   ·clear hb g2 g3 gS gL eL g67 g68 g69 hnx e0 e8 hk
    rintro k ⟨env, heap, nx⟩ ⟨hk, hb, g2, g3, gS, gL, eL, g87, g88, g89, hnx, e0, e8⟩
    simp only at g2 g3 gS gL eL g87 g88 g89 hnx e0 e8
    rw [mdlA_eq] at e0
    rw [staA_eq] at e8
    by_cases hlt : k < (pairsV m s.here).length
    ·have hgx := getD_some (l := pairsV m s.here) (i := k) hlt (0, 0)
     have hxd := ptC_take (pairsV m s.here) k hlt
     obtain ⟨sa, sb, pa, pb, rx, ry, es, ⟨x1, x2⟩, ⟨x3, x4⟩, ⟨qa, ga, esa⟩, ⟨qb, gb, esb⟩, w1, w2, w3, w4, w5⟩ := ppair_facts hg hs hN hss (List.mem_of_getElem? hgx)
     have hsucc := any_take_succ (meetV m s) hgx
     have hhit := fun h => any_hit (f := meetV m s) hgx h
     have hda := cat_drop (f := partA) ga
     have hdb := cat_drop (f := partA) gb
     rw [partA_eq, esa] at hda
     rw [partA_eq, esb] at hdb
     have esl := edC_length es
     have psa := ptC_length sa
     have psb := ptC_length sb
     rw [mdlA_eq] at w1 w2
     generalize (pairsV m s.here).getD k (0, 0) = x at *
     cases hB : meetV m s x with
     | true =>
      rw [if_pos (hhit hB)] at hr
      rw [hB] at w5
      clear hhit
      simp (maxSteps := 4000000) (disch := first | omega | (simp only [LL]; omega)) only [go_sem, g2, g3, gS, eL, g87, g88, g89, e0, e8, cp, cpr, hxd, hda, hdb, weaks_cat, weaks_ptC, weaks_edC, w1, w2, w3, w4, w5]
      rw [hr]
     | false =>
      rw [hb, hB] at hsucc
      rw [hB] at w5
      clear hhit
      simp (maxSteps := 4000000) (disch := first | omega | (simp only [LL]; omega)) only [go_sem, g2, g3, gS, eL, g87, g88, g89, e0, e8, cp, cpr, hxd, hda, hdb, weaks_cat, weaks_ptC, weaks_edC, w1, w2, w3, w4, w5]
      refine ⟨k + 1, ?_, by omega⟩
      repeat' apply And.intro
      all_goals first | omega | rfl | exact gL | exact eL | exact hsucc | (rw [mdlA_eq]; done) | (rw [staA_eq]; done) | (rw [mdlA_eq, e0]; done) | (rw [staA_eq, e8]; done)
    ·obtain rfl : k = (pairsV m s.here).length := by omega
     rw [List.take_length] at hb
     rw [if_neg (by rw [hb]; decide)] at hr
     clear cpr plen pv pm
     simp (maxSteps := 4000000) (disch := first | omega | (simp only [LL]; omega)) only [go_sem, g2, g3, gS, eL, g87, g88, g89, e0, e8]
     refine W_loop X (fun (k : Nat) t => k ≤ m.dofs.length ∧ (List.range k).any (dofBad m s) = false ∧ t.env 2 = .ptr 0 0 ∧ t.env 3 = .ptr 8 0 ∧ t.env 6 = .sl L 0 m.dofs.length none 1 ∧ L < t.next ∧ t.heap L = some (.cells (cat boolA (liveV m s.here)) true false) ∧ t.env 124 = .ro (cat dofA m.dofs) m.dofs.length false ∧ t.env 125 = .int .i64 m.dofs.length ∧ t.env 126 = .int .i64 k ∧ 16 ≤ t.next ∧ t.heap 0 = some (.cells (mdlA m) false false) ∧ t.heap 8 = some (.cells (staA s) false false)) (fun k => m.dofs.length - k) ?_ 0 _ ?_
     ·clear hb g2 g3 gS gL eL g87 g88 g89 hnx e0 e8 hk
      rintro k ⟨env, heap, nx⟩ ⟨hk, hb, g2, g3, gS, gL, eL, g124, g125, g126, hnx, e0, e8⟩
      simp only at g2 g3 gS gL eL g124 g125 g126 hnx e0 e8
      rw [mdlA_eq] at e0
      rw [staA_eq] at e8
      by_cases hlt : k < m.dofs.length
      ·have hld := cat_drop (f := boolA) (getD_some (l := liveV m s.here) (i := k) (by omega) false)
       rw [boolA_eq] at hld
       simp only [Nat.mul_one] at hld
       have hqd := cat_take (f := ratA) (getD_some (l := s.q) (i := k) (by omega) 0)
       rw [ratA_eq] at hqd
       have hgd := getD_some (l := m.dofs) (i := k) hlt dof0
       have hdd := cat_take (f := dofA) hgd
       rw [dofA_eq] at hdd
       have rq := getD_rs hs.q k (by omega)
       obtain ⟨rl, rh⟩ := hg.dof _ (List.mem_of_getElem? hgd)
       have c1 := M_73 (x := s.q.getD k 0) (y := (m.dofs.getD k dof0).lo) (by omega)
       have c2 := M_73 (x := s.q.getD k 0) (y := (m.dofs.getD k dof0).hi) (by omega)
       have hP : dofBad m s k = (((liveV m s.here).getD k false && (m.dofs.getD k dof0).bd) && (decide (cmpQ (s.q.getD k 0) (m.dofs.getD k dof0).lo < 0) || decide (0 < cmpQ (s.q.getD k 0) (m.dofs.getD k dof0).hi))) := rfl
       have hsucc := anyR_succ (dofBad m s) k
       have hhit := fun h => anyR_hit (P := dofBad m s) hlt h
       generalize (liveV m s.here).getD k false = b at *
       generalize s.q.getD k 0 = x at *
       generalize m.dofs.getD k dof0 = d at *
       generalize cmpQ x d.lo = u at *
       generalize cmpQ x d.hi = v at *
       cases hB : dofBad m s k with
       | true =>
        rw [if_pos (hhit hB)] at hr
        rw [hB] at hP
        clear hhit hsucc
        have hP' := hP.symm
        simp only [Bool.and_eq_true, Bool.or_eq_true, decide_eq_true_eq] at hP'
        obtain ⟨⟨rfl, hbd⟩, huv⟩ := hP'
        by_cases hu : u < 0
        ·simp (maxSteps := 4000000) (disch := first | omega | (simp only [LL]; omega)) only [go_sem, g2, g3, gS, eL, g124, g125, g126, e0, e8, cd, cq, cl, ll, hld, hqd, hdd, hbd, c1, c2]
         rw [hr]
        ·have hv : 0 < v := by omega
         simp (maxSteps := 4000000) (disch := first | omega | (simp only [LL]; omega)) only [go_sem, g2, g3, gS, eL, g124, g125, g126, e0, e8, cd, cq, cl, ll, hld, hqd, hdd, hbd, c1, c2]
         rw [hr]
       | false =>
        rw [hb, hB] at hsucc
        rw [hB] at hP
        clear hhit
        cases b with
        | false =>
         simp (maxSteps := 4000000) (disch := first | omega | (simp only [LL]; omega)) only [go_sem, g2, g3, gS, eL, g124, g125, g126, e0, e8, cd, cq, cl, ll, hld, hqd, hdd, c1, c2]
         refine ⟨k + 1, ?_, by omega⟩
         repeat' apply And.intro
         all_goals first | omega | rfl | exact gL | exact eL | exact hsucc | (rw [mdlA_eq]; done) | (rw [staA_eq]; done) | (rw [mdlA_eq, e0]; done) | (rw [staA_eq, e8]; done)
        | true =>
         cases hbd : d.bd with
         | false =>
          simp (maxSteps := 4000000) (disch := first | omega | (simp only [LL]; omega)) only [go_sem, g2, g3, gS, eL, g124, g125, g126, e0, e8, cd, cq, cl, ll, hld, hqd, hdd, hbd, c1, c2]
          refine ⟨k + 1, ?_, by omega⟩
          repeat' apply And.intro
          all_goals first | omega | rfl | exact gL | exact eL | exact hsucc | (rw [mdlA_eq]; done) | (rw [staA_eq]; done) | (rw [mdlA_eq, e0]; done) | (rw [staA_eq, e8]; done)
         | true =>
          rw [hbd] at hP
          have hP' := hP.symm
          simp only [Bool.and_self, Bool.true_and, Bool.or_eq_false_iff, decide_eq_false_iff_not] at hP'
          obtain ⟨hu, hv⟩ := hP'
          simp (maxSteps := 4000000) (disch := first | omega | (simp only [LL]; omega)) only [go_sem, g2, g3, gS, eL, g124, g125, g126, e0, e8, cd, cq, cl, ll, hld, hqd, hdd, hbd, c1, c2]
          refine ⟨k + 1, ?_, by omega⟩
          repeat' apply And.intro
          all_goals first | omega | rfl | exact gL | exact eL | exact hsucc | (rw [mdlA_eq]; done) | (rw [staA_eq]; done) | (rw [mdlA_eq, e0]; done) | (rw [staA_eq, e8]; done)
      ·obtain rfl : k = m.dofs.length := by omega
       rw [if_neg (by rw [hb]; decide)] at hr
       simp (maxSteps := 4000000) (disch := first | omega | (simp only [LL]; omega)) only [go_sem, g2, g3, gS, eL, g124, g125, g126, e0, e8]
       refine W_loop X (fun (k : Nat) t => k ≤ m.ropes.length ∧ (m.ropes.take k).any (ropeBad m s) = false ∧ t.env 2 = .ptr 0 0 ∧ t.env 3 = .ptr 8 0 ∧ t.env 163 = .ro (cat ropeA m.ropes) m.ropes.length false ∧ t.env 164 = .int .i64 m.ropes.length ∧ t.env 165 = .int .i64 k ∧ 16 ≤ t.next ∧ t.heap 0 = some (.cells (mdlA m) false false) ∧ t.heap 8 = some (.cells (staA s) false false)) (fun k => m.ropes.length - k) ?_ 0 _ ?_
       ·clear hb g2 g3 gS gL eL g124 g125 g126 hnx e0 e8 hk
        rintro k ⟨env, heap, nx⟩ ⟨hk, hb, g2, g3, g163, g164, g165, hnx, e0, e8⟩
        simp only at g2 g3 g163 g164 g165 hnx e0 e8
        rw [mdlA_eq] at e0
        rw [staA_eq] at e8
        by_cases hlt : k < m.ropes.length
        ·have hgr := List.getElem?_eq_getElem hlt
         have hrd := cat_take (f := ropeA) hgr
         have hor := hg.rope _ (List.mem_of_getElem? hgr)
         have w1 := M_74 m s m.ropes[k] N hg hs hN hor
         have hsucc := any_take_succ (ropeBad m s) hgr
         have hhit := fun h => any_hit (f := ropeBad m s) hgr h
         generalize m.ropes[k] = q at *
         rw [mdlA_eq, staA_eq, ropeA_eq] at w1
         rw [ropeA_eq] at hrd
         have cdr := cat_length (f := dirA) q.dirs
         cases hB : ropeBad m s q with
         | true =>
          rw [if_pos (hhit hB)] at hr
          rw [hB] at w1
          clear hhit hsucc
          simp (maxSteps := 4000000) (disch := first | omega | (simp only [LL]; omega)) only [go_sem, g2, g3, g163, g164, g165, e0, e8, cr, hrd, weaks_cat, weaks_ptC, w1]
          rw [hr]
         | false =>
          rw [hb, hB] at hsucc
          rw [hB] at w1
          clear hhit
          simp (maxSteps := 4000000) (disch := first | omega | (simp only [LL]; omega)) only [go_sem, g2, g3, g163, g164, g165, e0, e8, cr, hrd, weaks_cat, weaks_ptC, w1]
          refine ⟨k + 1, ?_, by omega⟩
          repeat' apply And.intro
          all_goals first | omega | rfl | exact hsucc | (rw [mdlA_eq]; done) | (rw [staA_eq]; done) | (rw [mdlA_eq, e0]; done) | (rw [staA_eq, e8]; done) | trace_state
        ·obtain rfl : k = m.ropes.length := by omega
         rw [List.take_length] at hb
         rw [if_neg (by rw [hb]; decide)] at hr
         simp (maxSteps := 4000000) (disch := first | omega | (simp only [LL]; omega)) only [go_sem, g2, g3, g163, g164, g165, e0, e8, cr]
         rw [hr]
       ·simp (maxSteps := 4000000) (disch := first | omega | (simp only [LL]; omega)) only [go_sem, g2, g3]
        repeat' apply And.intro
        all_goals first | omega | rfl | exact gL | exact eL | exact hsucc | (rw [mdlA_eq]; done) | (rw [staA_eq]; done) | (rw [mdlA_eq, e0]; done) | (rw [staA_eq, e8]; done) | trace_state
     ·simp (maxSteps := 4000000) (disch := first | omega | (simp only [LL]; omega)) only [go_sem, g2, g3, gS, eL]
      repeat' apply And.intro
      all_goals first | omega | rfl | exact gL | exact eL | exact hsucc | (rw [mdlA_eq]; done) | (rw [staA_eq]; done) | (rw [mdlA_eq, e0]; done) | (rw [staA_eq, e8]; done) | trace_state
   ·simp (maxSteps := 4000000) (disch := first | omega | (simp only [LL]; omega)) only [go_sem, g2, g3, gS, eL]
    repeat' apply And.intro
    all_goals first | omega | rfl | exact gL | exact eL | exact hsucc | (rw [mdlA_eq]; done) | (rw [staA_eq]; done) | (rw [mdlA_eq, e0]; done) | (rw [staA_eq, e8]; done) | trace_state
 ·subst hL
  simp (maxSteps := 4000000) (disch := first | omega | (simp only [LL]; omega)) only [go_sem]
  repeat' apply And.intro
  all_goals first | omega | rfl | (rw [mdlA_eq]; done) | (rw [staA_eq]; done) | (rw [hvl]; done) | trace_state
def vldB (l : List Pt) : Bool := decide (3 ≤ l.length) && decide (l.length ≤ 8) && l.all (fun p => decide (-1048576 ≤ p.1) && decide (p.1 ≤ 1048576) && decide (-1048576 ≤ p.2) && decide (p.2 ≤ 1048576)) &&
 (List.range l.length).all (fun i => normOk ((ptA l ((i + 1) % l.length)).1 - (ptA l i).1) ((ptA l ((i + 1) % l.length)).2 - (ptA l i).2) &&
  (List.range l.length).all fun k => decide (k = i) || decide (k = (i + 1) % l.length) || decide (0 < crossP (ptA l i) (ptA l ((i + 1) % l.length)) (ptA l k)))
theorem vldP_of {l : List Pt} (h : vldB l = true) : vldP l := by
 unfold vldB at h
 simp only [Bool.and_eq_true, decide_eq_true_eq, List.all_eq_true, List.mem_range, Bool.or_eq_true] at h
 obtain ⟨⟨⟨h1, h2⟩, h3⟩, h4⟩ := h
 refine ⟨⟨h1, h2⟩, fun p hp => ?_, fun i hi => (h4 i hi).1, fun i hi k hk n1 n2 => ?_⟩
 ·obtain ⟨⟨⟨a, b⟩, c⟩, d⟩ := h3 p hp
  exact ⟨⟨a, b⟩, c, d⟩
 ·rcases (h4 i hi).2 k hk with (h5 | h5) | h5
  ·exact absurd h5 n1
  ·exact absurd h5 n2
  ·exact h5
def gndP0 : List Pt := [(-5, -2), (5, -2), (5, 0), (-5, 0)]
def shpM : List (List Pt) := [groundP, gndP0, shp 0, shp 1, shp 2, shp 3, shp 4, shp 5]
theorem vld_shpM : shpM.all vldB = true := by kernel_rfl
theorem sides_shpM : (shpM.all fun a => shpM.all fun b => decide (sidesV a b = sidesR a b)) = true := by kernel_rfl
theorem shpM_vld {l : List Pt} (h : l ∈ shpM) : vldP l := vldP_of (List.all_eq_true.1 vld_shpM l h)
theorem shpM_sides {a b : List Pt} (ha : a ∈ shpM) (hb : b ∈ shpM) : sidesV a b = sidesR a b := by
 have h := List.all_eq_true.1 (List.all_eq_true.1 sides_shpM a ha) b hb
 exact of_decide_eq_true h
theorem sameSides_of {m : MdlR} (h : ∀ p ∈ m.parts, p.shape ∈ shpM) : SameSides m := fun p hp q hq => shpM_sides (h p hp) (h q hq)
theorem okPart_of {n N : Nat} {p : PartR} (hs : p.shape ∈ shpM) (hc : okCols n N p.cols) (h1 : RS p.hx N) (h2 : RS p.hy N) : OkPart n N p := by
 obtain ⟨⟨a, b⟩, c, _⟩ := shpM_vld hs
 exact ⟨hc, h1, h2, by omega, by omega, c⟩
theorem shp_mem {k : Int} (h : 0 ≤ k ∧ k < 6) : shp k ∈ shpM := by
 have : k = 0 ∨ k = 1 ∨ k = 2 ∨ k = 3 ∨ k = 4 ∨ k = 5 := by omega
 unfold shpM
 rcases this with rfl | rfl | rfl | rfl | rfl | rfl <;> simp
def gnd0 : PartR := ⟨[(-5, -2), (5, -2), (5, 0), (-5, 0)], 0, 0, [], 0, 0⟩
def sqr0 : PartR := ⟨[(0, 0), (2, 0), (2, 2), (0, 2)], 0, 0, [⟨0, Rat.divInt 1 1, 0, 0⟩, ⟨1, 0, Rat.divInt 1 1, 0⟩], 0, 0⟩
def m0 : MdlR := ⟨[⟨Rat.divInt 1 2, ofQ 0, false, 0, 0⟩, ⟨Rat.divInt 1 2, ofQ 0, false, 0, 0⟩], [gnd0, sqr0], [], []⟩
def s0 : StaR := startV m0
def t0 : StaR := { s0 with q := [0, Rat.divInt (-1) 2] }
theorem fit_s0 : fitV m0 s0 = 0 := by kernel_rfl
theorem fit_t0 : fitV m0 t0 = 14 := by kernel_rfl
theorem pairs_s0 : pairsV m0 s0.here = [(0, 1)] := by kernel_rfl
theorem live_u0 : liveV m0 [true, false] = [false, false] := by kernel_rfl
theorem at_m0 : atV [Rat.divInt 3 1, Rat.divInt 4 1] sqr0 = (Rat.divInt 3 1, Rat.divInt 4 1) := by kernel_rfl
theorem parts_m0 {P : PartR → Prop} (h1 : P gnd0) (h2 : P sqr0) : ∀ p ∈ m0.parts, P p := by
 intro p hp
 simp only [m0, List.mem_cons, List.not_mem_nil, or_false] at hp
 rcases hp with rfl | rfl
 ·exact h1
 ·exact h2
theorem shp_m0 : ∀ p ∈ m0.parts, p.shape ∈ shpM := parts_m0 (by decide) (by decide)
theorem sides_m0 : SameSides m0 := sameSides_of shp_m0
theorem good_m0 : GoodM m0 1 where
 dl := by decide
 pl := by decide
 rl := by decide
 sl := by decide
 part := parts_m0 (okPart_of (by decide) ⟨by decide, by intro c hc; cases hc⟩ rs_zero rs_zero) (okPart_of (by decide) ⟨by decide, by
  intro c hc
  simp only [sqr0, List.mem_cons, List.not_mem_nil, or_false] at hc
  rcases hc with rfl | rfl
  ·exact ⟨⟨by decide, by decide⟩, rs_small (p := 1) (q := 1) (by decide) (by decide), rs_zero, rs_zero⟩
  ·exact ⟨⟨by decide, by decide⟩, rs_zero, rs_small (p := 1) (q := 1) (by decide) (by decide), rs_zero⟩⟩ rs_zero rs_zero)
 dof := by
  intro d hd
  simp only [m0, List.mem_cons, List.not_mem_nil, or_false] at hd
  rcases hd with rfl | rfl <;> exact ⟨rs_zero, rs_zero⟩
 rope := by intro r hr; cases hr
theorem good_s0 : GoodS m0 s0 1 where
 tick := ⟨by decide, by decide⟩
 ql := rfl
 vl := rfl
 hl := rfl
 q := fun x hx => by rw [List.eq_of_mem_replicate hx]; exact rs_zero
 v := fun x hx => by rw [List.eq_of_mem_replicate hx]; exact rs_zero
theorem good_t0 : GoodS m0 t0 1 where
 tick := ⟨by decide, by decide⟩
 ql := rfl
 vl := rfl
 hl := rfl
 q := fun x hx => by
  simp only [t0, List.mem_cons, List.not_mem_nil, or_false] at hx
  rcases hx with rfl | rfl
  ·exact rs_zero
  ·exact rs_small (by decide) (by decide)
 v := fun x hx => by rw [List.eq_of_mem_replicate hx]; exact rs_zero
theorem pairsOk_m0 {s : StaR} (h : s.here.length = 2) : PairsOk m0 s := ⟨by decide, by decide, h, (by intro p hp; cases hp), List.nodup_nil⟩
abbrev PairsSay [SpC] : Prop := ∀ m s, PairsOk m s → SpC.spec 18 [.agg (mdlA m), .agg (staA s)] = some (pairsA m s)
theorem valid_m0 [SpC] : M X 10 [.agg (mdlA m0)] = some (.int .i64 0) := by
 refine pvalid0 m0 1 (by omega) (by decide) (by decide) rfl rfl (parts_m0 ⟨by decide, by intro c hc; cases hc⟩ ⟨by decide, by
  intro c hc
  simp only [sqr0, List.mem_cons, List.not_mem_nil, or_false] at hc
  rcases hc with rfl | rfl <;> exact ⟨by decide, by decide⟩⟩) ?_ (by kernel_rfl) good_m0.dof ?_ (parts_m0 ⟨rs_zero, rs_zero⟩ ⟨rs_zero, rs_zero⟩) (parts_m0 ⟨shpM_vld (by decide), by kernel_rfl⟩ ⟨shpM_vld (by decide), by kernel_rfl⟩)
 ·have z : nmB (ofQ 0) := nmB_ofQ rs_zero (by decide)
  have o : nmB (ofQ (Rat.divInt 1 1)) := nmB_ofQ (rs_small (by decide) (by decide)) (show 1 < 2 ^ 19 by decide)
  have hf : nmB (ofQ (Rat.divInt 1 2)) := nmB_ofQ (rs_small (by decide) (by decide)) (show 1 < 2 ^ 19 by decide)
  intro n hn
  have hall : numsV m0 = [ofQ (Rat.divInt 1 2), ofQ 0, ofQ 0, ofQ 0, ofQ (Rat.divInt 1 2), ofQ 0, ofQ 0, ofQ 0, ofQ 0, ofQ 0, ofQ 0, ofQ 0, ofQ 0, ofQ 0, ofQ 0, ofQ 0, ofQ (Rat.divInt 1 1), ofQ 0, ofQ 0, ofQ 0, ofQ (Rat.divInt 1 1), ofQ 0] := rfl
  rw [hall] at hn
  simp only [List.mem_cons, List.not_mem_nil, or_false] at hn
  rcases hn with rfl | rfl | rfl | rfl | rfl | rfl | rfl | rfl | rfl | rfl | rfl | rfl | rfl | rfl | rfl | rfl | rfl | rfl | rfl | rfl | rfl | rfl <;> first | exact z | exact o | exact hf
 ·intro d hd
  simp only [m0, List.mem_cons, List.not_mem_nil, or_false] at hd
  rcases hd with rfl | rfl <;> kernel_rfl
theorem mdl_m0 : mdlA m0 = .ro (zS (Rat.divInt 1 2).num :: zD (Rat.divInt 1 2).num :: zS (dz (Rat.divInt 1 2)) :: zD (dz (Rat.divInt 1 2)) :: .bool false :: .ro [] 0 false :: .bool false :: .ro [] 0 false :: .bool false :: .bool false :: .ro [] 0 false :: .bool false :: .ro [] 0 false :: .bool false :: .ro [] 0 false :: .bool false :: .ro [] 0 false :: zS (Rat.divInt 1 2).num :: zD (Rat.divInt 1 2).num :: zS (dz (Rat.divInt 1 2)) :: zD (dz (Rat.divInt 1 2)) :: .bool false :: .ro [] 0 false :: .bool false :: .ro [] 0 false :: .bool false :: .bool false :: .ro [] 0 false :: .bool false :: .ro [] 0 false :: .bool false :: .ro [] 0 false :: .bool false :: .ro [] 0 false :: []) 2 false :: .ro (.ro (.int .i64 (-5) :: .int .i64 (-2) :: .int .i64 5 :: .int .i64 (-2) :: .int .i64 5 :: .int .i64 0 :: .int .i64 (-5) :: .int .i64 0 :: []) 4 false :: .bool false :: .ro [] 0 false :: .bool false :: .ro [] 0 false :: .bool false :: .ro [] 0 false :: .bool false :: .ro [] 0 false :: .ro [] 0 false :: .bool false :: .ro [] 0 false :: .bool false :: .ro [] 0 false :: .bool false :: .ro [] 0 false :: .bool false :: .ro [] 0 false :: .ro (.int .i64 0 :: .int .i64 0 :: .int .i64 2 :: .int .i64 0 :: .int .i64 2 :: .int .i64 2 :: .int .i64 0 :: .int .i64 2 :: []) 4 false :: .bool false :: .ro [] 0 false :: .bool false :: .ro [] 0 false :: .bool false :: .ro [] 0 false :: .bool false :: .ro [] 0 false :: .ro (.int .i64 0 :: zS (Rat.divInt 1 1).num :: zD (Rat.divInt 1 1).num :: zS (dz (Rat.divInt 1 1)) :: zD (dz (Rat.divInt 1 1)) :: .bool false :: .ro [] 0 false :: .bool false :: .ro [] 0 false :: .bool false :: .ro [] 0 false :: .bool false :: .ro [] 0 false :: .int .i64 1 :: .bool false :: .ro [] 0 false :: .bool false :: .ro [] 0 false :: zS (Rat.divInt 1 1).num :: zD (Rat.divInt 1 1).num :: zS (dz (Rat.divInt 1 1)) :: zD (dz (Rat.divInt 1 1)) :: .bool false :: .ro [] 0 false :: .bool false :: .ro [] 0 false :: []) 2 false :: .bool false :: .ro [] 0 false :: .bool false :: .ro [] 0 false :: .bool false :: .ro [] 0 false :: .bool false :: .ro [] 0 false :: []) 2 false :: .ro [] 0 false :: .ro [] 0 false :: [] := by kernel_rfl
theorem sta_s0 : staA s0 = .int .i64 0 :: .ro (.bool false :: .ro [] 0 false :: .bool false :: .ro [] 0 false :: .bool false :: .ro [] 0 false :: .bool false :: .ro [] 0 false :: []) 2 false :: .ro (.bool false :: .ro [] 0 false :: .bool false :: .ro [] 0 false :: .bool false :: .ro [] 0 false :: .bool false :: .ro [] 0 false :: []) 2 false :: .ro [.bool true, .bool true] 2 false :: [] := by kernel_rfl
theorem sta_t0 : staA t0 = .int .i64 0 :: .ro (.bool false :: .ro [] 0 false :: .bool false :: .ro [] 0 false :: zS (Rat.divInt (-1) 2).num :: zD (Rat.divInt (-1) 2).num :: zS (dz (Rat.divInt (-1) 2)) :: zD (dz (Rat.divInt (-1) 2)) :: []) 2 false :: .ro (.bool false :: .ro [] 0 false :: .bool false :: .ro [] 0 false :: .bool false :: .ro [] 0 false :: .bool false :: .ro [] 0 false :: []) 2 false :: .ro [.bool true, .bool true] 2 false :: [] := by kernel_rfl
theorem q_s0 : cat ratA s0.q = [.bool false, .ro [] 0 false, .bool false, .ro [] 0 false, .bool false, .ro [] 0 false, .bool false, .ro [] 0 false] := by kernel_rfl
theorem v_s0 : cat ratA s0.v = [.bool false, .ro [] 0 false, .bool false, .ro [] 0 false, .bool false, .ro [] 0 false, .bool false, .ro [] 0 false] := by kernel_rfl
theorem h_s0 : cat boolA s0.here = [.bool true, .bool true] := by kernel_rfl
theorem ql_s0 : s0.q.length = 2 := rfl
theorem vl_s0 : s0.v.length = 2 := rfl
theorem hl_s0 : s0.here.length = 2 := rfl
theorem lives_15 [SpC] (hP : PairsSay) : M X 12 [] = some (.bool true) := by
 refine M_of X (fn := Tryz.f12) Tryz.func12 rfl ok_12 mode_12 res_12 _ rfl _ ?_
 intro r hr
 have n1 := M_68 1 (by omega)
 have n3 := M_68 3 (by omega)
 have n4 := M_68 4 (by omega)
 have oh := M_44 1 2 (by omega) (by omega)
 have om := M_44 (-1) 2 (by omega) (by omega)
 have st : M X 36 [.agg (mdlA m0)] = some (.agg (staA s0)) := pstart m0 (by decide) (by decide)
 have va := valid_m0
 have fs := M_17 m0 s0 1 good_m0 good_s0 (by omega) (by decide) sides_m0 (hP m0 s0 (pairsOk_m0 rfl))
 have ft := M_17 m0 t0 1 good_m0 good_t0 (by omega) (by decide) sides_m0 (hP m0 t0 (pairsOk_m0 rfl))
 have ps := M_pairs (hP m0 s0 (pairsOk_m0 rfl))
 rw [fit_s0] at fs
 rw [fit_t0] at ft
 have pe : pairsA m0 s0 = .ro [.int .i64 0, .int .i64 1] 1 false := by unfold pairsA; rw [pairs_s0]; rfl
 rw [pe] at ps
 have r3 : RS (Rat.divInt 3 1) 1 := rs_small (by decide) (by decide)
 have r4 : RS (Rat.divInt 4 1) 1 := rs_small (by decide) (by decide)
 have at1 := M_22 m0 [Rat.divInt 3 1, Rat.divInt 4 1] 1 sqr0 1 rfl (by decide) (by
  intro x hx
  simp only [List.mem_cons, List.not_mem_nil, or_false] at hx
  rcases hx with rfl | rfl
  ·exact r3
  ·exact r4) (by decide) (good_m0.part sqr0 (by simp [m0])).cols rs_zero rs_zero (by decide)
 rw [at_m0] at at1
 have cq : cat ratA [Rat.divInt 3 1, Rat.divInt 4 1] = zS (Rat.divInt 3 1).num :: zD (Rat.divInt 3 1).num :: zS (dz (Rat.divInt 3 1)) :: zD (dz (Rat.divInt 3 1)) :: zS (Rat.divInt 4 1).num :: zD (Rat.divInt 4 1).num :: zS (dz (Rat.divInt 4 1)) :: zD (dz (Rat.divInt 4 1)) :: [] := rfl
 rw [cq] at at1
 simp only [List.length_cons, List.length_nil, Nat.reduceAdd] at at1
 rw [show (((1 : Nat)) : Int) = 1 from rfl] at at1
 have ve := M_24 (x := Rat.divInt 3 1) (y := Rat.divInt 4 1) (by decide : 1 < 2 ^ 28) (by decide : 1 < 2 ^ 28)
 have lw : M X 16 [.agg (mdlA m0), .agg (.int .i64 0 :: .ro (.bool false :: .ro [] 0 false :: .bool false :: .ro [] 0 false :: .bool false :: .ro [] 0 false :: .bool false :: .ro [] 0 false :: []) 2 false :: .ro (.bool false :: .ro [] 0 false :: .bool false :: .ro [] 0 false :: .bool false :: .ro [] 0 false :: .bool false :: .ro [] 0 false :: []) 2 false :: .ro (.bool true :: .bool false :: []) 2 false :: [])] = some (.fresh (.bool false :: .bool false :: []) 2 1) := by
  have h := M_16 m0 [true, false] 0 (.ro (.bool false :: .ro [] 0 false :: .bool false :: .ro [] 0 false :: .bool false :: .ro [] 0 false :: .bool false :: .ro [] 0 false :: []) 2 false) (.ro (.bool false :: .ro [] 0 false :: .bool false :: .ro [] 0 false :: .bool false :: .ro [] 0 false :: .bool false :: .ro [] 0 false :: []) 2 false) false good_m0.live rfl
  rw [live_u0] at h
  exact h
 rw [mdl_m0] at st va fs ft ps at1 lw
 rw [sta_s0] at st fs ps
 rw [sta_t0] at ft
 simp (maxSteps := 4000000) (disch := first | omega | (simp only [LL]; omega)) only [go_sem, n1, n3, n4, oh, om, replA_2, replA_4, st, va, fs]
 refine copy_step s0 (by decide) (by decide) (by decide) _ _ _ _ 0 _ 0 (by omega) (.inl ⟨by rw [q_s0]; rfl, by rw [v_s0]; rfl, by rw [h_s0]; rfl⟩) _ ?_
 intro vq vv vh h1 nx1 k1 k2 k3
 obtain ⟨A, B, C, a1, a2, a3, a4, a5, a6, rfl, rfl, rfl, a7, a8, a9⟩ := k3
 have e272 := k2 272 (by omega)
 have e232 := k2 232 (by omega)
 have e256 := k2 256 (by omega)
 have e40 := k2 40 (by omega)
 have e104 := k2 104 (by omega)
 have e144 := k2 144 (by omega)
 have e304 := k2 304 (by omega)
 simp (maxSteps := 4000000) (disch := first | omega | (simp only [LL]; omega)) only [go_sem] at e272 e232 e256 e40 e104 e144 e304
 rw [q_s0] at a7
 rw [v_s0] at a8
 rw [h_s0] at a9
 rw [ql_s0, vl_s0, hl_s0]
 simp (maxSteps := 4000000) (disch := first | omega | (simp only [LL]; omega)) only [go_sem, a7, a8, a9, om, e304]
 refine copy_step s0 (by decide) (by decide) (by decide) _ _ _ _ 0 _ 0 (by omega) (.inl ⟨by rw [q_s0]; rfl, by rw [v_s0]; rfl, by rw [h_s0]; rfl⟩) _ ?_
 intro vq vv vh h2 nx2 k3 k4 k5
 obtain ⟨A2, B2, C2, b1, b2, b3, b4, b5, b6, rfl, rfl, rfl, b7, b8, b9⟩ := k5
 have f504 := k4 504 (by omega)
 have fA := k4 A (by omega)
 have fB := k4 B (by omega)
 have fC := k4 C (by omega)
 have f272 := k4 272 (by omega)
 have f232 := k4 232 (by omega)
 have f256 := k4 256 (by omega)
 have f40 := k4 40 (by omega)
 have f104 := k4 104 (by omega)
 have f144 := k4 144 (by omega)
 have f304 := k4 304 (by omega)
 simp (maxSteps := 4000000) (disch := first | omega | (simp only [LL]; omega)) only [go_sem, a7, a8, a9, e272, e232, e256, e40, e104, e144, e304] at f504 fA fB fC f272 f232 f256 f40 f104 f144 f304
 rw [q_s0] at b7
 rw [v_s0] at b8
 rw [h_s0] at b9
 rw [ql_s0, vl_s0, hl_s0]
 clear e272 e232 e256 e40 e104 e144 e304 a7 a8 a9
 have ts : s0.tick = 0 := rfl
 simp (maxSteps := 4000000) (disch := first | omega | (simp only [LL]; omega)) only [go_sem, b7, b8, b9, f504, fA, fB, fC, f272, f232, f256, f40, f104, f144, f304, mode_16, ts, lw, ps, ft, n3, n4, at1, ve, replA_2]
 rw [hr]
def okpB (p : Pt) : Bool := decide (-1048576 ≤ p.1) && decide (p.1 ≤ 1048576) && decide (-1048576 ≤ p.2) && decide (p.2 ≤ 1048576)
def crossOk (l : List Pt) (i k : Nat) : Bool := decide (k = i) || decide (k = (i + 1) % l.length) || decide (0 < crossP (ptA l i) (ptA l ((i + 1) % l.length)) (ptA l k))
def sideOk (l : List Pt) (i : Nat) : Bool := normOk ((ptA l ((i + 1) % l.length)).1 - (ptA l i).1) ((ptA l ((i + 1) % l.length)).2 - (ptA l i).2) && (List.range l.length).all (crossOk l i)
def vldW (l : List Pt) : Bool := decide (3 ≤ l.length) && decide (l.length ≤ 8) && l.all okpB && (List.range l.length).all (sideOk l)
theorem allR_succ (P : Nat → Bool) (k : Nat) : (List.range (k + 1)).all P = ((List.range k).all P && P k) := by rw [List.range_succ, List.all_append]; simp
theorem allR_miss {P : Nat → Bool} {k n : Nat} (hk : k < n) (h : P k = false) : (List.range n).all P = false := by
 cases hc : (List.range n).all P with
 | false => rfl
 | true =>
  have := List.all_eq_true.1 hc k (List.mem_range.2 hk)
  rw [h] at this; cases this
theorem okp_of {p : Pt} (h : okpB p = true) : okp p := by
 unfold okpB at h
 simp only [Bool.and_eq_true, decide_eq_true_eq] at h
 unfold okp
 omega
theorem out_pt [SpC] (p : Pt) (h : okw p) : M X 190 [.agg [.int .i64 p.1, .int .i64 p.2]] = some (.bool (!okpB p)) := by
 refine M_of X (fn := Tryz.f190) Tryz.func190 rfl ok_190 mode_190 res_190 _ rfl _ ?_
 intro r hr
 obtain ⟨⟨a1, a2⟩, a3, a4⟩ := h
 cases hb : okpB p with
 | true =>
  rw [hb] at hr
  obtain ⟨⟨a1, a2⟩, a3, a4⟩ := okp_of hb
  by_cases h1 : p.1 < p.2
  ·simp (maxSteps := 4000000) (disch := first | omega | (simp only [LL]; omega)) only [go_sem]
   rw [hr]; rfl
  ·simp (maxSteps := 4000000) (disch := first | omega | (simp only [LL]; omega)) only [go_sem]
   rw [hr]; rfl
 | false =>
  rw [hb] at hr
  have hn : p.1 < -1048576 ∨ 1048576 < p.1 ∨ p.2 < -1048576 ∨ 1048576 < p.2 := by
   unfold okpB at hb
   simp only [Bool.and_eq_false_iff, decide_eq_false_iff_not] at hb
   omega
  by_cases h1 : p.1 < p.2
  ·by_cases h2 : p.1 < -1048576
   ·simp (maxSteps := 4000000) (disch := first | omega | (simp only [LL]; omega)) only [go_sem]
    rw [hr]; rfl
   ·have h3 : 1048576 < p.2 := by omega
    simp (maxSteps := 4000000) (disch := first | omega | (simp only [LL]; omega)) only [go_sem]
    rw [hr]; rfl
  ·by_cases h2 : p.2 < -1048576
   ·simp (maxSteps := 4000000) (disch := first | omega | (simp only [LL]; omega)) only [go_sem]
    rw [hr]; rfl
   ·have h3 : 1048576 < p.1 := by omega
    simp (maxSteps := 4000000) (disch := first | omega | (simp only [LL]; omega)) only [go_sem]
    rw [hr]; rfl
theorem idx_pt [SpC] (l : List Pt) (hw : ∀ p ∈ l, okw p) (hl : l.length < 2 ^ 30) :
  ∃ z : Int, M X 236 [.ro (ptC l) l.length false, .func (.func 190) [] []] = some (.int .i64 z) ∧ decide (0 ≤ z) = !l.all okpB := by
 suffices h : ∃ r, (∃ z : Int, r = .int .i64 z ∧ decide (0 ≤ z) = !l.all okpB) ∧ M X 236 [.ro (ptC l) l.length false, .func (.func 190) [] []] = some r by
  obtain ⟨r, ⟨z, rfl, h1⟩, h2⟩ := h
  exact ⟨z, h2, h1⟩
 refine M_ex (fn := Tryz.f236) Tryz.func236 rfl ok_236 mode_236 res_236 _ rfl _ ?_
 have hl2 := ptC_length l
 simp (maxSteps := 4000000) (disch := first | omega | (simp only [LL]; omega)) only [go_sem, hl2]
 refine W_loop X (fun (k : Nat) s => k ≤ l.length ∧ (∀ j e, j < k → l[j]? = some e → okpB e = true) ∧ s.env 0 = .ro (ptC l) l.length false ∧ s.env 1 = .func (.func 190) [] [] ∧ s.env 7 = .int .i64 l.length ∧ s.env 8 = .int .i64 k) (fun k => l.length - k) ?_ 0 _ ?_
 ·rintro k ⟨env, heap, nx⟩ ⟨hk, hj, g0, g1, g7, g8⟩
  simp only at g0 g1 g7 g8
  by_cases h1 : k < l.length
  ·have hn := getD_some (l := l) (i := k) h1 (0, 0)
   have hd := ptC_take l k h1
   have hmem : l.getD k (0, 0) ∈ l := List.mem_of_getElem? hn
   have hv := out_pt _ (hw _ hmem)
   cases h2 : okpB (l.getD k (0, 0)) with
   | false =>
    rw [h2] at hv
    have hany : (!l.all okpB) = true := by
     cases hc : l.all okpB with
     | false => rfl
     | true => have := List.all_eq_true.1 hc _ hmem; rw [h2] at this; cases this
    generalize l.getD k (0, 0) = e at *
    simp (maxSteps := 4000000) (disch := first | omega | (simp only [LL]; omega)) only [go_sem, hl2, hd, g0, g1, g7, g8, mode_190, hv, Bool.not_false]
    exact ⟨_, rfl, by rw [hany]; exact decide_eq_true (by omega)⟩
   | true =>
    rw [h2] at hv
    have hj' : ∀ j e, j < k + 1 → l[j]? = some e → okpB e = true := by
     intro j e h3 h4
     rcases Nat.lt_or_ge j k with h5 | h5
     ·exact hj j e h5 h4
     ·obtain rfl : j = k := by omega
      rw [hn] at h4; cases h4; exact h2
    clear hj
    generalize l.getD k (0, 0) = e at *
    simp (maxSteps := 4000000) (disch := first | omega | (simp only [LL]; omega)) only [go_sem, hl2, hd, g0, g1, g7, g8, mode_190, hv, Bool.not_true]
    exact ⟨k + 1, ⟨by omega, hj', rfl⟩, by omega⟩
  ·have hany : (!l.all okpB) = false := by
    rw [List.all_eq_true.2]
    ·rfl
    ·intro e he
     obtain ⟨j, h3, rfl⟩ := List.getElem_of_mem he
     exact hj j _ (by omega) (List.getElem?_eq_getElem h3)
   clear hj
   simp (maxSteps := 4000000) (disch := first | omega | (simp only [LL]; omega)) only [go_sem, hl2, g0, g1, g7, g8]
   exact ⟨_, rfl, by rw [hany]; rfl⟩
 ·simp (maxSteps := 4000000) (disch := first | omega | (simp only [LL]; omega)) only [go_sem]
  exact fun j e h => absurd h (Nat.not_lt_zero j)
theorem con_pt [SpC] (l : List Pt) (hw : ∀ p ∈ l, okw p) (hl : l.length < 2 ^ 30) :
  M X 191 [.ro (ptC l) l.length false, .func (.func 190) [] []] = some (.bool (!l.all okpB)) := by
 refine M_of X (fn := Tryz.f191) Tryz.func191 rfl ok_191 mode_191 res_191 _ rfl _ ?_
 intro r hr
 obtain ⟨z, h1, h2⟩ := idx_pt l hw hl
 have hl2 := ptC_length l
 simp (maxSteps := 4000000) (disch := first | omega | (simp only [LL]; omega)) only [go_sem, hl2, weaks_ptC, mode_236, h1]
 rw [hr, h2]
theorem pvalid_pt [SpC] (l : List Pt) (hw : ∀ p ∈ l, okw p) (hl : l.length < 2 ^ 30) : M X 126 [.ro (ptC l) l.length false] = some (.bool (vldW l)) := by
 refine M_of X (fn := Tryz.f126) Tryz.func126 rfl ok_126 mode_126 res_126 _ rfl _ ?_
 intro r hr
 have hl2 := ptC_length l
 by_cases c1 : l.length < 3
 ·have hv : vldW l = false := by unfold vldW; rw [decide_eq_false (show ¬ 3 ≤ l.length by omega)]; rfl
  rw [hv] at hr
  simp (maxSteps := 4000000) (disch := first | omega | (simp only [LL]; omega)) only [go_sem]
  rw [hr]
 by_cases c2 : 8 < l.length
 ·have hv : vldW l = false := by unfold vldW; rw [decide_eq_false (show ¬ l.length ≤ 8 by omega), Bool.and_false]; rfl
  rw [hv] at hr
  simp (maxSteps := 4000000) (disch := first | omega | (simp only [LL]; omega)) only [go_sem]
  rw [hr]
 have hc := con_pt l hw hl
 have hv : vldW l = (l.all okpB && (List.range l.length).all (sideOk l)) := by unfold vldW; rw [decide_eq_true (show 3 ≤ l.length by omega), decide_eq_true (show l.length ≤ 8 by omega)]; rfl
 rw [hv] at hr
 cases hb : l.all okpB with
 | false =>
  rw [hb] at hc hr
  simp (maxSteps := 4000000) (disch := first | omega | (simp only [LL]; omega)) only [go_sem, hl2, weaks_ptC, mode_191, hc, Bool.not_false]
  rw [hr]; rfl
 | true =>
  rw [hb, Bool.true_and] at hr
  rw [hb] at hc
  have hp : ∀ p ∈ l, okp p := fun p hp => okp_of (List.all_eq_true.1 hb p hp)
  simp (maxSteps := 4000000) (disch := first | omega | (simp only [LL]; omega)) only [go_sem, hl2, weaks_ptC, mode_191, hc, Bool.not_true]
  refine W_loop X (fun (i : Nat) s => i ≤ l.length ∧ (List.range i).all (sideOk l) = true ∧ s.env 0 = .ro (ptC l) l.length false ∧ s.env 20 = .int .i64 l.length ∧ s.env 21 = .int .i64 i) (fun i => l.length - i) ?_ 0 _ ?_
  ·rintro i ⟨env, heap, nx⟩ ⟨hi, hall, g0, g20, g21⟩
   simp only at g0 g20 g21
   by_cases h1 : i < l.length
   ·have hm := Nat.mod_lt (i + 1) (show 0 < l.length by omega)
    have hd := ptC_take l i h1
    have hne := M_144 l i h1 (by omega)
    have hno := M_143 (ptA l i) (ptA l ((i + 1) % l.length)) (okp_getD hp i) (okp_getD hp _)
    rw [show l.getD i (0, 0) = ptA l i from rfl] at hd
    rw [show l.getD ((i + 1) % l.length) (0, 0) = ptA l ((i + 1) % l.length) from rfl] at hne
    have hsd : sideOk l i = (normOk ((ptA l ((i + 1) % l.length)).1 - (ptA l i).1) ((ptA l ((i + 1) % l.length)).2 - (ptA l i).2) && (List.range l.length).all (crossOk l i)) := rfl
    cases hnb : normOk ((ptA l ((i + 1) % l.length)).1 - (ptA l i).1) ((ptA l ((i + 1) % l.length)).2 - (ptA l i).2) with
    | false =>
     rw [hnb] at hno hsd
     rw [allR_miss h1 hsd] at hr
     simp (maxSteps := 4000000) (disch := first | omega | (simp only [LL]; omega)) only [go_sem, hl2, hd, g0, g20, g21, mode_144, mode_143, hne, hno, weaks_ptC]
     rw [hr]
    | true =>
     rw [hnb] at hno hsd
     rw [Bool.true_and] at hsd
     simp (maxSteps := 4000000) (disch := first | omega | (simp only [LL]; omega)) only [go_sem, hl2, hd, g0, g20, g21, mode_144, mode_143, hne, hno, weaks_ptC]
     refine W_loop X (fun (k : Nat) s => k ≤ l.length ∧ (List.range k).all (crossOk l i) = true ∧ s.env 0 = .ro (ptC l) l.length false ∧ s.env 20 = .int .i64 l.length ∧ s.env 21 = .int .i64 i ∧ s.env 4 = .int .i64 i ∧ s.env 38 = .int .i64 l.length ∧ s.env 39 = .int .i64 k) (fun k => l.length - k) ?_ 0 _ ?_
     ·clear g0 g20 g21
      rintro k ⟨env, heap, nx⟩ ⟨hk, hak, g0, g20, g21, g4, g38, g39⟩
      simp only at g0 g20 g21 g4 g38 g39
      by_cases h2 : k < l.length
      ·have hd2 := ptC_take l k h2
       rw [show l.getD k (0, 0) = ptA l k from rfl] at hd2
       have he : ((i + 1 : Nat) : Int) % l.length = (((i + 1) % l.length : Nat) : Int) := (Int.natCast_emod _ _).symm
       have hcr := M_192 (ptA l i) (ptA l ((i + 1) % l.length)) (ptA l k) (okp_getD hp _) (okp_getD hp _) (okp_getD hp _)
       have hck : crossOk l i k = (decide (k = i) || decide (k = (i + 1) % l.length) || decide (0 < crossP (ptA l i) (ptA l ((i + 1) % l.length)) (ptA l k))) := rfl
       have hsk := allR_succ (crossOk l i) k
       have hmiss := fun h => allR_miss (P := crossOk l i) h2 h
       have hmiss2 := fun h => allR_miss (P := sideOk l) h1 h
       obtain ⟨m, hm2⟩ : ∃ m, m = (i + 1) % l.length := ⟨_, rfl⟩
       rw [← hm2] at he hcr hm hck hne
       by_cases h3 : k = i
       ·rw [decide_eq_true h3, Bool.true_or, Bool.true_or] at hck
        rw [hak, hck] at hsk
        clear hmiss hmiss2
        simp (maxSteps := 4000000) (disch := first | omega | (simp only [LL]; omega)) only [go_sem, hl2, hd, hd2, g0, g20, g21, g4, g38, g39, he, mode_144, hne, mode_192, hcr, weaks_ptC]
        exact ⟨k + 1, ⟨by omega, hsk, rfl⟩, by omega⟩
       ·by_cases h4 : k = m
        ·rw [decide_eq_true h4, Bool.or_true, Bool.true_or] at hck
         rw [hak, hck] at hsk
         clear hmiss hmiss2
         simp (maxSteps := 4000000) (disch := first | omega | (simp only [LL]; omega)) only [go_sem, hl2, hd, hd2, g0, g20, g21, g4, g38, g39, he, mode_144, hne, mode_192, hcr, weaks_ptC]
         exact ⟨k + 1, ⟨by omega, hsk, rfl⟩, by omega⟩
        ·rw [decide_eq_false h3, decide_eq_false h4, Bool.false_or, Bool.false_or] at hck
         generalize crossP (ptA l i) (ptA l m) (ptA l k) = cr at *
         by_cases h5 : 0 < cr
         ·rw [decide_eq_true h5] at hck
          rw [hak, hck] at hsk
          clear hmiss hmiss2
          simp (maxSteps := 4000000) (disch := first | omega | (simp only [LL]; omega)) only [go_sem, hl2, hd, hd2, g0, g20, g21, g4, g38, g39, he, mode_144, hne, mode_192, hcr, weaks_ptC]
          exact ⟨k + 1, ⟨by omega, hsk, rfl⟩, by omega⟩
         ·rw [decide_eq_false h5] at hck
          rw [hmiss2 (by rw [hsd]; exact hmiss hck)] at hr
          clear hmiss hmiss2
          simp (maxSteps := 4000000) (disch := first | omega | (simp only [LL]; omega)) only [go_sem, hl2, hd, hd2, g0, g20, g21, g4, g38, g39, he, mode_144, hne, mode_192, hcr, weaks_ptC]
          rw [hr]
      ·obtain rfl : k = l.length := by omega
       have hsi := allR_succ (sideOk l) i
       rw [hall, hsd, hak] at hsi
       simp (maxSteps := 4000000) (disch := first | omega | (simp only [LL]; omega)) only [go_sem, hl2, g0, g20, g21, g4, g38, g39]
       exact ⟨i + 1, ⟨by omega, hsi, rfl⟩, by omega⟩
     ·simp (maxSteps := 4000000) (disch := first | omega | (simp only [LL]; omega)) only [go_sem, g0, g20, g21]
      rfl
   ·obtain rfl : i = l.length := by omega
    rw [hall] at hr
    simp (maxSteps := 4000000) (disch := first | omega | (simp only [LL]; omega)) only [go_sem, hl2, g0, g20, g21]
    rw [hr]
  ·simp (maxSteps := 4000000) (disch := first | omega | (simp only [LL]; omega)) only [go_sem]
   rfl
theorem M_196 [SpC] (a b c : Pt) (ha : okp a) (hb : okp b) (hc : okp c) : M X 196 [.agg [.int .i64 a.1, .int .i64 a.2], .agg [.int .i64 b.1, .int .i64 b.2], .agg [.int .i64 c.1, .int .i64 c.2]] = some (.int .i64 (crossP a b c)) := by
 refine M_of X (fn := Tryz.f196) Tryz.func196 rfl ok_196 mode_196 res_196 _ rfl _ ?_
 intro r hr
 obtain ⟨⟨a1, a2⟩, a3, a4⟩ := ha
 obtain ⟨⟨b1, b2⟩, b3, b4⟩ := hb
 obtain ⟨⟨c1, c2⟩, c3, c4⟩ := hc
 have q1 := prodb (x := b.1 - a.1) (y := c.2 - a.2) (by omega) (by omega)
 have q2 := prodb (x := b.2 - a.2) (y := c.1 - a.1) (by omega) (by omega)
 simp (maxSteps := 4000000) (disch := first | omega | (simp only [LL]; omega)) only [go_sem]
 rw [hr]; rfl
theorem M_132 [SpC] (l : List Pt) (hw : ∀ p ∈ l, okw p) (hl : l.length < 2 ^ 30) : M X 132 [.ro (ptC l) l.length false] = some (.bool (vldW l)) := by
 refine M_of X (fn := Tryz.f132) Tryz.func132 rfl ok_132 mode_132 res_132 _ rfl _ ?_
 intro r hr
 have hl2 := ptC_length l
 by_cases c1 : l.length < 3
 ·have hv : vldW l = false := by unfold vldW; rw [decide_eq_false (show ¬ 3 ≤ l.length by omega)]; rfl
  rw [hv] at hr
  simp (maxSteps := 4000000) (disch := first | omega | (simp only [LL]; omega)) only [go_sem]
  rw [hr]
 by_cases c2 : 8 < l.length
 ·have hv : vldW l = false := by unfold vldW; rw [decide_eq_false (show ¬ l.length ≤ 8 by omega), Bool.and_false]; rfl
  rw [hv] at hr
  simp (maxSteps := 4000000) (disch := first | omega | (simp only [LL]; omega)) only [go_sem]
  rw [hr]
 have hv : vldW l = (l.all okpB && (List.range l.length).all (sideOk l)) := by unfold vldW; rw [decide_eq_true (show 3 ≤ l.length by omega), decide_eq_true (show l.length ≤ 8 by omega)]; rfl
 rw [hv] at hr
 simp (maxSteps := 4000000) (disch := first | omega | (simp only [LL]; omega)) only [go_sem]
 refine W_loop X (fun (k : Nat) s => k ≤ l.length ∧ (∀ j e, j < k → l[j]? = some e → okpB e = true) ∧ s.env 0 = .ro (ptC l) l.length false ∧ s.env 3 = .int .i64 k) (fun k => l.length - k) ?_ 0 _ ?_
 ·rintro k ⟨env, heap, nx⟩ ⟨hk, hj, g0, g3⟩
  simp only at g0 g3
  by_cases h1 : k < l.length
  ·have hn := getD_some (l := l) (i := k) h1 (0, 0)
   have hd := ptC_drop l k h1
   have hmem : l.getD k (0, 0) ∈ l := List.mem_of_getElem? hn
   obtain ⟨⟨w1, w2⟩, w3, w4⟩ := hw _ hmem
   cases h2 : okpB (l.getD k (0, 0)) with
   | false =>
    have hany : l.all okpB = false := by
     cases hc : l.all okpB with
     | false => rfl
     | true => have := List.all_eq_true.1 hc _ hmem; rw [h2] at this; cases this
    rw [hany] at hr
    have hbad : (l.getD k (0, 0)).1 < -1048576 ∨ 1048576 < (l.getD k (0, 0)).1 ∨ (l.getD k (0, 0)).2 < -1048576 ∨ 1048576 < (l.getD k (0, 0)).2 := by
     unfold okpB at h2
     simp only [Bool.and_eq_false_iff, decide_eq_false_iff_not] at h2
     omega
    generalize l.getD k (0, 0) = e at *
    by_cases d1 : e.1 < -1048576
    ·simp (maxSteps := 4000000) (disch := first | omega | (simp only [LL]; omega)) only [go_sem, hl2, hd, g0, g3]
     rw [hr]; rfl
    by_cases d2 : 1048576 < e.1
    ·simp (maxSteps := 4000000) (disch := first | omega | (simp only [LL]; omega)) only [go_sem, hl2, hd, g0, g3]
     rw [hr]; rfl
    by_cases d3 : e.2 < -1048576
    ·simp (maxSteps := 4000000) (disch := first | omega | (simp only [LL]; omega)) only [go_sem, hl2, hd, g0, g3]
     rw [hr]; rfl
    have d4 : 1048576 < e.2 := by omega
    simp (maxSteps := 4000000) (disch := first | omega | (simp only [LL]; omega)) only [go_sem, hl2, hd, g0, g3]
    rw [hr]; rfl
   | true =>
    have hj' : ∀ j e, j < k + 1 → l[j]? = some e → okpB e = true := by
     intro j e h3 h4
     rcases Nat.lt_or_ge j k with h5 | h5
     ·exact hj j e h5 h4
     ·obtain rfl : j = k := by omega
      rw [hn] at h4; cases h4; exact h2
    obtain ⟨⟨o1, o2⟩, o3, o4⟩ := okp_of h2
    clear hj
    generalize l.getD k (0, 0) = e at *
    simp (maxSteps := 4000000) (disch := first | omega | (simp only [LL]; omega)) only [go_sem, hl2, hd, g0, g3]
    exact ⟨k + 1, ⟨by omega, hj', rfl⟩, by omega⟩
  ·have hb : l.all okpB = true := List.all_eq_true.2 fun e he => by
    obtain ⟨j, h3, rfl⟩ := List.getElem_of_mem he
    exact hj j _ (by omega) (List.getElem?_eq_getElem h3)
   rw [hb, Bool.true_and] at hr
   clear hj
   have hp : ∀ p ∈ l, okp p := fun p hp => okp_of (List.all_eq_true.1 hb p hp)
   simp (maxSteps := 4000000) (disch := first | omega | (simp only [LL]; omega)) only [go_sem, hl2, g0, g3]
   refine W_loop X (fun (i : Nat) s => i ≤ l.length ∧ (List.range i).all (sideOk l) = true ∧ s.env 0 = .ro (ptC l) l.length false ∧ s.env 4 = .int .i64 i) (fun i => l.length - i) ?_ 0 _ ?_
   ·clear g0 g3 h1 hk
    rintro i ⟨env, heap, nx⟩ ⟨hi, hall, g0, g4⟩
    simp only at g0 g4
    by_cases h1 : i < l.length
    ·have hm := Nat.mod_lt (i + 1) (show 0 < l.length by omega)
     have hd := ptC_take l i h1
     have hne := M_168 l i h1 hl
     have hno := M_167 (ptA l i) (ptA l ((i + 1) % l.length)) (okp_getD hp i) (okp_getD hp _)
     rw [show l.getD i (0, 0) = ptA l i from rfl] at hd
     rw [show l.getD ((i + 1) % l.length) (0, 0) = ptA l ((i + 1) % l.length) from rfl] at hne
     have hsd : sideOk l i = (normOk ((ptA l ((i + 1) % l.length)).1 - (ptA l i).1) ((ptA l ((i + 1) % l.length)).2 - (ptA l i).2) && (List.range l.length).all (crossOk l i)) := rfl
     cases hnb : normOk ((ptA l ((i + 1) % l.length)).1 - (ptA l i).1) ((ptA l ((i + 1) % l.length)).2 - (ptA l i).2) with
     | false =>
      rw [hnb] at hno hsd
      rw [allR_miss h1 hsd] at hr
      simp (maxSteps := 4000000) (disch := first | omega | (simp only [LL]; omega)) only [go_sem, hl2, hd, g0, g4, hne, hno, weaks_ptC]
      rw [hr]
     | true =>
      rw [hnb] at hno hsd
      rw [Bool.true_and] at hsd
      simp (maxSteps := 4000000) (disch := first | omega | (simp only [LL]; omega)) only [go_sem, hl2, hd, g0, g4, hne, hno, weaks_ptC]
      obtain ⟨B, hB⟩ : ∃ B, B = nx + 32 + 24 := ⟨_, rfl⟩
      refine W_loop X (fun (k : Nat) s => k ≤ l.length ∧ (List.range k).all (crossOk l i) = true ∧ s.env 0 = .ro (ptC l) l.length false ∧ s.env 4 = .int .i64 i ∧ s.env 5 = .ptr B 0 ∧ s.env 8 = .int .i64 k ∧ B < s.next ∧ s.heap B = some (.cells [.int .i64 (ptA l ((i + 1) % l.length)).1, .int .i64 (ptA l ((i + 1) % l.length)).2] false false)) (fun k => l.length - k) ?_ 0 _ ?_
      ·clear g0 g4
       rintro k ⟨env, heap, nx⟩ ⟨hk, hak, g0, g4, g5, g8, hnx, eB⟩
       simp only at g0 g4 g5 g8 hnx eB
       by_cases h2 : k < l.length
       ·have hd2 := ptC_take l k h2
        rw [show l.getD k (0, 0) = ptA l k from rfl] at hd2
        have he : ((i + 1 : Nat) : Int) % l.length = (((i + 1) % l.length : Nat) : Int) := (Int.natCast_emod _ _).symm
        have hcr := M_196 (ptA l i) (ptA l ((i + 1) % l.length)) (ptA l k) (okp_getD hp _) (okp_getD hp _) (okp_getD hp _)
        have hck : crossOk l i k = (decide (k = i) || decide (k = (i + 1) % l.length) || decide (0 < crossP (ptA l i) (ptA l ((i + 1) % l.length)) (ptA l k))) := rfl
        have hsk := allR_succ (crossOk l i) k
        have hmiss := fun h => allR_miss (P := crossOk l i) h2 h
        have hmiss2 := fun h => allR_miss (P := sideOk l) h1 h
        obtain ⟨m, hm2⟩ : ∃ m, m = (i + 1) % l.length := ⟨_, rfl⟩
        rw [← hm2] at he hcr hm hck eB
        by_cases h3 : k = i
        ·rw [decide_eq_true h3, Bool.true_or, Bool.true_or] at hck
         rw [hak, hck] at hsk
         clear hmiss hmiss2
         simp (maxSteps := 4000000) (disch := first | omega | (simp only [LL]; omega)) only [go_sem, hl2, hd, hd2, g0, g4, g5, g8, eB, he, hcr, weaks_ptC]
         exact ⟨k + 1, ⟨by omega, hsk, rfl, by rw [hm2]⟩, by omega⟩
        ·by_cases h4 : k = m
         ·rw [decide_eq_true h4, Bool.or_true, Bool.true_or] at hck
          rw [hak, hck] at hsk
          clear hmiss hmiss2
          simp (maxSteps := 4000000) (disch := first | omega | (simp only [LL]; omega)) only [go_sem, hl2, hd, hd2, g0, g4, g5, g8, eB, he, hcr, weaks_ptC]
          exact ⟨k + 1, ⟨by omega, hsk, rfl, by rw [hm2]⟩, by omega⟩
         ·rw [decide_eq_false h3, decide_eq_false h4, Bool.false_or, Bool.false_or] at hck
          generalize crossP (ptA l i) (ptA l m) (ptA l k) = cr at *
          by_cases h5 : 0 < cr
          ·rw [decide_eq_true h5] at hck
           rw [hak, hck] at hsk
           clear hmiss hmiss2
           simp (maxSteps := 4000000) (disch := first | omega | (simp only [LL]; omega)) only [go_sem, hl2, hd, hd2, g0, g4, g5, g8, eB, he, hcr, weaks_ptC]
           exact ⟨k + 1, ⟨by omega, hsk, rfl, by rw [hm2]⟩, by omega⟩
          ·rw [decide_eq_false h5] at hck
           rw [hmiss2 (by rw [hsd]; exact hmiss hck)] at hr
           clear hmiss hmiss2
           simp (maxSteps := 4000000) (disch := first | omega | (simp only [LL]; omega)) only [go_sem, hl2, hd, hd2, g0, g4, g5, g8, eB, he, hcr, weaks_ptC]
           rw [hr]
       ·obtain rfl : k = l.length := by omega
        have hsi := allR_succ (sideOk l) i
        rw [hall, hsd, hak] at hsi
        simp (maxSteps := 4000000) (disch := first | omega | (simp only [LL]; omega)) only [go_sem, hl2, g0, g4, g5, g8, eB]
        exact ⟨i + 1, ⟨by omega, hsi, rfl⟩, by omega⟩
      ·subst hB
       simp (maxSteps := 4000000) (disch := first | omega | (simp only [LL]; omega)) only [go_sem, g0, g4]
       rfl
    ·obtain rfl : i = l.length := by omega
     rw [hall] at hr
     simp (maxSteps := 4000000) (disch := first | omega | (simp only [LL]; omega)) only [go_sem, hl2, g0, g4]
     rw [hr]
   ·simp (maxSteps := 4000000) (disch := first | omega | (simp only [LL]; omega)) only [go_sem, g0]
    rfl
 ·simp (maxSteps := 4000000) (disch := first | omega | (simp only [LL]; omega)) only [go_sem]
  exact fun j e h => absurd h (Nat.not_lt_zero j)
structure DofB (d : DofR) (N : Nat) : Prop where
 inv : RS d.inv N
 load : nmB d.load
 lo : RS d.lo N
 hi : RS d.hi N
theorem M_65 [SpC] (d : DofR) (N : Nat) (h : DofB d N) (hN : N < 2 ^ 18) : M X 65 [.agg (dofA d)] = some (.bool (d.load.ok && dofOk d)) := by
 refine M_of X (fn := Tryz.f65) Tryz.func65 rfl ok_65 mode_65 res_65 _ rfl _ ?_
 intro r hr
 obtain ⟨i1, i2, i3, i4⟩ := h
 have nm := M_89 (dofN d) (by show 4 < 2 ^ 30; omega) (fun n hn => by
  simp only [dofN, List.mem_cons, List.not_mem_nil, or_false] at hn
  rcases hn with rfl | rfl | rfl | rfl
  ·exact nmB_ofQ i1 (by omega)
  ·exact i2
  ·exact nmB_ofQ i3 (by omega)
  ·exact nmB_ofQ i4 (by omega))
 have hall : (dofN d).all Nm.ok = d.load.ok := by
  simp only [dofN, List.all_cons, List.all_nil, ok_ofQ, Bool.true_and, Bool.and_true]
 rw [hall, cat_dofN, show (dofN d).length = 4 from rfl] at nm
 have s1 := M_90 (x := d.inv) (by omega)
 have s2 := M_90 (x := d.lo) (by omega)
 have s3 := M_90 (x := d.hi) (by omega)
 have c1 := M_93 (x := d.lo) (y := d.hi) (by omega)
 unfold dofOk at hr
 generalize cmpQ d.inv 0 = u at *
 generalize cmpQ d.lo d.hi = v at *
 generalize cmpQ d.lo 0 = w at *
 generalize cmpQ d.hi 0 = z at *
 cases hk : d.load.ok with
 | false =>
  rw [hk] at nm hr
  simp (maxSteps := 4000000) (disch := first | omega | (simp only [LL]; omega)) only [go_sem, dofA_eq, replQ_4, nm, s1, s2, s3, c1, List.cons_append, List.nil_append, mode_89]
  rw [hr]; rfl
 | true =>
  rw [hk, Bool.true_and] at hr
  rw [hk] at nm
  by_cases hw : w = 0
  ·by_cases hz : z = 0
   ·by_cases hu : 0 < u
    ·cases hb : d.bd <;> (simp (maxSteps := 4000000) (disch := first | omega | (simp only [LL]; omega)) only [go_sem, dofA_eq, replQ_4, nm, s1, s2, s3, c1, hb, List.cons_append, List.nil_append, mode_89]; rw [hr, hb]; simp [hw, hu, hz])
    ·cases hb : d.bd <;> (simp (maxSteps := 4000000) (disch := first | omega | (simp only [LL]; omega)) only [go_sem, dofA_eq, replQ_4, nm, s1, s2, s3, c1, hb, List.cons_append, List.nil_append, mode_89]; rw [hr]; simp [hu])
   ·by_cases hu : 0 < u
    ·cases hb : d.bd <;> (simp (maxSteps := 4000000) (disch := first | omega | (simp only [LL]; omega)) only [go_sem, dofA_eq, replQ_4, nm, s1, s2, s3, c1, hb, List.cons_append, List.nil_append, mode_89]; rw [hr, hb]; simp [hw, hu, hz])
    ·cases hb : d.bd <;> (simp (maxSteps := 4000000) (disch := first | omega | (simp only [LL]; omega)) only [go_sem, dofA_eq, replQ_4, nm, s1, s2, s3, c1, hb, List.cons_append, List.nil_append, mode_89]; rw [hr]; simp [hu])
  ·by_cases hu : 0 < u
   ·cases hb : d.bd <;> (simp (maxSteps := 4000000) (disch := first | omega | (simp only [LL]; omega)) only [go_sem, dofA_eq, replQ_4, nm, s1, s2, s3, c1, hb, List.cons_append, List.nil_append, mode_89]; rw [hr, hb]; simp [hw, hu])
   ·cases hb : d.bd <;> (simp (maxSteps := 4000000) (disch := first | omega | (simp only [LL]; omega)) only [go_sem, dofA_eq, replQ_4, nm, s1, s2, s3, c1, hb, List.cons_append, List.nil_append, mode_89]; rw [hr]; simp [hu])
theorem M_133 [SpC] {x : Rat} {n1 : Nat} [RS x n1] (h : n1 < 2 ^ 24) (n : Int) (hn : 0 ≤ n ∧ n < 100) : M X 133 [.agg [zS (Rat.num (x)), zD (Rat.num (x)), zS (dz (x)), zD (dz (x))], .int .i64 n] = some (.bool (betQ x n)) := by
 refine M_of X (fn := Tryz.f133) Tryz.func133 rfl ok_133 mode_133 res_133 _ rfl _ ?_
 intro r hr
 have s1 := M_90 (x := x) (by omega)
 have o1 := M_44 n 1 (by omega) (by omega)
 have r1 : RS (Rat.divInt n 1) 1 := rs_small (by omega) (by omega)
 have c1 := M_93 (x := x) (y := Rat.divInt n 1) (by omega)
 unfold betQ at hr
 generalize cmpQ x (Rat.divInt n 1) = v at *
 generalize Rat.divInt n 1 = q at *
 generalize cmpQ x 0 = u at *
 by_cases hu : 0 ≤ u
 ·simp (maxSteps := 4000000) (disch := first | omega | (simp only [LL]; omega)) only [go_sem, s1, o1, c1]
  rw [hr]; simp [hu]
 ·simp (maxSteps := 4000000) (disch := first | omega | (simp only [LL]; omega)) only [go_sem, s1, o1, c1]
  rw [hr]; simp [hu]
structure PartB (p : PartR) (N : Nat) : Prop where
 hx : RS p.hx N
 hy : RS p.hy N
 ro : RS p.ro N
 bo : RS p.bo N
 cl : p.cols.length < 2 ^ 20
 cols : ∀ c ∈ p.cols, ok64 c.dof ∧ RS c.x N ∧ RS c.y N ∧ RS c.s N
theorem M_66 [SpC] (p : PartR) (n : Int) (v : Bool) (N : Nat) (hp : PartB p N) (hN : N < 2 ^ 18) (hn : 0 ≤ n ∧ n < 2 ^ 30) (hv : M X 132 [.ro (ptC p.shape) p.shape.length false] = some (.bool v)) :
  M X 66 [.agg (partA p), .int .i64 n] = some (.bool (partOk n v p)) := by
 refine M_of X (fn := Tryz.f66) Tryz.func66 rfl ok_66 mode_66 res_66 _ rfl _ ?_
 intro r hr
 obtain ⟨i1, i2, i3, i4, hc, hd⟩ := hp
 have hcl := cat_length (f := colA) p.cols
 have b1 := M_133 (x := p.ro) (by omega) 4 (by omega)
 have b2 := M_133 (x := p.bo) (by omega) 1 (by omega)
 have psl := ptC_length p.shape
 have nm := M_89 (parN p) (by show 4 < 2 ^ 30; omega) (fun n hn => by
  simp only [parN, List.mem_cons, List.not_mem_nil, or_false] at hn
  rcases hn with rfl | rfl | rfl | rfl
  ·exact nmB_ofQ i1 (by omega)
  ·exact nmB_ofQ i2 (by omega)
  ·exact nmB_ofQ i3 (by omega)
  ·exact nmB_ofQ i4 (by omega))
 have hall : (parN p).all Nm.ok = true := by
  simp only [parN, List.all_cons, List.all_nil, ok_ofQ, Bool.true_and, Bool.and_true]
 rw [hall, cat_parN, show (parN p).length = 4 from rfl] at nm
 unfold partOk at hr
 simp (maxSteps := 4000000) (disch := first | omega | (simp only [LL]; omega)) only [go_sem, partA_eq, hcl, replQ_4, nm, List.cons_append, List.nil_append, mode_89]
 refine W_loop X (fun (j : Nat) t => j ≤ p.cols.length ∧ (∃ last, ok64 last ∧ t.env 5 = .int .i64 last ∧ colsB n (-1) p.cols = colsB n last (p.cols.drop j)) ∧ t.env 1 = .int .i64 n ∧ t.env 2 = .ptr 0 0 ∧ t.env 6 = .int .i64 j ∧ 8 ≤ t.next ∧ t.heap 0 = some (.cells (partA p) false false)) (fun j => p.cols.length - j) ?_ 0 _ ?_
 ·rintro j ⟨env, heap, nx⟩ ⟨hj, ⟨last, hl, g5, hcs⟩, g1, g2, g6, hnx, e0⟩
  simp only at g5 g1 g2 g6 hnx e0
  obtain ⟨hl1, hl2⟩ := hl
  rw [partA_eq] at e0
  by_cases hlt : j < p.cols.length
  ·have hg := List.getElem?_eq_getElem hlt
   have hcd := cat_take (f := colA) hg
   rw [colA_eq] at hcd
   obtain ⟨⟨hd1, hd2⟩, rx, ry, rs⟩ := hd _ (List.getElem_mem hlt)
   rw [List.drop_eq_getElem_cons hlt] at hcs
   have hB : colsB n last (p.cols[j] :: p.cols.drop (j + 1)) = (colB last n p.cols[j] && colsB n p.cols[j].dof (p.cols.drop (j + 1))) := rfl
   rw [hB] at hcs
   have s1 := M_90 (x := p.cols[j].x) (by omega)
   have s2 := M_90 (x := p.cols[j].y) (by omega)
   have s3 := M_90 (x := p.cols[j].s) (by omega)
   have nc := M_89 (colN p.cols[j]) (by show 3 < 2 ^ 30; omega) (fun n hn => by
    simp only [colN, List.mem_cons, List.not_mem_nil, or_false] at hn
    rcases hn with rfl | rfl | rfl
    ·exact nmB_ofQ rx (by omega)
    ·exact nmB_ofQ ry (by omega)
    ·exact nmB_ofQ rs (by omega))
   have hallc : (colN p.cols[j]).all Nm.ok = true := by
    simp only [colN, List.all_cons, List.all_nil, ok_ofQ, Bool.true_and, Bool.and_true]
   rw [hallc, cat_colN, show (colN p.cols[j]).length = 3 from rfl] at nc
   have hD : colB last n p.cols[j] = !(decide (p.cols[j].dof ≤ last) || decide (n ≤ p.cols[j].dof) || (decide (cmpQ p.cols[j].x 0 = 0) && decide (cmpQ p.cols[j].y 0 = 0) && decide (cmpQ p.cols[j].s 0 = 0))) := rfl
   generalize p.cols[j] = c at *
   generalize cmpQ c.x 0 = x at *
   generalize cmpQ c.y 0 = y at *
   generalize cmpQ c.s 0 = z at *
   by_cases hb : colB last n c = true
   ·rw [hb, Bool.true_and] at hcs
    rw [hb] at hD
    have hD' := hD.symm
    simp only [Bool.not_eq_true', Bool.or_eq_false_iff, Bool.and_eq_false_iff, decide_eq_false_iff_not] at hD'
    obtain ⟨⟨u1, u2⟩, u3⟩ := hD'
    by_cases hx : x = 0
    ·by_cases hy : y = 0
     ·have hz : z ≠ 0 := by
       rcases u3 with (u3 | u3) | u3
       ·exact absurd hx u3
       ·exact absurd hy u3
       ·exact u3
      simp (maxSteps := 4000000) (disch := first | omega | (simp only [LL]; omega)) only [go_sem, g5, g1, g2, g6, e0, hcl, hcd, s1, s2, s3, nc, replQ_3, List.cons_append, List.nil_append, mode_89]
      refine ⟨j + 1, ?_, by omega⟩
      refine ⟨by omega, ⟨c.dof, ⟨hd1, hd2⟩, rfl, hcs⟩, ?_⟩
      repeat' apply And.intro
      all_goals first | omega | rfl | assumption | (rw [partA_eq]; assumption) | (rw [partA_eq]; done) | trace_state
     ·simp (maxSteps := 4000000) (disch := first | omega | (simp only [LL]; omega)) only [go_sem, g5, g1, g2, g6, e0, hcl, hcd, s1, s2, s3, nc, replQ_3, List.cons_append, List.nil_append, mode_89]
      refine ⟨j + 1, ?_, by omega⟩
      refine ⟨by omega, ⟨c.dof, ⟨hd1, hd2⟩, rfl, hcs⟩, ?_⟩
      repeat' apply And.intro
      all_goals first | omega | rfl | assumption | (rw [partA_eq]; assumption) | (rw [partA_eq]; done) | trace_state
    ·simp (maxSteps := 4000000) (disch := first | omega | (simp only [LL]; omega)) only [go_sem, g5, g1, g2, g6, e0, hcl, hcd, s1, s2, s3, nc, replQ_3, List.cons_append, List.nil_append, mode_89]
     refine ⟨j + 1, ?_, by omega⟩
     refine ⟨by omega, ⟨c.dof, ⟨hd1, hd2⟩, rfl, hcs⟩, ?_⟩
     repeat' apply And.intro
     all_goals first | omega | rfl | assumption | (rw [partA_eq]; assumption) | (rw [partA_eq]; done) | trace_state
   ·simp only [Bool.not_eq_true] at hb
    rw [hb, Bool.false_and] at hcs
    rw [hcs, Bool.false_and] at hr
    rw [hb] at hD
    have hD' := hD.symm
    by_cases u1 : c.dof ≤ last
    ·simp (maxSteps := 4000000) (disch := first | omega | (simp only [LL]; omega)) only [go_sem, g5, g1, g2, g6, e0, hcl, hcd, s1, s2, s3, nc, replQ_3, List.cons_append, List.nil_append, mode_89]
     rw [hr]
    ·by_cases u2 : n ≤ c.dof
     ·simp (maxSteps := 4000000) (disch := first | omega | (simp only [LL]; omega)) only [go_sem, g5, g1, g2, g6, e0, hcl, hcd, s1, s2, s3, nc, replQ_3, List.cons_append, List.nil_append, mode_89]
      rw [hr]
     ·have u3 : x = 0 ∧ y = 0 ∧ z = 0 := by
       rw [decide_eq_false u1, decide_eq_false u2] at hD'
       simpa [and_assoc] using hD'
      obtain ⟨rfl, rfl, rfl⟩ := u3
      simp (maxSteps := 4000000) (disch := first | omega | (simp only [LL]; omega)) only [go_sem, g5, g1, g2, g6, e0, hcl, hcd, s1, s2, s3, nc, replQ_3, List.cons_append, List.nil_append, mode_89]
      rw [hr]
  ·obtain rfl : j = p.cols.length := by omega
   rw [List.drop_length] at hcs
   rw [hcs, show colsB n last [] = true from rfl, Bool.true_and] at hr
   cases v with
   | false =>
    simp (maxSteps := 4000000) (disch := first | omega | (simp only [LL]; omega)) only [go_sem, g5, g1, g2, g6, e0, hcl, psl, weaks_ptC, hv, b1, b2]
    rw [hr]; rfl
   | true =>
    rw [Bool.true_and] at hr
    cases hb1 : betQ p.ro 4 with
    | false =>
     rw [hb1] at b1 hr
     simp (maxSteps := 4000000) (disch := first | omega | (simp only [LL]; omega)) only [go_sem, g5, g1, g2, g6, e0, hcl, psl, weaks_ptC, hv, b1, b2]
     rw [hr]; rfl
    | true =>
     rw [hb1] at b1 hr
     simp (maxSteps := 4000000) (disch := first | omega | (simp only [LL]; omega)) only [go_sem, g5, g1, g2, g6, e0, hcl, psl, weaks_ptC, hv, b1, b2]
     rw [hr]; rfl
 ·simp (maxSteps := 4000000) (disch := first | omega | (simp only [LL]; omega)) only [go_sem]
  refine ⟨⟨-1, ⟨by omega, by omega⟩, rfl, rfl⟩, ?_⟩
  repeat' apply And.intro
  all_goals first | omega | rfl | (rw [partA_eq]; done) | trace_state
def dirsG : List Dr := [(0, 1, 1), (3, 4, 5), (1, 0, 1), (2, 4, 5), (4, 4, 5)]
theorem nor_ref [SpC] (d : Dr) (h : d ∈ dirsG) : M X 134 [.agg [.int .i64 d.1, .int .i64 d.2.1, .int .i64 d.2.2]] = some (.bool (norB d)) := by
 refine M_of X (fn := Tryz.f134) Tryz.func134 rfl ok_134 mode_134 res_134 _ rfl _ ?_
 intro r hr
 simp only [dirsG, List.mem_cons, List.not_mem_nil, or_false] at h
 have z0 := M_198 0 (by omega)
 have z1 := M_198 1 (by omega)
 have z3 := M_198 3 (by omega)
 have z4 := M_198 4 (by omega)
 have g01 := M_197 0 1 (by omega) (by omega)
 have g34 := M_197 3 4 (by omega) (by omega)
 have g10 := M_197 1 0 (by omega) (by omega)
 have g11 := M_197 1 1 (by omega) (by omega)
 have g15 := M_197 1 5 (by omega) (by omega)
 rw [show (((0 : Int).natAbs : Nat) : Int) = 0 from rfl] at z0
 rw [show (((1 : Int).natAbs : Nat) : Int) = 1 from rfl] at z1
 rw [show (((3 : Int).natAbs : Nat) : Int) = 3 from rfl] at z3
 rw [show (((4 : Int).natAbs : Nat) : Int) = 4 from rfl] at z4
 rw [show ((Int.gcd 0 1 : Nat) : Int) = 1 from rfl] at g01
 rw [show ((Int.gcd 3 4 : Nat) : Int) = 1 from rfl] at g34
 rw [show ((Int.gcd 1 0 : Nat) : Int) = 1 from rfl] at g10
 rw [show ((Int.gcd 1 1 : Nat) : Int) = 1 from rfl] at g11
 rw [show ((Int.gcd 1 5 : Nat) : Int) = 1 from rfl] at g15
 rcases h with rfl | rfl | rfl | rfl | rfl
 all_goals simp (maxSteps := 4000000) (disch := first | omega | (simp only [LL]; omega)) only [go_sem, Int.reduceMul, Int.reduceAdd, z0, z1, z3, z4, g01, g34, g10, g11, g15]
 all_goals (rw [hr]; rfl)
theorem nor_mod [SpC] (d : Dr) (h : d ∈ dirsG) : M X 129 [.agg [.int .i64 d.1, .int .i64 d.2.1, .int .i64 d.2.2]] = some (.bool (norB d)) := by
 refine M_of X (fn := Tryz.f129) Tryz.func129 rfl ok_129 mode_129 res_129 _ rfl _ ?_
 intro r hr
 simp only [dirsG, List.mem_cons, List.not_mem_nil, or_false] at h
 have g01 := M_193 0 1 (by omega) (by omega)
 have g34 := M_193 3 4 (by omega) (by omega)
 have g10 := M_193 1 0 (by omega) (by omega)
 have g11 := M_193 1 1 (by omega) (by omega)
 have g15 := M_193 1 5 (by omega) (by omega)
 rw [show ((Int.gcd 0 1 : Nat) : Int) = 1 from rfl] at g01
 rw [show ((Int.gcd 3 4 : Nat) : Int) = 1 from rfl] at g34
 rw [show ((Int.gcd 1 0 : Nat) : Int) = 1 from rfl] at g10
 rw [show ((Int.gcd 1 1 : Nat) : Int) = 1 from rfl] at g11
 rw [show ((Int.gcd 1 5 : Nat) : Int) = 1 from rfl] at g15
 rcases h with rfl | rfl | rfl | rfl | rfl
 all_goals simp (maxSteps := 4000000) (disch := first | omega | (simp only [LL]; omega)) only [go_sem, Int.reduceMul, Int.reduceAdd, g01, g34, g10, g11, g15]
 all_goals (rw [hr]; rfl)
def dirOk (l : List Dr) (i : Nat) : Bool := norB (l.getD i (0, 0, 0)) && (List.range i).all fun k => !decide (l.getD k (0, 0, 0) = l.getD i (0, 0, 0))
def dirsOk (l : List Dr) : Bool := (List.range l.length).all (dirOk l)
def endsOk (n : Int) (r : RopeR) : Bool := decide (0 ≤ r.a) && decide (r.a < n) && decide (-1 ≤ r.b) && decide (r.b < n) && decide (r.a ≠ r.b) && decide (0 < r.dirs.length) && decide (r.dirs.length ≤ 8) && decide (0 ≤ cmpQ r.len 0)
def ropeOk (n : Int) (r : RopeR) : Bool := endsOk n r && dirsOk r.dirs
structure RopeB (r : RopeR) (N : Nat) : Prop where
 fx : RS r.fx N
 fy : RS r.fy N
 tx : RS r.tx N
 ty : RS r.ty N
 len : RS r.len N
 a : -1000 ≤ r.a ∧ r.a ≤ 1000
 b : -1000 ≤ r.b ∧ r.b ≤ 1000
 dl : r.dirs.length < 2 ^ 10
 dirs : ∀ d ∈ r.dirs, d ∈ dirsG
theorem dir_eq (x y : Dr) : (decide (x.1 = y.1) && (decide (x.2.1 = y.2.1) && decide (x.2.2 = y.2.2))) = decide (x = y) := by
 obtain ⟨a, b, c⟩ := x
 obtain ⟨a', b', c'⟩ := y
 simp only [Prod.mk.injEq, Bool.decide_and]
theorem M_67 [SpC] (q : RopeR) (n : Int) (N : Nat) (hq : RopeB q N) (hN : N < 2 ^ 18) (hn : 0 ≤ n ∧ n < 2 ^ 30) : M X 67 [.agg (ropeA q), .int .i64 n] = some (.bool (ropeOk n q)) := by
 refine M_of X (fn := Tryz.f67) Tryz.func67 rfl ok_67 mode_67 res_67 _ rfl _ ?_
 intro r hr
 obtain ⟨i1, i2, i3, i4, i5, ⟨a1, a2⟩, ⟨b1, b2⟩, hdl, hdd⟩ := hq
 have hcl := cat_length (f := dirA) q.dirs
 have s1 := M_90 (x := q.len) (by omega)
 have nm := M_89 (ropN q) (by show 5 < 2 ^ 30; omega) (fun n hn => by
  simp only [ropN, List.mem_cons, List.not_mem_nil, or_false] at hn
  rcases hn with rfl | rfl | rfl | rfl | rfl
  ·exact nmB_ofQ i1 (by omega)
  ·exact nmB_ofQ i2 (by omega)
  ·exact nmB_ofQ i3 (by omega)
  ·exact nmB_ofQ i4 (by omega)
  ·exact nmB_ofQ i5 (by omega))
 have hall : (ropN q).all Nm.ok = true := by
  simp only [ropN, List.all_cons, List.all_nil, ok_ofQ, Bool.true_and, Bool.and_true]
 rw [hall, cat_ropN, show (ropN q).length = 5 from rfl] at nm
 have hro : ropeOk n q = (endsOk n q && dirsOk q.dirs) := rfl
 have heo : endsOk n q = (decide (0 ≤ q.a) && decide (q.a < n) && decide (-1 ≤ q.b) && decide (q.b < n) && decide (q.a ≠ q.b) && decide (0 < q.dirs.length) && decide (q.dirs.length ≤ 8) && decide (0 ≤ cmpQ q.len 0)) := rfl
 generalize cmpQ q.len 0 = u at *
 have hend : ∀ c : Bool, endsOk n q = c → endsOk n q = c := fun _ h => h
 by_cases c1 : q.a < 0
 ·rw [hro, heo, decide_eq_false (show ¬ 0 ≤ q.a by omega)] at hr
  simp (maxSteps := 4000000) (disch := first | omega | (simp only [LL]; omega)) only [go_sem, ropeA_eq, hcl, replQ_5, nm, s1, List.cons_append, List.nil_append, mode_89]
  rw [hr]; simp
 by_cases c2 : n ≤ q.a
 ·rw [hro, heo, decide_eq_false (show ¬ q.a < n by omega)] at hr
  simp (maxSteps := 4000000) (disch := first | omega | (simp only [LL]; omega)) only [go_sem, ropeA_eq, hcl, replQ_5, nm, s1, List.cons_append, List.nil_append, mode_89]
  rw [hr]; simp
 by_cases c3 : q.b < -1
 ·rw [hro, heo, decide_eq_false (show ¬ -1 ≤ q.b by omega)] at hr
  simp (maxSteps := 4000000) (disch := first | omega | (simp only [LL]; omega)) only [go_sem, ropeA_eq, hcl, replQ_5, nm, s1, List.cons_append, List.nil_append, mode_89]
  rw [hr]; simp
 by_cases c4 : n ≤ q.b
 ·rw [hro, heo, decide_eq_false (show ¬ q.b < n by omega)] at hr
  simp (maxSteps := 4000000) (disch := first | omega | (simp only [LL]; omega)) only [go_sem, ropeA_eq, hcl, replQ_5, nm, s1, List.cons_append, List.nil_append, mode_89]
  rw [hr]; simp
 by_cases c5 : q.a = q.b
 ·rw [hro, heo, decide_eq_false (show ¬ q.a ≠ q.b by omega)] at hr
  simp (maxSteps := 4000000) (disch := first | omega | (simp only [LL]; omega)) only [go_sem, ropeA_eq, hcl, replQ_5, nm, s1, List.cons_append, List.nil_append, mode_89]
  rw [hr]; simp
 by_cases c6 : q.dirs.length = 0
 ·rw [hro, heo, decide_eq_false (show ¬ 0 < q.dirs.length by omega)] at hr
  simp (maxSteps := 4000000) (disch := first | omega | (simp only [LL]; omega)) only [go_sem, ropeA_eq, hcl, replQ_5, nm, s1, List.cons_append, List.nil_append, mode_89]
  rw [hr]; simp
 by_cases c7 : 8 < q.dirs.length
 ·rw [hro, heo, decide_eq_false (show ¬ q.dirs.length ≤ 8 by omega)] at hr
  simp (maxSteps := 4000000) (disch := first | omega | (simp only [LL]; omega)) only [go_sem, ropeA_eq, hcl, replQ_5, nm, s1, List.cons_append, List.nil_append, mode_89]
  rw [hr]; simp
 by_cases c8 : u < 0
 ·rw [hro, heo, decide_eq_false (show ¬ 0 ≤ u by omega)] at hr
  simp (maxSteps := 4000000) (disch := first | omega | (simp only [LL]; omega)) only [go_sem, ropeA_eq, hcl, replQ_5, nm, s1, List.cons_append, List.nil_append, mode_89]
  rw [hr]; simp
 have he1 : endsOk n q = true := by
  rw [heo, decide_eq_true (show 0 ≤ q.a by omega), decide_eq_true (show q.a < n by omega), decide_eq_true (show -1 ≤ q.b by omega), decide_eq_true (show q.b < n by omega), decide_eq_true (show q.a ≠ q.b from c5), decide_eq_true (show 0 < q.dirs.length by omega), decide_eq_true (show q.dirs.length ≤ 8 by omega), decide_eq_true (show 0 ≤ u by omega)]
  rfl
 rw [hro, he1, Bool.true_and] at hr
 unfold dirsOk at hr
 simp (maxSteps := 4000000) (disch := first | omega | (simp only [LL]; omega)) only [go_sem, ropeA_eq, hcl, replQ_5, nm, s1, List.cons_append, List.nil_append, mode_89]
 refine W_loop X (fun (i : Nat) t => i ≤ q.dirs.length ∧ (List.range i).all (dirOk q.dirs) = true ∧ t.env 2 = .ptr 0 0 ∧ t.env 5 = .int .i64 i ∧ 8 ≤ t.next ∧ t.heap 0 = some (.cells (ropeA q) false false)) (fun i => q.dirs.length - i) ?_ 0 _ ?_
 ·rintro i ⟨env, heap, nx⟩ ⟨hi, hall2, g2, g5, hnx, e0⟩
  simp only at g2 g5 hnx e0
  rw [ropeA_eq] at e0
  by_cases hlt : i < q.dirs.length
  ·have hg := getD_some (l := q.dirs) (i := i) hlt (0, 0, 0)
   have hdi := cat_take (f := dirA) hg
   have hno := nor_ref _ (hdd _ (List.mem_of_getElem? hg))
   have hdo : dirOk q.dirs i = (norB (q.dirs.getD i (0, 0, 0)) && (List.range i).all fun k => !decide (q.dirs.getD k (0, 0, 0) = q.dirs.getD i (0, 0, 0))) := rfl
   rw [dirA_eq] at hdi
   cases hnb : norB (q.dirs.getD i (0, 0, 0)) with
   | false =>
    rw [hnb, Bool.false_and] at hdo
    rw [hnb] at hno
    rw [allR_miss hlt hdo] at hr
    simp (maxSteps := 4000000) (disch := first | omega | (simp only [LL]; omega)) only [go_sem, g2, g5, e0, hcl, hdi, hno]
    rw [hr]
   | true =>
    rw [hnb, Bool.true_and] at hdo
    rw [hnb] at hno
    simp (maxSteps := 4000000) (disch := first | omega | (simp only [LL]; omega)) only [go_sem, g2, g5, e0, hcl, hdi, hno]
    refine W_loop X (fun (k : Nat) t => k ≤ i ∧ (List.range k).all (fun k => !decide (q.dirs.getD k (0, 0, 0) = q.dirs.getD i (0, 0, 0))) = true ∧ t.env 2 = .ptr 0 0 ∧ t.env 5 = .int .i64 i ∧ t.env 6 = .int .i64 k ∧ 8 ≤ t.next ∧ t.heap 0 = some (.cells (ropeA q) false false)) (fun k => i - k) ?_ 0 _ ?_
    ·clear g2 g5 hnx e0
     rintro k ⟨env, heap, nx⟩ ⟨hk, hak, g2, g5, g6, hnx, e0⟩
     simp only at g2 g5 g6 hnx e0
     rw [ropeA_eq] at e0
     by_cases h2 : k < i
     ·have hgk := getD_some (l := q.dirs) (i := k) (by omega) (0, 0, 0)
      have hdk := cat_take (f := dirA) hgk
      rw [dirA_eq] at hdk
      have hsk := allR_succ (fun k => !decide (q.dirs.getD k (0, 0, 0) = q.dirs.getD i (0, 0, 0))) k
      have hmiss := fun h => allR_miss (P := fun k => !decide (q.dirs.getD k (0, 0, 0) = q.dirs.getD i (0, 0, 0))) h2 h
      have hmiss2 := fun h => allR_miss (P := dirOk q.dirs) hlt h
      rw [hak] at hsk
      clear hg hgk
      generalize q.dirs.getD k (0, 0, 0) = x at *
      generalize q.dirs.getD i (0, 0, 0) = y at *
      have hxy := dir_eq x y
      cases hb : decide (x = y) with
      | true =>
       rw [hb] at hxy hmiss
       rw [hmiss2 (by rw [hdo]; exact hmiss rfl)] at hr
       clear hmiss hmiss2
       simp (maxSteps := 4000000) (disch := first | omega | (simp only [LL]; omega)) only [go_sem, g2, g5, g6, e0, hcl, hdi, hdk, hxy]
       rw [hr]
      | false =>
       rw [hb] at hxy hsk
       clear hmiss hmiss2
       simp (maxSteps := 4000000) (disch := first | omega | (simp only [LL]; omega)) only [go_sem, g2, g5, g6, e0, hcl, hdi, hdk, hxy]
       refine ⟨k + 1, ?_, by omega⟩
       repeat' apply And.intro
       all_goals first | omega | rfl | exact hsk | (rw [ropeA_eq]; done) | trace_state
     ·obtain rfl : k = i := by omega
      have hsi := allR_succ (dirOk q.dirs) k
      rw [hall2, hdo, hak] at hsi
      simp (maxSteps := 4000000) (disch := first | omega | (simp only [LL]; omega)) only [go_sem, g2, g5, g6, e0, hcl]
      refine ⟨k + 1, ?_, by omega⟩
      repeat' apply And.intro
      all_goals first | omega | rfl | exact hsi | (rw [ropeA_eq]; done) | trace_state
    ·simp (maxSteps := 4000000) (disch := first | omega | (simp only [LL]; omega)) only [go_sem, g2, g5, e0]
     repeat' apply And.intro
     all_goals first | omega | rfl | (rw [ropeA_eq]; done) | trace_state
  ·obtain rfl : i = q.dirs.length := by omega
   rw [hall2] at hr
   simp (maxSteps := 4000000) (disch := first | omega | (simp only [LL]; omega)) only [go_sem, g2, g5, e0, hcl]
   rw [hr]
 ·simp (maxSteps := 4000000) (disch := first | omega | (simp only [LL]; omega)) only [go_sem]
  repeat' apply And.intro
  all_goals first | omega | rfl | (rw [ropeA_eq]; done) | trace_state
end Go.Proofs.YtenhjccadhlgoaaGreat.Abs
