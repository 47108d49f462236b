/-
  Maps from pairs of ints to true: update and lookup, seen from the interpreter. No conditions. model.Pairs: a map of pairs and a sort. No conditions. What the interpreter is told of model.Pairs, and that it is so. No conditions.
-/
import Derived.Test.YtenhjccadhlgoaaGreatQ18
import Derived.WideKeyArr
import Derived.Test.YtenhjccadhlgoaaGreatQ07
import Derived.Test.YtenhjccadhlgoaaGreatQ11
set_option linter.unusedSimpArgs false
set_option linter.unusedVariables false
set_option maxRecDepth 100000
set_option maxHeartbeats 16000000
namespace Go.Proofs.YtenhjccadhlgoaaGreat.Abs
open Go
section
open Go.MapKept
open Go.ChangeMaps (setBlock)
variable {X : Ctx} {ops : Array Oper}
def prV (p : Int × Int) : Value := .agg #[.int .i64 p.1, .int .i64 p.2]
def mEp (ks : List ((Int × Int) × Nat)) : Array MapEntry := (ks.map fun p => ({ key := prV p.1, val := .bool true, born := p.2 } : MapEntry)).toArray
theorem mEp_mem {ks : List ((Int × Int) × Nat)} {e : MapEntry} : e ∈ (mEp ks).toList ↔ ∃ p ∈ ks, e = { key := prV p.1, val := .bool true, born := p.2 } := by
 simp only [mEp, List.mem_map]
 constructor
 ·rintro ⟨p, hp, rfl⟩; exact ⟨p, hp, rfl⟩
 ·rintro ⟨p, hp, rfl⟩; exact ⟨p, hp, rfl⟩
theorem prV_inj {p q : Int × Int} (h : prV p = prV q) : p = q := by
 obtain ⟨a, b⟩ := p
 obtain ⟨c, d⟩ := q
 simpa [prV] using h
def okPr (p : Int × Int) : Prop := (-9223372036854775808 ≤ p.1 ∧ p.1 ≤ 9223372036854775807) ∧ (-9223372036854775808 ≤ p.2 ∧ p.2 ≤ 9223372036854775807)
structure PairKey (P : Program) (k e : TypeId) : Prop where
 hu : P.underlying k = some (.array 2 e)
 he : P.underlying e = some (.int .i64)
 ck : P.cellsOf k = 2
 ce : P.cellsOf e = 1
 kt : P.keyType k = true
 sz : ∃ m, P.types.size = m + 1
theorem PairKey.law {P : Program} {k e : TypeId} (A : PairKey P k e) : WideMaps.KeyLaw P k :=
 WideMaps.ArrKey.law (n := 2) (e := e) ⟨A.hu, by unfold Program.plainKey; rw [A.he], A.ce, A.ck⟩
theorem PairKey.key {P : Program} {k e : TypeId} (A : PairKey P k e) {p : Int × Int} (hp : okPr p) : ∃ l, keyOf P k (prV p) = some l := by
 obtain ⟨m, hm⟩ := A.sz
 obtain ⟨⟨h1, h2⟩, h3, h4⟩ := hp
 have w1 : (Lit.int .i64 p.1).wf = true := by simp [Lit.wf, IntKind.min, IntKind.max, IntKind.bits, IntKind.signed]; omega
 have w2 : (Lit.int .i64 p.2).wf = true := by simp [Lit.wf, IntKind.min, IntKind.max, IntKind.bits, IntKind.signed]; omega
 refine ⟨.string (keyBytes [.int .i64 p.1, .int .i64 p.2]), ?_⟩
 unfold keyOf
 rw [A.hu]
 have hf : (prV p).formed P k = true := by simp [prV, Value.formed, A.hu, A.ck]
 simp only [A.kt, hf, Bool.and_self, if_true, hm]
 have hk : P.keyLits (m + 1 + 1) k (prV p).cells.toList = some [.int .i64 p.1, .int .i64 p.2] := by
  unfold Program.keyLits
  rw [A.hu]
  simp only [prV, Value.cells, A.ck, A.ce, List.length_cons, List.length_nil, if_true]
  simp [List.range_succ, Program.keyLits, A.he, w1, w2]
 rw [hk]; rfl
theorem rep_pair {w : World} {W : Nat → Prop} {μ : Mu} {v : Value} {a b : Int} (h : Rep w W μ v (.agg [.int .i64 a, .int .i64 b])) : v = prV (a, b) := by
 cases h with
 | agg _ vs _ h1 h2 h3 =>
  obtain ⟨l⟩ := vs
  match l, h1 with
  | [x, y], _ =>
   have e1 := rep_int (h2 0 x _ rfl rfl)
   have e2 := rep_int (h2 1 y _ rfl rfl)
   rw [e1, e2]; rfl
theorem NO_opG {nt b0 i : Nat} {l : List Nat} {o : Oper} (ho : ops[i]? = some o) (hdt : ∀ t, o.dst = some t → t < nt) {st : St} {x : XH} {Φ : St → XH → Prop} (hw : wantedA ops st.env o = some true) (R : AV → XH → Prop)
  (hrun : ∀ (base : Nat) (W : Nat → Prop) (μ : Mu) (a : Act) (w : World), StRel X base nt W μ st a w → XRel x base W w → ∃ v w1 y x1, ((execOp a.eval o).run X.P w = .ok (.value v) w1 ∨ (execOp a.eval o).run X.P w = .ok .skip w1 ∧ v = undef) ∧
   R y x1 ∧ Rep w1 W μ v y ∧ SameCells w w1 ∧ Frame base w W w1 W ∧ XRel x1 base W w1)
  (h : ∀ y x1, R y x1 → NO X nt ops b0 l { st with env := putEnv st.env o.dst y } x1 Φ) : NO X nt ops b0 (i :: l) st x Φ := by
 intro base W μ a w hr hx hnext hlt hfree Q hQ
 obtain ⟨v, w1, y, x1, hv, hR, hrep, hsc, hfr, hx1⟩ := hrun base W μ a w hr hx
 simp only [wpOps, ho]
 have hwb : Region.wanted o (yielded ops a.tmps) = true := wanted_sound (base := base) hr.env hw
 simp only [hwb, if_true]
 left
 have hd : ∀ t, o.dst = some t → t < a.tmps.size := fun t ht => by rw [hr.nt]; exact hdt t ht
 have henv : ∀ t, Rep w1 W μ (a.tmps.getD t undef) (st.env t) := fun t => (hr.env t).world hsc
 have hput := putRep (Step.refl base w1 W μ) henv hd hrep
 have fin : wpOps X.P ops Q l (a.put o.dst v) w1 :=
  h y x1 hR base W μ _ w1 ⟨hr.sim.world hsc, hput, by rw [(put_size a o.dst v).1]; exact hr.nt, by rw [(put_size a o.dst v).2]; exact hr.defers, hr.free⟩ hx1 hnext (fun j hj => hlt j (by simp [hj])) (fun j hj k hk => hfree j (by simp [hj]) k hk) Q
   fun st' x' a' w' W' μ' k1 k2 k3 k4 => hQ st' x' a' w' W' μ' k1 (hfr.trans k2) k3 k4
 show o.upon X.P a _ Q ((execOp a.eval o).run X.P w)
 rcases hv with hv | ⟨hv, rfl⟩
 ·rw [hv]; exact fin
 ·rw [hv]; exact fin
theorem NO_stepG (hmix : X.P.follows .mixedOrders = true) (hsp : SpecSound X) {nt b0 i : Nat} {l : List Nat} {d : Option Tmp} {op : Op} {ty : TypeId} {pos : String} {af : Array Edge} {g : Option (Nat × Bool)} (ho : ops[i]? = some ⟨d, op, ty, pos, af, g⟩) (hil : i ∉ l) (hdt : ∀ t, d = some t → t < nt) {st : St} {x : XH} {Φ : St → XH → Prop}
  (h : PN (guardedOp (wantedA ops st.env ⟨d, op, ty, pos, af, g⟩) (evalOp X (callI X) st.env st.heap (b0 + 8 * i) st.next op)) fun e => NO X nt ops b0 l (afterD d st e) x Φ) : NO X nt ops b0 (i :: l) st x Φ := by
 obtain ⟨e, h1, h2⟩ := h
 refine NO_det hmix hsp ho hil hdt (st1 := afterD d st e) (e := e) ?_ h2
 rw [stepOp_some]
 exact ⟨h1, (after_D ⟨d, op, ty, pos, af, g⟩ st e).symm⟩
theorem NO_stepT (hmix : X.P.follows .mixedOrders = true) (hsp : SpecSound X) {nt b0 i : Nat} {l : List Nat} {os : List Oper} {d : Option Tmp} {op : Op} {ty : TypeId} {pos : String} {af : Array Edge} {j : Nat} {wt : Bool} (ho : (⟨os⟩ : Array Oper)[i]? = some ⟨d, op, ty, pos, af, some (j, wt)⟩) (hil : i ∉ l) (hdt : ∀ t, d = some t → t < nt) {st : St} {x : XH} {Φ : St → XH → Prop}
  (h : PN (guardedOp (wantT st.env wt (@gdst ⟨⟨os⟩, os⟩ j)) (evalOp X (callI X) st.env st.heap (b0 + 8 * i) st.next op)) fun e => NO X nt ⟨os⟩ b0 l (afterD d st e) x Φ) : NO X nt ⟨os⟩ b0 (i :: l) st x Φ := by
 refine NO_stepG hmix hsp ho hil hdt ?_
 rw [wantedA_some]
 exact h
theorem NO_updateP {nt b0 i ty tm tk bm clock : Nat} {kt et e0 : TypeId} {p : Int × Int} {ks : List ((Int × Int) × Nat)} {l : List Nat} {o : Oper} (ho : ops[i]? = some o) (hop : o.op = .mapUpdate ty (.tmp tm) (.tmp tk) (.const (.bool true))) (hg : o.guard = none) (hdst : o.dst = none) {st : St} {x : XH} {Φ : St → XH → Prop}
  (hu : X.P.underlying ty = some (.map kt et)) (A : PairKey X.P kt e0) (hm : st.env tm = .ext (.map (some bm))) (hn : st.env tk = .agg [.int .i64 p.1, .int .i64 p.2]) (hb : x bm = some (.map (mEp ks) clock)) (hp : okPr p) (hks : ∀ q ∈ ks, okPr q.1) (hnew : ∀ q ∈ ks, q.1 ≠ p)
  (h : NO X nt ops b0 l st (xput x bm (.map (mEp (ks ++ [(p, clock)])) (clock + 1))) Φ) : NO X nt ops b0 (i :: l) st x Φ := by
 refine NO_op ho hg (fun t' h' => by rw [hdst] at h'; simp at h') (fun y x1 => x1 = xput x bm (.map (mEp (ks ++ [(p, clock)])) (clock + 1))) ?_ ?_
 ·intro base W μ a w hr hx
  have hv : a.eval (.tmp tm) = .map (some bm) := ext_map (hm ▸ hr.env tm)
  have hv2 : a.eval (.tmp tk) = prV p := rep_pair (hn ▸ hr.env tk)
  have hv3 : a.eval (.const (.bool true)) = .bool true := rfl
  obtain ⟨k1, k2, k3⟩ := set_all (w1 := w) (o' := .map (mEp (ks ++ [(p, clock)])) (clock + 1)) hx hb (by simp) (.inl rfl)
  refine ⟨undef, _, .tuple [], _, .inr ⟨?_, rfl⟩, rfl, .tuple _ #[] [] rfl (by simp), k1, k2, k3⟩
  obtain ⟨kl, hkey⟩ := A.key hp
  have K := A.law
  have hbb := (hx bm _ hb).2.2
  have hf : (Instr.findKey kt (prV p) (mEp ks).toList).run X.P w = .ok none w := by
   rcases K.find w hkey (mEp ks).toList (fun e he => by obtain ⟨q, hq, rfl⟩ := mEp_mem.1 he; exact A.key (hks q hq)) with ⟨h1, _⟩ | ⟨j, e, _, h2, h3⟩
   ·exact h1
   ·obtain ⟨q, hq, rfl⟩ := mEp_mem.1 (List.mem_of_getElem? h2)
    exact absurd (prV_inj h3) (hnew q hq)
  have hpush : (mEp ks).push { key := prV p, val := .bool true, born := clock } = mEp (ks ++ [(p, clock)]) := by
   simp [mEp]
  unfold execOp
  rw [hop]
  simp only [hv, hv2, hv3]
  simp only [Instr.mapUpdate, Sem.run_bind, run_underlying hu, Result.andThen, run_getObj_map (hb := hbb), K.check w _ hkey, hf, hpush, run_setObj_map (hb := hbb)]
  rfl
 ·rintro y x1 rfl
  rw [hdst]; exact h
theorem NO_lookupP {nt b0 i ty tm tk bm clock td : Nat} {kt et e0 : TypeId} {p : Int × Int} {ks : List ((Int × Int) × Nat)} {l : List Nat} {o : Oper} (ho : ops[i]? = some o) (hop : o.op = .lookup ty (.tmp tm) (.tmp tk) false) (hdst : o.dst = some td) (htd : td < nt) {st : St} {x : XH} {Φ : St → XH → Prop} (hw : wantedA ops st.env o = some true)
  (hu : X.P.underlying ty = some (.map kt et)) (A : PairKey X.P kt e0) (hz : ∀ w, (zeroValue et).run X.P w = .ok (.bool false) w) (hm : st.env tm = .ext (.map (some bm))) (hn : st.env tk = .agg [.int .i64 p.1, .int .i64 p.2]) (hb : x bm = some (.map (mEp ks) clock)) (hp : okPr p) (hks : ∀ q ∈ ks, okPr q.1)
  (h : NO X nt ops b0 l { st with env := upd st.env td (.bool (ks.any fun q => decide (q.1 = p))) } x Φ) : NO X nt ops b0 (i :: l) st x Φ := by
 refine NO_opG ho (fun t' h' => by rw [hdst] at h'; obtain rfl := Option.some.inj h'; exact htd) hw (fun y x1 => y = .bool (ks.any fun q => decide (q.1 = p)) ∧ x1 = x) ?_ ?_
 ·intro base W μ a w hr hx
  have hv : a.eval (.tmp tm) = .map (some bm) := ext_map (hm ▸ hr.env tm)
  have hv2 : a.eval (.tmp tk) = prV p := rep_pair (hn ▸ hr.env tk)
  obtain ⟨kl, hkey⟩ := A.key hp
  have K := A.law
  have hbb := (hx bm _ hb).2.2
  refine ⟨.bool (ks.any fun q => decide (q.1 = p)), w, _, x, .inl ?_, ⟨rfl, rfl⟩, .bool _ _, ⟨Nat.le_refl _, fun _ _ _ _ h => h⟩, .refl _ _ _, hx⟩
  unfold execOp
  rw [hop]
  simp only [hv, hv2]
  rcases K.find w hkey (mEp ks).toList (fun e he => by obtain ⟨q, hq, rfl⟩ := mEp_mem.1 he; exact A.key (hks q hq)) with ⟨h1, h2⟩ | ⟨j, e, h1, h2, h3⟩
  ·have hany : (ks.any fun q => decide (q.1 = p)) = false := by
    rw [List.any_eq_false]
    intro q hq hqp
    exact h2 _ (mEp_mem.2 ⟨q, hq, rfl⟩) (by rw [of_decide_eq_true hqp])
   rw [hany]
   simp only [Instr.lookup, Sem.run_bind, run_underlying hu, Result.andThen, run_getObj_map (hb := hbb), Sem.run_pure, K.check w _ hkey, h1, hz]
   rfl
  ·obtain ⟨q, hq, rfl⟩ := mEp_mem.1 (List.mem_of_getElem? h2)
   have hany : (ks.any fun q => decide (q.1 = p)) = true := List.any_eq_true.2 ⟨q, hq, decide_eq_true (prV_inj h3)⟩
   rw [hany]
   simp only [Instr.lookup, Sem.run_bind, run_underlying hu, Result.andThen, run_getObj_map (hb := hbb), Sem.run_pure, K.check w _ hkey, h1]
   rfl
 ·rintro y x1 ⟨rfl, rfl⟩
  rw [hdst]; exact h
theorem NO_lookupT {nt b0 i ty tm tk bm clock td : Nat} {os : List Oper} {kt et e0 oty : TypeId} {pos : String} {af : Array Edge} {j : Nat} {p : Int × Int} {ks : List ((Int × Int) × Nat)} {l : List Nat} (ho : (⟨os⟩ : Array Oper)[i]? = some ⟨some td, .lookup ty (.tmp tm) (.tmp tk) false, oty, pos, af, some (j, true)⟩) (htd : td < nt) {st : St} {x : XH} {Φ : St → XH → Prop} (hw : wantT st.env true (@gdst ⟨⟨os⟩, os⟩ j) = some true)
  (hu : X.P.underlying ty = some (.map kt et)) (A : PairKey X.P kt e0) (hz : ∀ w, (zeroValue et).run X.P w = .ok (.bool false) w) (hm : st.env tm = .ext (.map (some bm))) (hn : st.env tk = .agg [.int .i64 p.1, .int .i64 p.2]) (hb : x bm = some (.map (mEp ks) clock)) (hp : okPr p) (hks : ∀ q ∈ ks, okPr q.1)
  (h : NO X nt ⟨os⟩ b0 l { st with env := upd st.env td (.bool (ks.any fun q => decide (q.1 = p))) } x Φ) : NO X nt ⟨os⟩ b0 (i :: l) st x Φ :=
 NO_lookupP ho rfl rfl htd (by rw [wantedA_some]; exact hw) hu A hz hm hn hb hp hks h
end
section
attribute [go_sem] nwQ_normal nwQ_exit nsQ_normal nsQ_exit nbQ_normal nbQ_exit nlQ_normal nlQ_exit
theorem prC_eq (l : List Pt) : prC l = ptC l := by
 induction l with
 | nil => rfl
 | cons p l ih => simp only [prC, ptC, ih]
open Go.Shelf Go.RowKit Go.Lib Go.Sort in
theorem NO_sort_prs [SpC] (hsp : SpecSound X) {ops : Array Oper} {nt b0 i : Nat} {l0 : List Nat} {dst : Option Tmp} {ats : Array TypeId} {ty : TypeId} {pos : String} {af : Array Edge} {ts : Nat} (ho : ops[i]? = some ⟨dst, .call ⟨.value (.func 75), #[.tmp ts, .func 76], ats⟩, ty, pos, af, none⟩) (hdt : ∀ t, dst = some t → t < nt)
  {st : St} {x : XH} {Φ : St → XH → Prop} {lo nx : Nat} {out m : List Pt} (hg : GrowC lo st.heap nx (st.env ts) (ptC out) out.length 2) (hlen : out.length < 2 ^ 40) (hn : out.Nodup) (hm : m.Pairwise lexlt) (hmem : ∀ p, p ∈ out ↔ p ∈ m)
  (h : ∀ heap', GrowC lo heap' nx (st.env ts) (ptC m) m.length 2 → NO X nt ops b0 l0 { st with env := putEnv st.env dst (.tuple []), heap := heap' } x Φ) :
  NO X nt ops b0 (i :: l0) st x Φ := by
 have hme := merge_eq out m hn hm hmem
 have hml : m.length = out.length := by rw [← hme, List.length_mergeSort]
 rcases hg with ⟨e3, ec, e0⟩ | ⟨B, hB, e3, eB⟩
 ·obtain rfl : m = [] := List.eq_nil_of_length_eq_zero (by omega)
  refine NO_sort0 ho Tryz.sortPair rfl rfl rfl hdt (s := .ro [] 0 true) (f := .func (.func 76) [] []) (by simp only [evalsA_cons, evalsA_nil, evalA_tmp, evalA_func, e3, nx_some, mp_some]) (.inr ⟨_, rfl⟩) ⟨_, Tryz.func75, ok_75⟩ ?_
  exact h st.heap (.inl ⟨e3, rfl, rfl⟩)
 ·have hlt : ∀ x y : Pt, ltOf cfP x y = decide (cfP x y < 0) := fun _ _ => rfl
  have hswo : SWO (ltOf cfP) := by
   refine ⟨fun x => ?_, fun x y z h1 h2 => ?_, fun x y z h1 h2 => ?_⟩
   ·rw [hlt, decide_eq_false_iff_not, cfP_neg]; exact lexlt_irrefl x
   ·rw [hlt] at *; simp only [decide_eq_true_eq, cfP_neg] at *; exact lexlt_trans h1 h2
   ·rw [hlt] at *; simp only [decide_eq_false_iff_not, cfP_neg] at *; unfold lexlt at *; omega
  refine NO_sort ho rfl rfl hdt (O := B) (n := out.length) (sz := 2) (cap := none) (G := 76) (caps := []) (xs := []) (ids := []) (by simp only [evalsA_cons, evalsA_nil, evalA_tmp, evalA_func, e3, nx_some, mp_some]) eB ⟨_, Tryz.func75, ok_75⟩
   (by simp only [snaps_nil]) (by simp) (γ := Unit) (fun _ => True) (fun _ => (flatK encP 2 m.toArray).toList.map id) (fun _ => ptC m) ?_ ?_ ?_ ?_
  ·intro _ _
   simp only [ptC_length, List.length_map, Array.length_toList, size_flatK, List.size_toArray, hml]
   exact ⟨trivial, by omega⟩
  ·intro _ _ i v a hv ha
   have hi : i < 2 * m.length := by rw [← ptC_length]; exact (List.getElem?_eq_some_iff.1 ha).1
   have hf := flatP_get m.toArray i (by simpa using hi)
   rw [← prC_eq] at ha
   simp only [List.map_id, Array.getElem?_toList] at hv
   rw [hv, ha] at hf
   rw [prC_get] at ha
   obtain ⟨p, hp, rfl⟩ := Option.map_eq_some_iff.1 ha
   simp only [Option.map_some, Option.some.injEq] at hf
   subst hf
   exact ⟨fun _ _ _ => .int _ _ _, rfl⟩
  ·intro base w W W1 μ hh B' off c cb arr e harr hle hcells hb hW1 hsub hsim hargs
   have hS := sort_pairs mixed hsp Tryz.sortPair Tryz.isAgg96 Tryz.sizeOf96 cfP hswo (fun x y h1 h2 => by
    rw [hlt] at *; simp only [decide_eq_false_iff_not, cfP_neg] at *; exact lexlt_total h1 h2) (F := 75) (G := 76) rfl ⟨_, Tryz.func76, ok_76⟩ (d := out.toArray) (xs := []) (by simpa using hlen) (fun x y => M_76 x.1 x.2 y.1 y.2)
    base w W W1 μ hh B' off c cb arr e harr (by rw [prC_eq]; exact hle) (by rw [prC_eq]; exact hcells) hb hW1 hsub hsim hargs
   rw [List.size_toArray] at hS
   refine hS.mono ?_
   rintro en w' ⟨he, ho⟩
   refine ⟨he, (), trivial, ?_⟩
   have : (out.mergeSort fun x y => !(ltOf cfP) y x) = m := hme
   rw [show out.toArray.toList = out from rfl, this] at ho
   exact ho
  ·intro _ _
   exact h _ (.inr ⟨B, hB, by rw [hml]; exact e3, upd_eq _ _ _⟩)
theorem pairKey [SpC] : PairKey X.P 96 3 := ⟨und_96, und_3, by kernel_rfl, by kernel_rfl, by kernel_rfl, ⟨X.P.types.size - 1, by kernel_rfl⟩⟩
theorem spec_Pairs [SpC] (hsp : SpecSound X) (m : MdlR) (s : StaR) (hpl : m.parts.length < 2 ^ 10) (hsl : m.skip.length < 2 ^ 10) (hh : s.here.length = m.parts.length) (hok : ∀ p ∈ m.skip, okp p) (hnd : m.skip.Nodup) :
  SpecAt X 18 [.agg (mdlA m), .agg (staA s)] (.ro (ptC (pairsV m s.here)) (pairsV m s.here).length false) := by
 refine spec_of (X := X) (fn := Tryz.f18) Tryz.func18 rfl ok_18 [.agg (mdlA m), .agg (staA s)] rfl (.ro (ptC (pairsV m s.here)) (pairsV m s.here).length false) ?_
 have hel := cat_length (f := partA) m.parts
 have hhl := cat_length (f := boolA) s.here
 simp only [Nat.mul_one] at hhl
 have hsk := ptC_length m.skip
 show @NH X 63 ⟨_⟩ _ _ _
 refine NH_seqD mixed hsp (by kernel_rfl) ?_
 simp (maxSteps := 4000000) (disch := first | omega | (simp only [LL]; omega)) only [go_sem, mdlA_eq, staA_eq]
 refine NH_seq ?_
 refine NH_region ?_
 refine NO_makeMap (t := 12) (ty := 119) rfl rfl rfl rfl (by decide) fun bm hbm => ?_
 refine NO_step mixed hsp rfl (by decide) (by rintro t ⟨⟩; decide) ?_
 simp (maxSteps := 4000000) (disch := first | omega | (simp only [LL]; omega)) only [go_sem]
 refine NO_nil ?_
 refine NH_seq ?_
 refine NH_seqD mixed hsp (by kernel_rfl) ?_
 simp (maxSteps := 4000000) (disch := first | omega | (simp only [LL]; omega)) only [go_sem, hsk]
 refine NH_block ?_
 have hu : X.P.underlying 119 = some (.map 96 4) := und_119
 have hpk := pairKey
 have hz : ∀ w, (zeroValue 4).run X.P w = .ok (.bool false) w := Tryz.zeroValue4
 have hskp : ∀ k, k ≤ m.skip.length → ∀ q ∈ skE m.skip k, okPr q.1 := fun k hk q hq => by
  have := (skE_mem hk q.1).1 ⟨q, hq, rfl⟩
  obtain ⟨⟨u1, u2⟩, u3, u4⟩ := hok _ (List.mem_of_mem_take this)
  exact ⟨⟨by omega, by omega⟩, by omega, by omega⟩
 refine NH_loop (fun (k : Nat) t x => k ≤ m.skip.length ∧ t.env 2 = .ptr 0 0 ∧ t.env 3 = .ptr 8 0 ∧ t.env 5 = .ext (.map (some bm)) ∧ t.env 14 = .ro (ptC m.skip) m.skip.length false ∧ t.env 15 = .int .i64 m.skip.length ∧ t.env 16 = .int .i64 k ∧
  t.heap 0 = some (.cells (mdlA m) false false) ∧ t.heap 8 = some (.cells (staA s) false false) ∧ 16 ≤ t.next ∧ x bm = some (.map (mEp (skE m.skip k)) k)) (fun k => m.skip.length - k) ?_ 0 _ _ ?_
 ·rintro k ⟨env, heap, nx⟩ x ⟨hk, g2, g3, g5, g14, g15, g16, e0, e8, hnx, hx⟩
  simp only at g2 g3 g5 g14 g15 g16 e0 e8 hnx
  refine NH_seqD mixed hsp (by kernel_rfl) ?_
  by_cases h1 : k < m.skip.length
  ·have hn := List.getElem?_eq_getElem h1
   have hd := ptC_take m.skip k h1
   have hokk : okPr (m.skip.getD k (0, 0)) := by
    rw [List.getD_eq_getElem?_getD, hn, Option.getD_some]
    obtain ⟨⟨u1, u2⟩, u3, u4⟩ := hok _ (List.getElem_mem h1)
    exact ⟨⟨by omega, by omega⟩, by omega, by omega⟩
   have hnew : ∀ q ∈ skE m.skip k, q.1 ≠ m.skip.getD k (0, 0) := by
    intro q hq he
    have h2 := (skE_mem (by omega) q.1).1 ⟨q, hq, rfl⟩
    rw [he, List.getD_eq_getElem?_getD, hn, Option.getD_some] at h2
    rw [← List.take_append_drop k m.skip, List.drop_eq_getElem_cons h1] at hnd
    exact (List.nodup_append.1 hnd).2.2 _ h2 _ List.mem_cons_self rfl
   have hse : skE m.skip (k + 1) = skE m.skip k ++ [(m.skip.getD k (0, 0), k)] := rfl
   generalize m.skip.getD k (0, 0) = p at *
   simp (maxSteps := 4000000) (disch := first | omega | (simp only [LL]; omega)) only [go_sem, g15, g16]
   refine NH_seqD mixed hsp (by kernel_rfl) ?_
   simp (maxSteps := 4000000) (disch := first | omega | (simp only [LL]; omega)) only [go_sem]
   refine NH_seq ?_
   refine NH_block ?_
   refine NH_seqD mixed hsp (by kernel_rfl) ?_
   simp (maxSteps := 4000000) (disch := first | omega | (simp only [LL]; omega)) only [go_sem, g14, g16, hsk, hd]
   refine NH_region ?_
   refine NO_step mixed hsp rfl (by decide) (by rintro t ⟨⟩; decide) ?_
   simp (maxSteps := 4000000) (disch := first | omega | (simp only [LL]; omega)) only [go_sem, g5]
   refine NO_step mixed hsp rfl (by decide) (by rintro t ⟨⟩; decide) ?_
   simp (maxSteps := 4000000) (disch := first | omega | (simp only [LL]; omega)) only [go_sem]
   refine NO_updateP (bm := bm) (clock := k) (p := p) (ks := skE m.skip k) rfl rfl rfl rfl hu hpk rfl rfl hx hokk (hskp k (by omega)) hnew (NO_nil ?_)
   refine NH_det mixed hsp (by kernel_rfl) ?_
   simp (maxSteps := 4000000) (disch := first | omega | (simp only [LL]; omega)) only [go_sem, g16]
   refine ⟨k + 1, ?_, by omega⟩
   rw [hse]
   repeat' apply And.intro
   all_goals first | omega | rfl | exact xput_same _ _ _ | (simp (maxSteps := 4000000) (disch := first | omega | (simp only [LL]; omega)) only [go_sem]; assumption)
  ·obtain rfl : k = m.skip.length := by omega
   simp (maxSteps := 4000000) (disch := first | omega | (simp only [LL]; omega)) only [go_sem, g15, g16]
   refine NH_seqD mixed hsp (by kernel_rfl) ?_
   simp (maxSteps := 4000000) (disch := first | omega | (simp only [LL]; omega)) only [go_sem]
   refine NH_seqD mixed hsp (by kernel_rfl) ?_
   simp (maxSteps := 4000000) (disch := first | omega | (simp only [LL]; omega)) only [go_sem]
   refine NH_seq ?_
   refine NH_seqD mixed hsp (by kernel_rfl) ?_
   rw [mdlA_eq] at e0
   simp (maxSteps := 4000000) (disch := first | omega | (simp only [LL]; omega)) only [go_sem, g2, e0, hel]
   refine NH_block ?_
   have bnd : m.parts.length * m.parts.length < 2 ^ 20 := by
    have := Nat.mul_le_mul (show m.parts.length ≤ 1023 by omega) (show m.parts.length ≤ 1023 by omega)
    omega
   refine NH_loop (fun (b : Nat) t x => b ≤ m.parts.length ∧ t.env 2 = .ptr 0 0 ∧ t.env 3 = .ptr 8 0 ∧ t.env 5 = .ext (.map (some bm)) ∧ t.env 25 = .int .i64 m.parts.length ∧ t.env 26 = .int .i64 b ∧
    t.heap 8 = some (.cells (staA s) false false) ∧ 16 ≤ t.next ∧ x bm = some (.map (mEp (skE m.skip m.skip.length)) m.skip.length) ∧ GrowC 16 t.heap t.next (t.env 8) (ptC (outK m s.here b)) (outK m s.here b).length 2) (fun b => m.parts.length - b) ?_ 0 _ _ ?_
   ·clear g2 g3 g5 g14 g15 g16 e0 e8 hnx hx
    rintro b ⟨env, heap, nx⟩ x ⟨hb, g2, g3, g5, g25, g26, e8, hnx, hx, hgr⟩
    simp only at g2 g3 g5 g25 g26 e8 hnx hgr
    refine NH_seqD mixed hsp (by kernel_rfl) ?_
    by_cases h2 : b < m.parts.length
    ·simp (maxSteps := 4000000) (disch := first | omega | (simp only [LL]; omega)) only [go_sem, g25, g26]
     refine NH_seqD mixed hsp (by kernel_rfl) ?_
     simp (maxSteps := 4000000) (disch := first | omega | (simp only [LL]; omega)) only [go_sem]
     refine NH_seq ?_
     refine NH_block ?_
     refine NH_seqD mixed hsp (by kernel_rfl) ?_
     simp (maxSteps := 4000000) (disch := first | omega | (simp only [LL]; omega)) only [go_sem, g26]
     refine NH_seqD mixed hsp (by kernel_rfl) ?_
     simp (maxSteps := 4000000) (disch := first | omega | (simp only [LL]; omega)) only [go_sem]
     refine NH_block ?_
     have hbb := cat_drop (f := boolA) (getD_some (l := s.here) (i := b) (by omega) false)
     rw [boolA_eq] at hbb
     simp only [Nat.mul_one] at hbb
     have hol := outK_len m s.here b
     have hcl := colV_len m s.here b
     have hbb2 : b * b + b ≤ m.parts.length * m.parts.length := by
      have := Nat.mul_le_mul (show b + 1 ≤ m.parts.length by omega) (show b + 1 ≤ m.parts.length by omega)
      rw [Nat.add_mul, Nat.mul_add] at this; omega
     have hsucc : outK m s.here (b + 1) = outK m s.here b ++ colV m s.here b b := rfl
     generalize outK m s.here b = o0 at *
     refine NH_loop (fun (a : Nat) t x => a ≤ b ∧ t.env 2 = .ptr 0 0 ∧ t.env 3 = .ptr 8 0 ∧ t.env 5 = .ext (.map (some bm)) ∧ t.env 9 = .int .i64 b ∧ t.env 25 = .int .i64 m.parts.length ∧ t.env 26 = .int .i64 b ∧ t.env 29 = .int .i64 b ∧ t.env 30 = .int .i64 a ∧
      t.heap 8 = some (.cells (staA s) false false) ∧ 16 ≤ t.next ∧ x bm = some (.map (mEp (skE m.skip m.skip.length)) m.skip.length) ∧ GrowC 16 t.heap t.next (t.env 8) (ptC (o0 ++ colV m s.here b a)) (o0 ++ colV m s.here b a).length 2) (fun a => b - a) ?_ 0 _ _ ?_
     ·clear g2 g3 g5 g25 g26 e8 hnx hx hgr
      rintro a ⟨env, heap, nx⟩ x ⟨ha, g2, g3, g5, g9, g25, g26, g29, g30, e8, hnx, hx, hgr⟩
      simp only at g2 g3 g5 g9 g25 g26 g29 g30 e8 hnx hgr
      rw [staA_eq] at e8
      refine NH_seqD mixed hsp (by kernel_rfl) ?_
      by_cases h3 : a < b
      ·simp (maxSteps := 4000000) (disch := first | omega | (simp only [LL]; omega)) only [go_sem, g29, g30]
       refine NH_seqD mixed hsp (by kernel_rfl) ?_
       simp (maxSteps := 4000000) (disch := first | omega | (simp only [LL]; omega)) only [go_sem]
       refine NH_seq ?_
       refine NH_block ?_
       refine NH_seqD mixed hsp (by kernel_rfl) ?_
       simp (maxSteps := 4000000) (disch := first | omega | (simp only [LL]; omega)) only [go_sem, g30]
       refine NH_seqD mixed hsp (by kernel_rfl) ?_
       simp (maxSteps := 4000000) (disch := first | omega | (simp only [LL]; omega)) only [go_sem, g9]
       have haa := cat_drop (f := boolA) (getD_some (l := s.here) (i := a) (by omega) false)
       rw [boolA_eq] at haa
       simp only [Nat.mul_one] at haa
       have hcs : colV m s.here b (a + 1) = colV m s.here b a ++ if pairOk m s.here a b then [((a : Int), (b : Int))] else [] := rfl
       have hca := hcl a
       have hpo : pairOk m s.here a b = ((s.here.getD a false && s.here.getD b false) && m.skip.all (skipOk a b)) := rfl
       rw [skip_any] at hpo
       have hsa := skE_any m.skip ((a : Int), (b : Int))
       generalize m.skip.any (fun q => decide (q = ((a : Int), (b : Int)))) = sk at *
       generalize s.here.getD a false = ba at *
       generalize s.here.getD b false = bb at *
       generalize pairOk m s.here a b = po at *
       refine NH_seq ?_
       refine NH_region ?_
       cases ba with
       | false =>
        refine NO_step mixed hsp rfl (by decide) (by rintro t ⟨⟩; decide) ?_
        simp (maxSteps := 4000000) (disch := first | omega | (simp only [LL]; omega)) only [go_sem, g2, g3, g5, g9, e8, hhl, haa, hbb]
        refine NO_step mixed hsp rfl (by decide) (by rintro t ⟨⟩; decide) ?_
        simp (maxSteps := 4000000) (disch := first | omega | (simp only [LL]; omega)) only [go_sem, g2, g3, g5, g9, e8, hhl, haa, hbb]
        refine NO_step mixed hsp rfl (by decide) (by rintro t ⟨⟩; decide) ?_
        simp (maxSteps := 4000000) (disch := first | omega | (simp only [LL]; omega)) only [go_sem, g2, g3, g5, g9, e8, hhl, haa, hbb]
        refine NO_step mixed hsp rfl (by decide) (by rintro t ⟨⟩; decide) ?_
        simp (maxSteps := 4000000) (disch := first | omega | (simp only [LL]; omega)) only [go_sem, g2, g3, g5, g9, e8, hhl, haa, hbb]
        refine NO_step mixed hsp rfl (by decide) (by rintro t ⟨⟩; decide) ?_
        simp (maxSteps := 4000000) (disch := first | omega | (simp only [LL]; omega)) only [go_sem, g2, g3, g5, g9, e8, hhl, haa, hbb]
        refine NO_step mixed hsp rfl (by decide) (by rintro t ⟨⟩; decide) ?_
        simp (maxSteps := 4000000) (disch := first | omega | (simp only [LL]; omega)) only [go_sem, g2, g3, g5, g9, e8, hhl, haa, hbb]
        refine NO_stepT mixed hsp rfl (by decide) (by rintro t ⟨⟩; decide) ?_
        simp (maxSteps := 4000000) (disch := first | omega | (simp only [LL]; omega)) only [go_sem, g2, g3, g5, g9, e8, hhl, haa, hbb]
        refine NO_stepT mixed hsp rfl (by decide) (by rintro t ⟨⟩; decide) ?_
        simp (maxSteps := 4000000) (disch := first | omega | (simp only [LL]; omega)) only [go_sem, g2, g3, g5, g9, e8, hhl, haa, hbb]
        refine NO_stepT mixed hsp rfl (by decide) (by rintro t ⟨⟩; decide) ?_
        simp (maxSteps := 4000000) (disch := first | omega | (simp only [LL]; omega)) only [go_sem, g2, g3, g5, g9, e8, hhl, haa, hbb]
        refine NO_stepT mixed hsp rfl (by decide) (by rintro t ⟨⟩; decide) ?_
        simp (maxSteps := 4000000) (disch := first | omega | (simp only [LL]; omega)) only [go_sem, g2, g3, g5, g9, e8, hhl, haa, hbb]
        refine NO_stepT mixed hsp rfl (by decide) (by rintro t ⟨⟩; decide) ?_
        simp (maxSteps := 4000000) (disch := first | omega | (simp only [LL]; omega)) only [go_sem, g2, g3, g5, g9, e8, hhl, haa, hbb]
        refine NO_step mixed hsp rfl (by decide) (by rintro t ⟨⟩; decide) ?_
        simp (maxSteps := 4000000) (disch := first | omega | (simp only [LL]; omega)) only [go_sem, g2, g3, g5, g9, e8, hhl, haa, hbb]
        refine NO_step mixed hsp rfl (by decide) (by rintro t ⟨⟩; decide) ?_
        simp (maxSteps := 4000000) (disch := first | omega | (simp only [LL]; omega)) only [go_sem, g2, g3, g5, g9, e8, hhl, haa, hbb]
        refine NO_stepT mixed hsp rfl (by decide) (by rintro t ⟨⟩; decide) ?_
        simp (maxSteps := 4000000) (disch := first | omega | (simp only [LL]; omega)) only [go_sem, g2, g3, g5, g9, e8, hhl, haa, hbb]
        refine NO_stepT mixed hsp rfl (by decide) (by rintro t ⟨⟩; decide) ?_
        simp (maxSteps := 4000000) (disch := first | omega | (simp only [LL]; omega)) only [go_sem, g2, g3, g5, g9, e8, hhl, haa, hbb]
        refine NO_stepT mixed hsp rfl (by decide) (by rintro t ⟨⟩; decide) ?_
        simp (maxSteps := 4000000) (disch := first | omega | (simp only [LL]; omega)) only [go_sem, g2, g3, g5, g9, e8, hhl, haa, hbb]
        refine NO_stepT mixed hsp rfl (by decide) (by rintro t ⟨⟩; decide) ?_
        simp (maxSteps := 4000000) (disch := first | omega | (simp only [LL]; omega)) only [go_sem, g2, g3, g5, g9, e8, hhl, haa, hbb]
        refine NO_step mixed hsp rfl (by decide) (by rintro t ⟨⟩; decide) ?_
        simp (maxSteps := 4000000) (disch := first | omega | (simp only [LL]; omega)) only [go_sem, g2, g3, g5, g9, e8, hhl, haa, hbb]
        refine NO_nil ?_
        refine NH_cond false rfl (by simp) fun _ => ?_
        refine NH_det mixed hsp (by kernel_rfl) ?_
        simp (maxSteps := 4000000) (disch := first | omega | (simp only [LL]; omega)) only [go_sem]
        refine NH_det mixed hsp (by kernel_rfl) ?_
        simp (maxSteps := 4000000) (disch := first | omega | (simp only [LL]; omega)) only [go_sem, g30]
        refine ⟨a + 1, ?_, by omega⟩
        have hcs' : colV m s.here b (a + 1) = colV m s.here b a := by rw [hcs, hpo]; simp
        rw [hcs']
        repeat' apply And.intro
        all_goals first | omega | rfl | assumption | (rw [staA_eq]; simp (maxSteps := 4000000) (disch := first | omega | (simp only [LL]; omega)) only [go_sem]; assumption) | (rw [← List.length_append]; exact growC_mono hgr (fun c hc => by rw [upd_ne _ _ (by omega), upd_ne _ _ (by omega)]) (by omega)) | trace_state
       | true =>
        cases bb with
        | false =>
         refine NO_step mixed hsp rfl (by decide) (by rintro t ⟨⟩; decide) ?_
         simp (maxSteps := 4000000) (disch := first | omega | (simp only [LL]; omega)) only [go_sem, g2, g3, g5, g9, e8, hhl, haa, hbb]
         refine NO_step mixed hsp rfl (by decide) (by rintro t ⟨⟩; decide) ?_
         simp (maxSteps := 4000000) (disch := first | omega | (simp only [LL]; omega)) only [go_sem, g2, g3, g5, g9, e8, hhl, haa, hbb]
         refine NO_step mixed hsp rfl (by decide) (by rintro t ⟨⟩; decide) ?_
         simp (maxSteps := 4000000) (disch := first | omega | (simp only [LL]; omega)) only [go_sem, g2, g3, g5, g9, e8, hhl, haa, hbb]
         refine NO_step mixed hsp rfl (by decide) (by rintro t ⟨⟩; decide) ?_
         simp (maxSteps := 4000000) (disch := first | omega | (simp only [LL]; omega)) only [go_sem, g2, g3, g5, g9, e8, hhl, haa, hbb]
         refine NO_step mixed hsp rfl (by decide) (by rintro t ⟨⟩; decide) ?_
         simp (maxSteps := 4000000) (disch := first | omega | (simp only [LL]; omega)) only [go_sem, g2, g3, g5, g9, e8, hhl, haa, hbb]
         refine NO_step mixed hsp rfl (by decide) (by rintro t ⟨⟩; decide) ?_
         simp (maxSteps := 4000000) (disch := first | omega | (simp only [LL]; omega)) only [go_sem, g2, g3, g5, g9, e8, hhl, haa, hbb]
         refine NO_stepT mixed hsp rfl (by decide) (by rintro t ⟨⟩; decide) ?_
         simp (maxSteps := 4000000) (disch := first | omega | (simp only [LL]; omega)) only [go_sem, g2, g3, g5, g9, e8, hhl, haa, hbb]
         refine NO_stepT mixed hsp rfl (by decide) (by rintro t ⟨⟩; decide) ?_
         simp (maxSteps := 4000000) (disch := first | omega | (simp only [LL]; omega)) only [go_sem, g2, g3, g5, g9, e8, hhl, haa, hbb]
         refine NO_stepT mixed hsp rfl (by decide) (by rintro t ⟨⟩; decide) ?_
         simp (maxSteps := 4000000) (disch := first | omega | (simp only [LL]; omega)) only [go_sem, g2, g3, g5, g9, e8, hhl, haa, hbb]
         refine NO_stepT mixed hsp rfl (by decide) (by rintro t ⟨⟩; decide) ?_
         simp (maxSteps := 4000000) (disch := first | omega | (simp only [LL]; omega)) only [go_sem, g2, g3, g5, g9, e8, hhl, haa, hbb]
         refine NO_stepT mixed hsp rfl (by decide) (by rintro t ⟨⟩; decide) ?_
         simp (maxSteps := 4000000) (disch := first | omega | (simp only [LL]; omega)) only [go_sem, g2, g3, g5, g9, e8, hhl, haa, hbb]
         refine NO_step mixed hsp rfl (by decide) (by rintro t ⟨⟩; decide) ?_
         simp (maxSteps := 4000000) (disch := first | omega | (simp only [LL]; omega)) only [go_sem, g2, g3, g5, g9, e8, hhl, haa, hbb]
         refine NO_step mixed hsp rfl (by decide) (by rintro t ⟨⟩; decide) ?_
         simp (maxSteps := 4000000) (disch := first | omega | (simp only [LL]; omega)) only [go_sem, g2, g3, g5, g9, e8, hhl, haa, hbb]
         refine NO_stepT mixed hsp rfl (by decide) (by rintro t ⟨⟩; decide) ?_
         simp (maxSteps := 4000000) (disch := first | omega | (simp only [LL]; omega)) only [go_sem, g2, g3, g5, g9, e8, hhl, haa, hbb]
         refine NO_stepT mixed hsp rfl (by decide) (by rintro t ⟨⟩; decide) ?_
         simp (maxSteps := 4000000) (disch := first | omega | (simp only [LL]; omega)) only [go_sem, g2, g3, g5, g9, e8, hhl, haa, hbb]
         refine NO_stepT mixed hsp rfl (by decide) (by rintro t ⟨⟩; decide) ?_
         simp (maxSteps := 4000000) (disch := first | omega | (simp only [LL]; omega)) only [go_sem, g2, g3, g5, g9, e8, hhl, haa, hbb]
         refine NO_stepT mixed hsp rfl (by decide) (by rintro t ⟨⟩; decide) ?_
         simp (maxSteps := 4000000) (disch := first | omega | (simp only [LL]; omega)) only [go_sem, g2, g3, g5, g9, e8, hhl, haa, hbb]
         refine NO_step mixed hsp rfl (by decide) (by rintro t ⟨⟩; decide) ?_
         simp (maxSteps := 4000000) (disch := first | omega | (simp only [LL]; omega)) only [go_sem, g2, g3, g5, g9, e8, hhl, haa, hbb]
         refine NO_nil ?_
         refine NH_cond false rfl (by simp) fun _ => ?_
         refine NH_det mixed hsp (by kernel_rfl) ?_
         simp (maxSteps := 4000000) (disch := first | omega | (simp only [LL]; omega)) only [go_sem]
         refine NH_det mixed hsp (by kernel_rfl) ?_
         simp (maxSteps := 4000000) (disch := first | omega | (simp only [LL]; omega)) only [go_sem, g30]
         refine ⟨a + 1, ?_, by omega⟩
         have hcs' : colV m s.here b (a + 1) = colV m s.here b a := by rw [hcs, hpo]; simp
         rw [hcs']
         repeat' apply And.intro
         all_goals first | omega | rfl | assumption | (rw [staA_eq]; simp (maxSteps := 4000000) (disch := first | omega | (simp only [LL]; omega)) only [go_sem]; assumption) | (rw [← List.length_append]; exact growC_mono hgr (fun c hc => by rw [upd_ne _ _ (by omega), upd_ne _ _ (by omega)]) (by omega)) | trace_state
        | true =>
         refine NO_step mixed hsp rfl (by decide) (by rintro t ⟨⟩; decide) ?_
         simp (maxSteps := 4000000) (disch := first | omega | (simp only [LL]; omega)) only [go_sem, g2, g3, g5, g9, e8, hhl, haa, hbb]
         refine NO_step mixed hsp rfl (by decide) (by rintro t ⟨⟩; decide) ?_
         simp (maxSteps := 4000000) (disch := first | omega | (simp only [LL]; omega)) only [go_sem, g2, g3, g5, g9, e8, hhl, haa, hbb]
         refine NO_step mixed hsp rfl (by decide) (by rintro t ⟨⟩; decide) ?_
         simp (maxSteps := 4000000) (disch := first | omega | (simp only [LL]; omega)) only [go_sem, g2, g3, g5, g9, e8, hhl, haa, hbb]
         refine NO_step mixed hsp rfl (by decide) (by rintro t ⟨⟩; decide) ?_
         simp (maxSteps := 4000000) (disch := first | omega | (simp only [LL]; omega)) only [go_sem, g2, g3, g5, g9, e8, hhl, haa, hbb]
         refine NO_step mixed hsp rfl (by decide) (by rintro t ⟨⟩; decide) ?_
         simp (maxSteps := 4000000) (disch := first | omega | (simp only [LL]; omega)) only [go_sem, g2, g3, g5, g9, e8, hhl, haa, hbb]
         refine NO_step mixed hsp rfl (by decide) (by rintro t ⟨⟩; decide) ?_
         simp (maxSteps := 4000000) (disch := first | omega | (simp only [LL]; omega)) only [go_sem, g2, g3, g5, g9, e8, hhl, haa, hbb]
         refine NO_stepT mixed hsp rfl (by decide) (by rintro t ⟨⟩; decide) ?_
         simp (maxSteps := 4000000) (disch := first | omega | (simp only [LL]; omega)) only [go_sem, g2, g3, g5, g9, e8, hhl, haa, hbb]
         refine NO_stepT mixed hsp rfl (by decide) (by rintro t ⟨⟩; decide) ?_
         simp (maxSteps := 4000000) (disch := first | omega | (simp only [LL]; omega)) only [go_sem, g2, g3, g5, g9, e8, hhl, haa, hbb]
         refine NO_stepT mixed hsp rfl (by decide) (by rintro t ⟨⟩; decide) ?_
         simp (maxSteps := 4000000) (disch := first | omega | (simp only [LL]; omega)) only [go_sem, g2, g3, g5, g9, e8, hhl, haa, hbb]
         refine NO_stepT mixed hsp rfl (by decide) (by rintro t ⟨⟩; decide) ?_
         simp (maxSteps := 4000000) (disch := first | omega | (simp only [LL]; omega)) only [go_sem, g2, g3, g5, g9, e8, hhl, haa, hbb]
         refine NO_stepT mixed hsp rfl (by decide) (by rintro t ⟨⟩; decide) ?_
         simp (maxSteps := 4000000) (disch := first | omega | (simp only [LL]; omega)) only [go_sem, g2, g3, g5, g9, e8, hhl, haa, hbb]
         refine NO_step mixed hsp rfl (by decide) (by rintro t ⟨⟩; decide) ?_
         simp (maxSteps := 4000000) (disch := first | omega | (simp only [LL]; omega)) only [go_sem, g2, g3, g5, g9, e8, hhl, haa, hbb]
         refine NO_step mixed hsp rfl (by decide) (by rintro t ⟨⟩; decide) ?_
         simp (maxSteps := 4000000) (disch := first | omega | (simp only [LL]; omega)) only [go_sem, g2, g3, g5, g9, e8, hhl, haa, hbb]
         refine NO_stepT mixed hsp rfl (by decide) (by rintro t ⟨⟩; decide) ?_
         simp (maxSteps := 4000000) (disch := first | omega | (simp only [LL]; omega)) only [go_sem, g2, g3, g5, g9, e8, hhl, haa, hbb]
         refine NO_stepT mixed hsp rfl (by decide) (by rintro t ⟨⟩; decide) ?_
         simp (maxSteps := 4000000) (disch := first | omega | (simp only [LL]; omega)) only [go_sem, g2, g3, g5, g9, e8, hhl, haa, hbb]
         refine NO_lookupT (bm := bm) (clock := m.skip.length) (p := ((a : Int), (b : Int))) (ks := skE m.skip m.skip.length) rfl (by decide) ?_ hu hpk hz rfl rfl hx ⟨⟨by dsimp only; omega, by dsimp only; omega⟩, by dsimp only; omega, by dsimp only; omega⟩ (hskp _ (Nat.le_refl _)) ?_
         ·simp only [gdst_succ, gdst_zero, wantT_some, wantB_t, upd_sel, sel_true, sel_false, ↓Nat.reduceBEq]
         rw [hsa]
         refine NO_stepT mixed hsp rfl (by decide) (by rintro t ⟨⟩; decide) ?_
         simp (maxSteps := 4000000) (disch := first | omega | (simp only [LL]; omega)) only [go_sem, g2, g3, g5, g9, e8, hhl, haa, hbb]
         refine NO_step mixed hsp rfl (by decide) (by rintro t ⟨⟩; decide) ?_
         simp (maxSteps := 4000000) (disch := first | omega | (simp only [LL]; omega)) only [go_sem, g2, g3, g5, g9, e8, hhl, haa, hbb]
         cases sk with
         | true =>
          refine NO_nil ?_
          refine NH_cond false rfl (by simp) fun _ => ?_
          refine NH_det mixed hsp (by kernel_rfl) ?_
          simp (maxSteps := 4000000) (disch := first | omega | (simp only [LL]; omega)) only [go_sem]
          refine NH_det mixed hsp (by kernel_rfl) ?_
          simp (maxSteps := 4000000) (disch := first | omega | (simp only [LL]; omega)) only [go_sem, g30]
          refine ⟨a + 1, ?_, by omega⟩
          have hcs' : colV m s.here b (a + 1) = colV m s.here b a := by rw [hcs, hpo]; simp
          rw [hcs']
          repeat' apply And.intro
          all_goals first | omega | rfl | assumption | (rw [staA_eq]; simp (maxSteps := 4000000) (disch := first | omega | (simp only [LL]; omega)) only [go_sem]; assumption) | (rw [← List.length_append]; exact growC_mono hgr (fun c hc => by rw [upd_ne _ _ (by omega), upd_ne _ _ (by omega)]) (by omega)) | trace_state
         | false =>
          refine NO_nil ?_
          refine NH_cond true rfl (fun _ => ?_) (by simp)
          refine NH_det mixed hsp (by kernel_rfl) ?_
          have hcs' : colV m s.here b (a + 1) = colV m s.here b a ++ [((a : Int), (b : Int))] := by rw [hcs, hpo]; rfl
          have hs2 : o0 ++ colV m s.here b (a + 1) = (o0 ++ colV m s.here b a) ++ [((a : Int), (b : Int))] := by rw [hcs', List.append_assoc]
          have hol2 : (o0 ++ colV m s.here b a).length < 2 ^ 20 := by rw [List.length_append]; omega
          generalize o0 ++ colV m s.here b a = out at *
          have ho2 := ptC_length out
          rcases hgr with ⟨e3, ec, e0⟩ | ⟨B, hB, e3, eB⟩
          ·obtain rfl : out = [] := List.eq_nil_of_length_eq_zero e0
           simp (maxSteps := 4000000) (disch := first | omega | (simp only [LL]; omega)) only [go_sem, e3, replA_1]
           refine NH_det mixed hsp (by kernel_rfl) ?_
           simp (maxSteps := 4000000) (disch := first | omega | (simp only [LL]; omega)) only [go_sem, g30]
           refine ⟨a + 1, ?_, by omega⟩
           rw [← List.length_append, hs2]
           repeat' apply And.intro
           all_goals first | omega | rfl | assumption | (rw [staA_eq]; simp (maxSteps := 4000000) (disch := first | omega | (simp only [LL]; omega)) only [go_sem]; assumption) | exact growC_put _ _ _ _ _ _ _ (by omega) | trace_state
          ·simp (maxSteps := 4000000) (disch := first | omega | (simp only [LL]; omega)) only [go_sem, e3, eB, ho2, replA_1]
           refine NH_det mixed hsp (by kernel_rfl) ?_
           simp (maxSteps := 4000000) (disch := first | omega | (simp only [LL]; omega)) only [go_sem, g30]
           refine ⟨a + 1, ?_, by omega⟩
           rw [← List.length_append, hs2, ptC_snocM, List.length_append]
           repeat' apply And.intro
           all_goals first | omega | rfl | assumption | (rw [staA_eq]; simp (maxSteps := 4000000) (disch := first | omega | (simp only [LL]; omega)) only [go_sem]; assumption) | exact growC_put _ _ _ _ _ _ _ (by omega) | trace_state
      ·obtain rfl : a = b := by omega
       simp (maxSteps := 4000000) (disch := first | omega | (simp only [LL]; omega)) only [go_sem, g29, g30]
       refine NH_seqD mixed hsp (by kernel_rfl) ?_
       simp (maxSteps := 4000000) (disch := first | omega | (simp only [LL]; omega)) only [go_sem]
       refine NH_det mixed hsp (by kernel_rfl) ?_
       simp (maxSteps := 4000000) (disch := first | omega | (simp only [LL]; omega)) only [go_sem, g26]
       refine ⟨a + 1, ?_, by omega⟩
       rw [hsucc]
       repeat' apply And.intro
       all_goals first | omega | rfl | assumption | (rw [staA_eq]; assumption) | exact growC_mono hgr (fun _ _ => rfl) (by omega)
     ·simp only [upd_sel, sel_true, sel_false, ↓Nat.reduceBEq]
      repeat' apply And.intro
      all_goals first | omega | rfl | assumption | (rw [show o0 ++ colV m s.here b 0 = o0 from List.append_nil _]; exact growC_mono hgr (fun _ _ => rfl) (by omega)) | (simp (maxSteps := 4000000) (disch := first | omega | (simp only [LL]; omega)) only [go_sem]; assumption) | (simp (maxSteps := 4000000) (disch := first | omega | (simp only [LL]; omega)) only [go_sem]; exact growC_mono hgr (fun _ _ => rfl) (by omega)) | skip
      all_goals trivial
    ·obtain rfl : b = m.parts.length := by omega
     simp (maxSteps := 4000000) (disch := first | omega | (simp only [LL]; omega)) only [go_sem, g25, g26]
     refine NH_seqD mixed hsp (by kernel_rfl) ?_
     simp (maxSteps := 4000000) (disch := first | omega | (simp only [LL]; omega)) only [go_sem]
     refine NH_seq ?_
     refine NH_region ?_
     refine NO_step mixed hsp rfl (by decide) (by rintro t ⟨⟩; decide) ?_
     simp (maxSteps := 4000000) (disch := first | omega | (simp only [LL]; omega)) only [go_sem]
     have hol := outK_len m s.here m.parts.length
     refine NO_sort_prs hsp (ts := 60) (lo := 16) (nx := nx) (out := outK m s.here m.parts.length) rfl (by rintro t ⟨⟩; decide) ?_ (by omega) (outK_nodup m s.here _) (pairsV_sorted m s.here) (fun q => (mem_outK m s.here q _).trans (mem_pairsV m s.here q).symm) fun heap' hgr' => NO_nil ?_
     ·simp only [upd_sel, sel_true, sel_false, ↓Nat.reduceBEq]; exact hgr
     ·simp only [upd_sel, sel_true, sel_false, ↓Nat.reduceBEq] at hgr'
      refine NH_seqD mixed hsp (by kernel_rfl) ?_
      simp (maxSteps := 4000000) (disch := first | omega | (simp only [LL]; omega)) only [go_sem]
      refine NH_det mixed hsp (by kernel_rfl) ?_
      simp (maxSteps := 4000000) (disch := first | omega | (simp only [LL]; omega)) only [go_sem]
      rw [outN_ret]
      refine ⟨env 8, rfl, ?_⟩
      rcases hgr' with ⟨e3, ec, e0⟩ | ⟨B, hB, e3, eB⟩
      ·generalize pairsV m s.here = l at *
       obtain rfl : l = [] := List.eq_nil_of_length_eq_zero e0
       exact ⟨.ro [] 0 true, [], by rw [e3]; rfl, rfl⟩
      ·refine ⟨.ro (ptC (pairsV m s.here)) (pairsV m s.here).length false, [B], ?_, ?_⟩
       ·rw [e3]
        simp only [depthA, snap_sl, eB, ptC_length, List.drop_zero]
        rw [if_pos (by omega), List.take_of_length_le (by rw [ptC_length]; omega), snaps_ptC, mp_some]
       ·simp only [AV.weak, weaks_ptC]
   ·simp only [upd_sel, sel_true, sel_false, ↓Nat.reduceBEq]
    repeat' apply And.intro
    all_goals first | omega | rfl | (simp (maxSteps := 4000000) (disch := first | omega | (simp only [LL]; omega)) only [go_sem]; assumption) | exact growC_nil _ _ _ _ | skip
    all_goals trivial
 ·simp only [upd_sel, sel_true, sel_false, ↓Nat.reduceBEq]
  repeat' apply And.intro
  all_goals first | omega | rfl | (simp (maxSteps := 4000000) (disch := first | omega | (simp only [LL]; omega)) only [go_sem]; assumption) | exact xput_same _ _ _ | (rw [mdlA_eq]; simp (maxSteps := 4000000) (disch := first | omega | (simp only [LL]; omega)) only [go_sem]; done) | (rw [staA_eq]; simp (maxSteps := 4000000) (disch := first | omega | (simp only [LL]; omega)) only [go_sem]; done) | skip
  all_goals trivial
end
section
theorem ptC_inj : ∀ {a b : List Pt}, ptC a = ptC b → a = b
 | [], [], _ => rfl
 | [], y :: b, h => by simp [ptC] at h
 | x :: a, [], h => by simp [ptC] at h
 | x :: a, y :: b, h => by
  simp only [ptC, List.cons.injEq, AV.int.injEq, true_and] at h
  obtain ⟨h1, h2, h3⟩ := h
  rw [ptC_inj h3, Prod.ext h1 h2]
theorem bools_inj : ∀ {a b : List Bool}, cat boolA a = cat boolA b → a = b
 | [], [], _ => rfl
 | [], y :: b, h => by rw [cat_cons] at h; simp [boolA, cat] at h
 | x :: a, [], h => by rw [cat_cons] at h; simp [boolA, cat] at h
 | x :: a, y :: b, h => by
  rw [cat_cons, cat_cons] at h
  simp only [boolA, List.cons_append, List.nil_append, List.cons.injEq, AV.bool.injEq] at h
  rw [bools_inj h.2, h.1]
theorem rowV_congr {m m' : MdlR} (h : m.skip = m'.skip) (here : List Bool) (a : Nat) : ∀ n, rowV m here a n = rowV m' here a n
 | 0 => rfl
 | n + 1 => by rw [rowV, rowV, rowV_congr h here a n]; unfold pairOk; rw [h]
theorem pairsK_congr {m m' : MdlR} (h : m.skip = m'.skip) (hl : m.parts.length = m'.parts.length) (here : List Bool) : ∀ n, pairsK m here n = pairsK m' here n
 | 0 => rfl
 | n + 1 => by rw [pairsK, pairsK, pairsK_congr h hl here n, rowV_congr h, hl]
structure PairsOk (m : MdlR) (s : StaR) : Prop where
 pl : m.parts.length < 2 ^ 10
 sl : m.skip.length < 2 ^ 10
 hl : s.here.length = m.parts.length
 ok : ∀ p ∈ m.skip, okp p
 nd : m.skip.Nodup
def PairsOf (args : List AV) (x : MdlR × StaR) : Prop := PairsOk x.1 x.2 ∧ args = [.agg (mdlA x.1), .agg (staA x.2)]
def pairsA (m : MdlR) (s : StaR) : AV := .ro (ptC (pairsV m s.here)) (pairsV m s.here).length false
open Classical in
noncomputable def pairsS (args : List AV) : Option AV := if h : ∃ x, PairsOf args x then some (pairsA (Classical.choose h).1 (Classical.choose h).2) else none
theorem pairsS_eq {m : MdlR} {s : StaR} (hm : PairsOk m s) : pairsS [.agg (mdlA m), .agg (staA s)] = some (pairsA m s) := by
 have h : ∃ x, PairsOf [.agg (mdlA m), .agg (staA s)] x := ⟨(m, s), hm, rfl⟩
 unfold pairsS
 rw [dif_pos h]
 have hc := (Classical.choose_spec h).2
 generalize Classical.choose h = x at hc
 simp only [mdlA, staA, List.cons.injEq, AV.agg.injEq, AV.ro.injEq, and_true] at hc
 obtain ⟨⟨_, ⟨_, h1⟩, _, h2, _⟩, _, _, _, h3, _⟩ := hc
 have e1 := ptC_inj h2
 have e2 := bools_inj h3
 unfold pairsA pairsV
 rw [pairsK_congr e1 h1, h1, e2]
@[reducible] noncomputable def spc0 : SpC := ⟨fun _ _ => none⟩
@[reducible] noncomputable def spc1 : SpC := ⟨fun f args => if f = 18 then pairsS args else none⟩
theorem sp0 : SpecSound (@X spc0) := by
 refine specSound_of fun f g hm args r hr => ?_
 unfold X at hm
 try simp only at hm
 split at hm
 ·injection hm with hm
  rw [← hm] at hr
  have hr : (none : Option AV) = some r := hr
  simp at hr
 ·split at hm
  ·simp at hm
  ·split at hm <;> simp at hm
theorem sp1 : SpecSound (@X spc1) := by
 refine specSound_of fun f g hm args r hr => ?_
 unfold X at hm
 try simp only at hm
 split at hm
 ·injection hm with hm
  rw [← hm] at hr
  replace hr : (if f = 18 then pairsS args else none) = some r := hr
  by_cases hf : f = 18
  ·rw [if_pos hf] at hr
   subst hf
   unfold pairsS at hr
   split at hr
   ·rename_i h
    injection hr with hr
    subst hr
    obtain ⟨h1, h2⟩ := Classical.choose_spec h
    generalize Classical.choose h = x at *
    subst h2
    exact SpecAt.same (X := @X spc0) (Y := @X spc1) rfl rfl (@spec_Pairs spc0 sp0 x.1 x.2 h1.pl h1.sl h1.hl h1.ok h1.nd)
   ·simp at hr
  ·rw [if_neg hf] at hr
   simp at hr
 ·split at hm
  ·simp at hm
  ·split at hm <;> simp at hm
theorem spec1_eq {m : MdlR} {s : StaR} (hm : PairsOk m s) : @SpC.spec spc1 18 [.agg (mdlA m), .agg (staA s)] = some (pairsA m s) := by
 show (if 18 = 18 then pairsS _ else none) = _
 rw [if_pos rfl]; exact pairsS_eq hm
end
end Go.Proofs.YtenhjccadhlgoaaGreat.Abs
