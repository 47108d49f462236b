/-
  Maps from ints to true, and a range over one, operation by operation. No conditions. Deleting from a map; sorting by package slices: what the library's contract says, seen from the interpreter. No conditions. A function whose outcome hangs on what is left open on the way, but not at its end; the library's sort of whole numbers and of pairs. No conditions.
-/
import Derived.Test.YtenhjccadhlgoaaGreatQ17
import Derived.Maps.RangeRun
import Derived.Shelf.SlSortCmp.NoneTotal
set_option linter.unusedSimpArgs false
set_option linter.unusedVariables false
set_option maxRecDepth 100000
set_option maxHeartbeats 16000000
namespace Go.Proofs.YtenhjccadhlgoaaGreat.Abs
open Go
section
open Go.ChangeMaps (setBlock)
open Go.MapKept
variable {X : Ctx} {ops : Array Oper}
def xput (x : XH) (B : Nat) (o : Go.Obj) : XH := fun C => if C = B then some o else x C
theorem xput_same (x : XH) (B : Nat) (o : Go.Obj) : xput x B o B = some o := if_pos rfl
theorem xput_ne (x : XH) (B C : Nat) (o : Go.Obj) (h : C ≠ B) : xput x B o C = x C := if_neg h
theorem SameCells.alloc (w : World) (o : Go.Obj) : SameCells w (w.alloc o) := ⟨by show w.heap.size ≤ (w.heap.push o).size; simp, fun B arr e f h => by
 have hlt : B < w.heap.size := heap_lt h
 rw [(heap_alloc w o).2 B hlt]; exact h⟩
theorem Frame.alloc {base : Nat} {w : World} {W : Nat → Prop} (hb : base ≤ w.heap.size) (o : Go.Obj) : Frame base w W (w.alloc o) W :=
 ⟨rfl, rfl, rfl, by show w.heap.size ≤ (w.heap.push o).size; simp, fun B hB => (heap_alloc w o).2 B (by omega), fun _ _ => Iff.rfl, Nat.le_refl _⟩
theorem XRel.alloc {x : XH} {base : Nat} {w : World} {W : Nat → Prop} (h : XRel x base W w) (hb : base ≤ w.heap.size) (hW : ∀ B, W B → B < w.heap.size) (o : Go.Obj) : XRel (xput x w.heap.size o) base W (w.alloc o) := by
 intro B o' hx
 by_cases hB : B = w.heap.size
 ·subst hB
  rw [xput_same] at hx
  obtain rfl := Option.some.inj hx
  exact ⟨hb, fun h => absurd (hW _ h) (by omega), (heap_alloc w _).1⟩
 ·rw [xput_ne _ _ _ _ hB] at hx
  obtain ⟨h1, h2, h3⟩ := h B o' hx
  exact ⟨h1, h2, by rw [(heap_alloc w o).2 B (heap_lt h3)]; exact h3⟩
theorem XRel.fresh {x : XH} {base : Nat} {w : World} {W : Nat → Prop} (h : XRel x base W w) : x w.heap.size = none := by
 cases hx : x w.heap.size with
 | none => rfl
 | some o => have := heap_lt (h _ _ hx).2.2; omega
theorem set_all {x : XH} {base r : Nat} {w w1 : World} {W : Nat → Prop} {o o' : Go.Obj} (h : XRel x base W w) (hr : x r = some o) (hnc : ∀ arr e f, o ≠ .cells arr e f) (hw1 : w1 = w ∨ w1 = w.drew) :
  SameCells w (setBlock w1 r o') ∧ Frame base w W (setBlock w1 r o') W ∧ XRel (xput x r o') base W (setBlock w1 r o') := by
 obtain ⟨h1, h2, h3⟩ := h r o hr
 have hh : (setBlock w1 r o').heap = w.heap.setIfInBounds r o' := by rcases hw1 with rfl | rfl <;> rfl
 have hs := heap_set (o' := o') h3
 refine ⟨⟨by rw [hh]; simp, fun B arr e f hB => ?_⟩, ⟨?_, ?_, ?_, by rw [hh]; simp, fun B hB => ?_, fun _ _ => Iff.rfl, by rcases hw1 with rfl | rfl <;> first | exact Nat.le_refl _ | exact Nat.le_succ _⟩, fun B o2 hx => ?_⟩
 ·have hne : B ≠ r := by rintro rfl; rw [h3] at hB; exact hnc _ _ _ (Option.some.inj hB)
  rw [hh, hs.2 B hne]; exact hB
 ·rcases hw1 with rfl | rfl <;> rfl
 ·rcases hw1 with rfl | rfl <;> rfl
 ·rcases hw1 with rfl | rfl <;> rfl
 ·rw [hh, hs.2 B (by omega)]
 ·by_cases hB : B = r
  ·subst hB
   rw [xput_same] at hx
   obtain rfl := Option.some.inj hx
   exact ⟨h1, h2, by rw [hh]; exact hs.1⟩
  ·rw [xput_ne _ _ _ _ hB] at hx
   obtain ⟨k1, k2, k3⟩ := h B o2 hx
   exact ⟨k1, k2, by rw [hh, hs.2 B hB]; exact k3⟩
theorem ext_map {w : World} {W : Nat → Prop} {μ : Mu} {v : Value} {m : Option Nat} (h : Rep w W μ v (.ext (.map m))) : v = .map m := by cases h; rfl
theorem rep_int {w : World} {W : Nat → Prop} {μ : Mu} {v : Value} {k : IntKind} {n : Int} (h : Rep w W μ v (.int k n)) : v = .int k n := by cases h; rfl
theorem NO_makeMap {nt b0 i ty t : Nat} {l : List Nat} {o : Oper} (ho : ops[i]? = some o) (hop : o.op = .makeMap ty none) (hg : o.guard = none) (hdst : o.dst = some t) (ht : t < nt) {st : St} {x : XH} {Φ : St → XH → Prop}
  (h : ∀ B, x B = none → NO X nt ops b0 l { st with env := upd st.env t (.ext (.map (some B))) } (xput x B (.map #[] 0)) Φ) : NO X nt ops b0 (i :: l) st x Φ := by
 refine NO_op ho hg (fun t' h' => by rw [hdst] at h'; obtain rfl := Option.some.inj h'; exact ht) (fun y x1 => ∃ B, x B = none ∧ y = .ext (.map (some B)) ∧ x1 = xput x B (.map #[] 0)) ?_ ?_
 ·intro base W μ a w hr hx
  refine ⟨.map (some w.heap.size), w.alloc (.map #[] 0), _, _, .inl ?_, ⟨w.heap.size, hx.fresh, rfl, rfl⟩, .extm _ _, .alloc _ _, .alloc hr.sim.ble _, hx.alloc hr.sim.ble hr.sim.wlt _⟩
  unfold execOp
  rw [hop]
  rfl
 ·rintro y x1 ⟨B, hB, rfl, rfl⟩
  rw [hdst]; exact h B hB
end
section
open Go.MapKept
variable {X : Ctx} {ops : Array Oper}
structure SortOut (w : World) (B off : Nat) (vals : List Value) (w' : World) : Prop where
 os : w'.os = w.os
 tape : w'.tape = w.tape
 output : w'.output = w.output
 drawn : w.drawn ≤ w'.drawn
 size : w.heap.size ≤ w'.heap.size
 same : ∀ C, C < w.heap.size → C ≠ B → w'.heap[C]? = w.heap[C]?
 row : ∀ (arr : Array Value) (e : TypeId) (f : Nat × Nat), w.heap[B]? = some (Go.Obj.cells arr e f) → ∃ arr' : Array Value, w'.heap[B]? = some (Go.Obj.cells arr' e f) ∧ arr'.size = arr.size ∧
  ∀ i, i < vals.length → off + i < arr.size → arr'[off + i]? = vals[i]?
theorem SortOut.step {base : Nat} {W : Nat → Prop} {μ : Mu} {w w' : World} {B off : Nat} {vals : List Value} (ho : SortOut w B off vals w') (hb : base ≤ B) (hW : W B) : Step base w W μ w' W μ where
 os := ho.os
 tape := ho.tape
 output := ho.output
 size := ho.size
 same C hC hn := ho.same C hC fun he => by
  subst he
  exact hn.elim (fun h => by omega) (fun h => h hW)
 wsub _ _ h := h
 wsup _ _ h := h
 shape C a e' f' ha := by
  by_cases he : C = B
  ·subst he
   obtain ⟨arr', h1, h2, _⟩ := ho.row _ _ _ ha
   exact ⟨arr', h1, h2⟩
  ·exact ⟨a, by rw [ho.same C (heap_lt ha) he]; exact ha, rfl⟩
 mu _ _ h := h
 drawn := ho.drawn
theorem Sim.sorted {base : Nat} {W : Nat → Prop} {μ : Mu} {h : Heap} {w w' : World} (hs : Sim X base W μ h w) {b : Nat} {cs cs' : List AV} {g : Bool} (hb : h b = some (.cells cs g false)) {B o : Nat} (hm : μ b = some (.at B o)) {vals : List Value}
  (ho : SortOut w B o vals w') (hl : cs'.length = cs.length) (hv : vals.length = cs.length) (hc : ∀ (i : Nat) (v : Value) (a : AV), vals[i]? = some v → cs'[i]? = some a → (∀ w W μ, Rep w W μ v a) ∧ a.isCell = true) :
  Step base w W μ w' W μ ∧ Sim X base W μ (upd h b (some (.cells cs' g false))) w' := by
 obtain ⟨B1, o1, arr, e, m1, m2, m3, m4, m5, m6, m7⟩ := hs.obj b _ hb
 rw [hm] at m1
 simp only [Option.some.injEq, MB.at.injEq] at m1
 obtain ⟨rfl, rfl⟩ := m1
 have hst : Step base w W μ w' W μ := ho.step m2 (m3 rfl)
 refine ⟨hst, ?_, ?_, hs.keepGlob hst, fun C hC => Nat.lt_of_lt_of_le (hs.wlt C hC) ho.size, Nat.le_trans hs.ble ho.size⟩
 ·intro b' ob hb'
  by_cases hbe : b' = b
  ·subst hbe
   rw [upd_eq] at hb'
   cases hb'
   obtain ⟨arr', h1, h2, h3⟩ := ho.row _ _ _ m5
   refine ⟨B, o, arr', e, hm, m2, m3, by simp, h1, by omega, fun i a ha => ?_⟩
   have hi : i < cs'.length := (List.getElem?_eq_some_iff.1 ha).1
   obtain ⟨k1, k2⟩ := hc i (vals[i]'(by omega)) a (List.getElem?_eq_getElem (by omega)) ha
   exact ⟨vals[i]'(by omega), by rw [h3 i (by omega) (by omega)]; exact List.getElem?_eq_getElem (by omega), k1 _ _ _, k2⟩
  ·rw [upd_ne _ _ hbe] at hb'
   obtain ⟨B2, o2, hm2, hlt, _⟩ := hs.lives (b := b') (by simp [hb'])
   refine (hs.obj b' ob hb').keep hst fun B' o' hm' => ?_
   rw [hm2] at hm'
   simp only [Option.some.injEq, MB.at.injEq] at hm'
   obtain ⟨rfl, rfl⟩ := hm'
   exact ⟨ho.same B2 hlt fun he => by subst he; exact hbe (hs.inj b' b B2 o2 o (by simp [hb']) (by simp [hb]) hm2 hm), Iff.rfl⟩
 ·intro b1 b2 B' o1 o2 h1 h2 m1 m2
  have live : ∀ b', upd h b (some (.cells cs' g false)) b' ≠ none → h b' ≠ none := by
   intro b' hb'
   by_cases hbe : b' = b
   ·subst hbe; simp [hb]
   ·rwa [upd_ne _ _ hbe] at hb'
  exact hs.inj b1 b2 B' o1 o2 (live b1 h1) (live b2 h2) m1 m2
theorem grow_of {base : Nat} {w w' : World} {W W' : Nat → Prop} {μ μ' : Mu} (hb : base = w.heap.size) (hs : Step base w W μ w' W' μ') : ∃ q os', w' = Go.Sort.grow (w.drewN q) os' := by
 subst hb
 have hh : w'.heap = w.heap ++ w'.heap.extract w.heap.size w'.heap.size := by
  apply Array.ext_getElem?
  intro i
  by_cases hi : i < w.heap.size
  ·rw [Array.getElem?_append_left hi]; exact hs.same i hi (.inl hi)
  ·rw [Array.getElem?_append_right (by omega), Array.getElem?_extract]
   by_cases hj : i < w'.heap.size
   ·rw [if_pos (by omega)]; congr 1; omega
   ·rw [if_neg (by omega)]; exact Array.getElem?_eq_none (by omega)
 refine ⟨w'.drawn - w.drawn, w'.heap.extract w.heap.size w'.heap.size, ?_⟩
 have hd := hs.drawn
 have h1 := hs.os; have h2 := hs.tape; have h3 := hs.output
 cases w' with
 | mk heap tape drawn os output =>
  simp only at *
  subst h1 h2 h3
  unfold Go.Sort.grow World.drewN
  simp only [World.mk.injEq, and_true, true_and]
  exact ⟨hh, by omega⟩
theorem calls_grow (hmix : X.P.follows .mixedOrders = true) (hsp : SpecSound X) {f : FuncId} {args : List AV} {k : IntKind} {n : Int} (hm : M X f args = some (.int k n)) {base : Nat} {W : Nat → Prop} {μ : Mu} {h : Heap} {w : World} (hs : Sim X base W μ h w)
  {W1 : Nat → Prop} (hW1 : ∀ B, W1 B → W B) {vals : Array Value} (ha : ArgsRep w W1 noMu vals args) :
  (callFunc f vals).run X.P w = .ok (.enter f vals) w ∧ Calls X.P f vals w fun e w' => e = .returned (.int k n) ∧ ∃ q os', w' = Go.Sort.grow (w.drewN q) os' := by
 have hcs := callI_sound hmix hsp
 have hs0 := hs.noHeap hW1
 have both : (∃ fn, X.P.funcs[f]? = some fn ∧ funcOk fn = true) ∧ Calls X.P f vals w fun e w' => ∃ u v h2 W2 μ2, e = .returned u ∧ Step w.heap.size w W1 noMu w' W2 μ2 ∧ Sim X w.heap.size W2 μ2 h2 w' ∧ Rep w' W2 μ2 u v ∧
   ((∃ x ids, snap h2 depthA v = some (x, ids) ∧ AV.int k n = x.weak) ∨ (∃ x, resultTop h2 depthA v = some x ∧ AV.int k n = x.weak)) := by
  unfold M pureCall at hm
  split at hm
  ·rename_i g hg
   obtain ⟨k1, k2⟩ := hsp f g hg args _ hm
   exact ⟨k1, k2 W1 w vals hs0 ha⟩
  ·obtain ⟨⟨v, h2, n2⟩, hc, hk⟩ := nx_eq_some.1 hm
   obtain ⟨hfn, hcall⟩ := hcs.2 f args emptyHeap 0 v h2 n2 hc
   refine ⟨hfn, (hcall w.heap.size W1 noMu w vals hs0 (fun _ _ => rfl) ha).mono ?_⟩
   rintro en w' ⟨u, W2, μ2, rfl, p1, p2, p3, _⟩
   refine ⟨u, v, h2, W2, μ2, rfl, p1, p2, p3, ?_⟩
   simp only at hk
   split at hk
   ·obtain ⟨⟨x, jds⟩, h1, h2⟩ := mp_eq_some.1 hk; exact .inl ⟨x, jds, h1, h2.symm⟩
   ·obtain ⟨x, h1, h2⟩ := mp_eq_some.1 hk; exact .inr ⟨x, h1, h2.symm⟩
   ·simp at hk
 obtain ⟨⟨fn, hf, hok⟩, hcall⟩ := both
 refine ⟨callFunc_runs hf hok vals w, hcall.mono ?_⟩
 rintro en w' ⟨u, v, h2, W2, μ2, rfl, p1, p2, p3, hm⟩
 obtain ⟨W3, μ', _, _, q3, _⟩ := pure_out (base := w.heap.size) (h := emptyHeap) (μ := noMu) hs0 p1 p2 p3 (id := 0) (fun _ _ => rfl) (r := .int k n) (v' := .int k n) (wr := []) rfl hm
 cases q3
 exact ⟨rfl, grow_of rfl p1⟩
theorem NO_sort {nt b0 i : Nat} {l : List Nat} {o : Oper} (ho : ops[i]? = some o) {F G O n sz : Nat} {cap : Option Nat} {oas : Array Operand} {ats : Array TypeId} (hop : o.op = .call ⟨.value (.func F), oas, ats⟩) (hg : o.guard = none) (hdt : ∀ t, o.dst = some t → t < nt)
  {st : St} {x : XH} {Φ : St → XH → Prop} {cs : List AV} {g : Bool} {caps xs : List AV} {ids : List Nat} (hev : evalsA X st.env oas.toList = some [.sl O 0 n cap sz, .func (.func G) [] caps]) (hO : st.heap O = some (.cells cs g false))
  (hfn : ∃ fn, X.P.funcs[F]? = some fn ∧ funcOk fn = true) (hsn : snaps (snap st.heap depthA) caps = some (xs, ids)) (hOi : O ∉ ids)
  {γ : Type} (R : γ → Prop) (vals : γ → List Value) (cells : γ → List AV) (hlen : ∀ y, R y → (cells y).length = cs.length ∧ (vals y).length = cs.length)
  (hrep : ∀ y, R y → ∀ (i : Nat) (v : Value) (a : AV), (vals y)[i]? = some v → (cells y)[i]? = some a → (∀ w W μ, Rep w W μ v a) ∧ a.isCell = true)
  (K : ∀ (base : Nat) (w : World) (W W1 : Nat → Prop) (μ : Mu) (h : Heap) (B off c : Nat) (cb : Array Value) (arr : Array Value) (e : TypeId), w.heap[B]? = some (Go.Obj.cells arr e (0, 0)) → off + cs.length ≤ arr.size → (∀ (i : Nat) (a : AV), cs[i]? = some a → ∃ u, arr[off + i]? = some u ∧ Rep w W μ u a) →
   base ≤ B → W1 B → (∀ B, W1 B → W B) → Sim X base W μ h w → ArgsRep w W1 noMu cb (weaks xs) →
   Calls X.P F #[.slice (some ⟨B, off, none⟩) n c, .func (.func G) #[] cb] w fun e w' => e = .returned (.tuple #[]) ∧ ∃ y, R y ∧ SortOut w B off (vals y) w')
  (h : ∀ y, R y → NO X nt ops b0 l { st with env := putEnv st.env o.dst (.tuple []), heap := upd st.heap O (some (.cells (cells y) g false)) } x Φ) : NO X nt ops b0 (i :: l) st x Φ := by
 intro base W μ a w hr hx hnext hlt hfree Q hQ
 simp only [wpOps, ho]
 have hwb : Region.wanted o (yielded ops a.tmps) = true := by unfold Region.wanted; rw [hg]
 simp only [hwb, if_true]
 left
 have hd : ∀ t, o.dst = some t → t < a.tmps.size := fun t ht => by rw [hr.nt]; exact hdt t ht
 obtain ⟨l1, l2⟩ := evalsA_sound (fun y v => evalA_sound hr.sim hr.env y v) _ _ hev
 obtain ⟨v1, v2, hv⟩ := len_two (l := oas.toList.map a.eval) (by simpa using l1)
 rw [hv] at l2
 have r1 := l2 0 v1 _ rfl rfl
 have r2 := l2 1 v2 _ rfl rfl
 obtain ⟨B, o', arr, e, m1, m2, m3, m4, m5, m6, m7⟩ := hr.sim.obj O _ hO
 cases r2 with
 | func _ _ fi ca _ _ h1 h2 hfi hca =>
 obtain rfl : fi = #[] := Array.eq_empty_of_size_eq_zero (by simpa using h1)
 cases r1 with
 | sl _ _ B2 o2 _ _ c _ _ hm hl hk hsh =>
 rw [hm] at m1
 simp only [Option.some.injEq, MB.at.injEq] at m1
 obtain ⟨rfl, rfl⟩ := m1
 have hcaps : ArgsRep w (lessW W μ ids) noMu ca (weaks xs) := snaps_args hr.sim hsn ⟨h2, hca⟩
 have hW1 : lessW W μ ids B2 := ⟨m3 rfl, fun b hb o3 hm3 => hOi (by
  obtain ⟨cs3, hh3⟩ : ∃ y, st.heap b = some y := by
   cases hh : st.heap b with
   | none => exact absurd hh (snaps_live hsn b hb)
   | some y => exact ⟨y, rfl⟩
  rw [hr.sim.inj O b B2 o2 o3 (by simp [hO]) (by simp [hh3]) hm hm3]; exact hb)⟩
 obtain ⟨fn, hf, hok⟩ := hfn
 have hcall := K base w W (lessW W μ ids) μ st.heap B2 (o2 + 0) c ca arr e m5 (by omega) (fun i a ha => by obtain ⟨u, u1, u2, _⟩ := m7 i a ha; exact ⟨u, u1, u2⟩) m2 hW1 (fun B h => h.1) hr.sim hcaps
 have hrun : (execOp a.eval o).run X.P w = .ok (.enter F #[.slice (some ⟨B2, o2 + 0, none⟩) n c, .func (.func G) #[] ca]) w := by
  have harr : oas.map a.eval = #[.slice (some ⟨B2, o2 + 0, none⟩) n c, .func (.func G) #[] ca] := by
   apply Array.ext'
   rw [Array.toList_map, hv]
  have hcf := callFunc_runs hf hok #[.slice (some ⟨B2, o2 + 0, none⟩) n c, .func (.func G) #[] ca] w
  unfold execOp
  rw [hop]
  have he : a.eval (.func F) = .func (.func F) #[] #[] := rfl
  simp only [resolve, he, Deferred.ofValue, Sem.run_bind, Sem.run_pure, Result.andThen, invoke, harr, Array.empty_append, Array.append_empty]
  exact hcf
 show o.upon X.P a _ Q ((execOp a.eval o).run X.P w)
 rw [hrun]
 refine Calls.mono hcall ?_
 rintro en w1 ⟨rfl, y, hy, hout⟩
 obtain ⟨n1, n2⟩ := hlen y hy
 obtain ⟨s1, s2⟩ := hr.sim.sorted (cs' := cells y) hO hm hout n1 n2 (hrep y hy)
 have hput := putRep s1 hr.env hd (v := .tuple #[]) (x := .tuple []) (.tuple _ #[] [] rfl (by simp))
 exact h y hy base W μ _ w1 ⟨s2, hput, by rw [(put_size a o.dst (.tuple #[])).1]; exact hr.nt, by rw [(put_size a o.dst (.tuple #[])).2]; exact hr.defers, hr.free⟩ (hx.step s1) hnext (fun j hj => hlt j (by simp [hj])) (fun j hj k hk => hfree j (by simp [hj]) k hk) Q
  fun st' x' a' w' W' μ' k1 k2 k3 k4 => hQ st' x' a' w' W' μ' k1 ((Frame.ofStep hr.sim.ble s1).trans k2) k3 k4
end
section
variable {X : Ctx} {ops : Array Oper}
theorem Frame.step {w w' : World} {W W' : Nat → Prop} {μ' : Mu} (h : Frame w.heap.size w W w' W') : Step w.heap.size w W noMu w' W' μ' where
 os := h.os
 tape := h.tape
 output := h.output
 size := h.size
 same B hB _ := h.same B hB
 wsub B hB hW := (h.iff B hB).1 hW
 wsup B hB hW := (h.iff B hB).2 hW
 shape B arr e f ha := ⟨arr, by rw [h.same B (heap_lt ha)]; exact ha, rfl⟩
 mu b m hm := by simp [noMu] at hm
 drawn := h.drawn
def SpecAt (X : Ctx) (f : FuncId) (args : List AV) (r : AV) : Prop := (∃ fn, X.P.funcs[f]? = some fn ∧ funcOk fn = true) ∧
 ∀ (W : Nat → Prop) (w : World) (vals : Array Value), Sim X w.heap.size W noMu emptyHeap w → ArgsRep w W noMu vals args →
  Calls X.P f vals w fun e w' => ∃ u v h2 W2 μ2, e = .returned u ∧ Step w.heap.size w W noMu w' W2 μ2 ∧ Sim X w.heap.size W2 μ2 h2 w' ∧ Rep w' W2 μ2 u v ∧
   ((∃ x ids, snap h2 depthA v = some (x, ids) ∧ r = x.weak) ∨ (∃ x, resultTop h2 depthA v = some x ∧ r = x.weak))
theorem specSound_of (h : ∀ (f : FuncId) (g : List AV → Option AV), X.mode f = .spec g → ∀ (args : List AV) (r : AV), g args = some r → SpecAt X f args r) : SpecSound X := h
theorem Sim.same {X Y : Ctx} (hG : X.G = Y.G) {base : Nat} {W : Nat → Prop} {μ : Mu} {h : Heap} {w : World} (hs : Sim X base W μ h w) : Sim Y base W μ h w :=
 ⟨hs.obj, hs.inj, fun g cs hg => hs.glob g cs (by rw [hG]; exact hg), hs.wlt, hs.ble⟩
theorem SpecAt.same {X Y : Ctx} (hP : X.P = Y.P) (hG : X.G = Y.G) {f : FuncId} {args : List AV} {r : AV} (h : SpecAt X f args r) : SpecAt Y f args r := by
 obtain ⟨h1, h2⟩ := h
 refine ⟨by rw [← hP]; exact h1, fun W w vals hs ha => ?_⟩
 have h3 := h2 W w vals (hs.same hG.symm) ha
 rw [← hP]
 refine h3.mono ?_
 rintro e w' ⟨u, v, h2, W2, μ2, he, p1, p2, p3, p4⟩
 exact ⟨u, v, h2, W2, μ2, he, p1, p2.same hG, p3, p4⟩
def outN (X : Ctx) (fn : Func) (r : AV) : Ex → St → XH → Prop
 | .exit _, _, _ => False
 | _, st, _ => ∃ v, resultsA X fn st = some v ∧ ∃ x ids, snap st.heap depthA v = some (x, ids) ∧ r = x.weak
theorem outN_ret (fn : Func) (r : AV) (st : St) (x : XH) : outN X fn r .ret st x = ∃ v, resultsA X fn st = some v ∧ ∃ x ids, snap st.heap depthA v = some (x, ids) ∧ r = x.weak := rfl
theorem spec_of {f : FuncId} {fn : Func} {c : Code} (hf : X.P.funcs[f]? = some fn) (hb : fn.body = some c) (hok : funcOk fn = true) (args : List AV) (hl : (args.length == fn.params.size + fn.nfree) = true) (r : AV)
  (h : NW X fn.ntmps c ⟨argEnv args, emptyHeap, 0⟩ (fun _ => none) (outN X fn r)) :
  SpecAt X f args r := by
 refine ⟨⟨fn, hf, hok⟩, fun W w vals hs ha => ?_⟩
 have hok' := hok
 unfold funcOk at hok'
 rw [hb] at hok'
 simp only [Bool.and_eq_true, decide_eq_true_eq] at hok'
 obtain ⟨⟨hcode', _⟩, hnt⟩ := hok'
 have hsz : args.length = fn.params.size + fn.nfree := by simpa using hl
 have main : StRel X w.heap.size fn.ntmps W noMu ⟨argEnv args, emptyHeap, 0⟩ { tmps := vals ++ Array.replicate (fn.ntmps - vals.size) undef, defers := [] } w := by
  refine ⟨hs, fun t => ?_, by simp [ha.1]; omega, rfl, fun _ _ => rfl⟩
  simp only [argEnv, Array.getD_eq_getD_getElem?, List.getD_eq_getElem?_getD]
  by_cases ht : t < vals.size
  ·rw [Array.getElem?_append_left ht, Array.getElem?_eq_getElem ht, List.getElem?_eq_getElem (by rw [← ha.1]; exact ht)]
   exact ha.2 t _ _ (Array.getElem?_eq_getElem ht) (List.getElem?_eq_getElem (by rw [← ha.1]; exact ht))
  ·rw [Array.getElem?_append_right (by omega), List.getElem?_eq_none (by rw [← ha.1]; omega), Array.getElem?_replicate]
   split <;> exact .tuple _ #[] [] rfl (by simp)
 refine calls_of_wp hf hb (h w.heap.size W noMu _ w main (fun B o hx => by simp at hx) _ fun ex st' x' a' w' W' μ' hp f1 r1 x1 => ?_)
 have key : ∀ v, resultsA X fn st' = some v → (∃ x ids, snap st'.heap depthA v = some (x, ids) ∧ r = x.weak) → ∃ u, (results fn a'.tmps).run X.P w' = .ok u w' ∧ ∃ u' v h2 W2 μ2, Ending.returned u = .returned u' ∧ Step w.heap.size w W noMu w' W2 μ2 ∧ Sim X w.heap.size W2 μ2 h2 w' ∧ Rep w' W2 μ2 u' v ∧
    ((∃ x ids, snap h2 depthA v = some (x, ids) ∧ r = x.weak) ∨ (∃ x, resultTop h2 depthA v = some x ∧ r = x.weak)) := by
  intro v hv hs
  obtain ⟨u, hu, hrep⟩ := results_sound r1 hv
  exact ⟨u, hu, u, v, st'.heap, W', μ', rfl, f1.step, r1.sim, hrep, .inl hs⟩
 cases ex with
 | exit i => exact hp.elim
 | normal => obtain ⟨v, hv, hs⟩ := hp; exact ⟨r1.defers, key v hv hs⟩
 | ret => obtain ⟨v, hv, hs⟩ := hp; exact ⟨r1.defers, key v hv hs⟩
def NH (X : Ctx) (nt : Nat) [c : HC] (st : St) (x : XH) (Φ : Ex → St → XH → Prop) : Prop := NW X nt c.code st x Φ
def nwQ (X : Ctx) (nt : Nat) [c : HC] (x : XH) (Φ : Ex → St → XH → Prop) : Ex → St → Prop
 | .normal, s => NH X nt s x Φ
 | e, s => Φ e s x
theorem nwQ_normal (nt : Nat) [c : HC] (x : XH) (Φ : Ex → St → XH → Prop) (s : St) : nwQ X nt x Φ .normal s = NH X nt s x Φ := nr rfl
theorem nwQ_exit (nt : Nat) [c : HC] (x : XH) (Φ : Ex → St → XH → Prop) (s : St) (i : Nat) : nwQ X nt x Φ (.exit i) s = Φ (.exit i) s x := nr rfl
theorem NH_seqD (hmix : X.P.follows .mixedOrders = true) (hsp : SpecSound X) {nt : Nat} {b c : Code} (hok : codeOk nt b = true) {st : St} {x : XH} {Φ : Ex → St → XH → Prop} (h : @W X ⟨b⟩ st (@nwQ X nt ⟨c⟩ x Φ)) : @NH X nt ⟨.seq b c⟩ st x Φ := by
 refine NW_seq (NW_det hmix hsp hok h fun e s hh => ?_)
 cases e <;> exact hh
theorem NH_det (hmix : X.P.follows .mixedOrders = true) (hsp : SpecSound X) {nt : Nat} {b : Code} (hok : codeOk nt b = true) {st : St} {x : XH} {Φ : Ex → St → XH → Prop} (h : @W X ⟨b⟩ st fun e s => Φ e s x) : @NH X nt ⟨b⟩ st x Φ :=
 NW_det hmix hsp hok h fun _ _ hh => hh
def nsQ (X : Ctx) (nt : Nat) [c : HC] (Φ : Ex → St → XH → Prop) : Ex → St → XH → Prop
 | .normal, s, x => NH X nt s x Φ
 | e, s, x => Φ e s x
theorem nsQ_normal (nt : Nat) [c : HC] (x : XH) (Φ : Ex → St → XH → Prop) (s : St) : nsQ X nt Φ .normal s x = NH X nt s x Φ := nr rfl
theorem nsQ_exit (nt : Nat) [c : HC] (x : XH) (Φ : Ex → St → XH → Prop) (s : St) (i : Nat) : nsQ X nt Φ (.exit i) s x = Φ (.exit i) s x := nr rfl
theorem NH_seq {nt : Nat} {b c : Code} {st : St} {x : XH} {Φ : Ex → St → XH → Prop} (h : @NH X nt ⟨b⟩ st x (@nsQ X nt ⟨c⟩ Φ)) : @NH X nt ⟨.seq b c⟩ st x Φ := by
 refine NW_seq (NW_mono h fun e s x' hh => ?_)
 cases e <;> exact hh
def nbQ (i : Nat) (Φ : Ex → St → XH → Prop) : Ex → St → XH → Prop
 | .exit j, s, x => if j = i then Φ .normal s x else Φ (.exit j) s x
 | e, s, x => Φ e s x
theorem nbQ_normal (i : Nat) (x : XH) (Φ : Ex → St → XH → Prop) (s : St) : nbQ i Φ .normal s x = Φ .normal s x := nr rfl
theorem nbQ_exit (i j : Nat) (x : XH) (Φ : Ex → St → XH → Prop) (s : St) : nbQ i Φ (.exit j) s x = if j = i then Φ .normal s x else Φ (.exit j) s x := nr rfl
theorem NH_block {nt i : Nat} {b : Code} {st : St} {x : XH} {Φ : Ex → St → XH → Prop} (h : @NH X nt ⟨b⟩ st x (nbQ i Φ)) : @NH X nt ⟨.block i b⟩ st x Φ := by
 refine NW_block (NW_mono h fun e s x' hh => ?_)
 cases e <;> exact hh
theorem NH_cond {nt : Nat} {v : Operand} {b c : Code} {st : St} {x : XH} {Φ : Ex → St → XH → Prop} (t : Bool) (hv : evalA X st.env v = some (.bool t)) (h1 : t = true → @NH X nt ⟨b⟩ st x Φ) (h2 : t = false → @NH X nt ⟨c⟩ st x Φ) : @NH X nt ⟨.cond v b c⟩ st x Φ := NW_cond t hv h1 h2
def nlQ {α : Type} (I : α → St → XH → Prop) (m : α → Nat) (g : α) (Φ : Ex → St → XH → Prop) : Ex → St → XH → Prop
 | .normal, s, x => ∃ g', I g' s x ∧ m g' < m g
 | e, s, x => Φ e s x
theorem nlQ_normal {α : Type} (I : α → St → XH → Prop) (m : α → Nat) (g : α) (Φ : Ex → St → XH → Prop) (s : St) (x : XH) : nlQ I m g Φ .normal s x = ∃ g', I g' s x ∧ m g' < m g := nr rfl
theorem nlQ_exit {α : Type} (I : α → St → XH → Prop) (m : α → Nat) (g : α) (Φ : Ex → St → XH → Prop) (s : St) (x : XH) (i : Nat) : nlQ I m g Φ (.exit i) s x = Φ (.exit i) s x := nr rfl
theorem NH_loop {α : Type} {nt : Nat} {b : Code} {Φ : Ex → St → XH → Prop} (I : α → St → XH → Prop) (m : α → Nat)
  (step : ∀ g s x, I g s x → @NH X nt ⟨b⟩ s x (nlQ I m g Φ)) : ∀ g s x, I g s x → @NH X nt ⟨.loop b⟩ s x Φ := by
 refine NW_loop I m fun g s x h => NW_mono (step g s x h) fun e s' x' hh => ?_
 cases e <;> exact hh
theorem NH_region {nt id : Nat} {l : List Oper} {st : St} {x : XH} {Φ : Ex → St → XH → Prop} (h : NO X nt ⟨l⟩ st.next (List.range l.length) { st with next := st.next + 8 * l.length } x fun s x' => Φ .normal s x') : @NH X nt ⟨.region id ⟨l⟩ false⟩ st x Φ := NW_region h
theorem NO_step (hmix : X.P.follows .mixedOrders = true) (hsp : SpecSound X) {nt b0 i : Nat} {l : List Nat} {d : Option Tmp} {op : Op} {ty : TypeId} {pos : String} {af : Array Edge} (ho : ops[i]? = some ⟨d, op, ty, pos, af, none⟩) (hil : i ∉ l) (hdt : ∀ t, d = some t → t < nt) {st : St} {x : XH} {Φ : St → XH → Prop}
  (h : PN (evalOp X (callI X) st.env st.heap (b0 + 8 * i) st.next op) fun e => NO X nt ops b0 l (afterD d st e) x Φ) : NO X nt ops b0 (i :: l) st x Φ := by
 obtain ⟨e, h1, h2⟩ := h
 refine NO_det hmix hsp ho hil hdt (st1 := afterD d st e) (e := e) ?_ h2
 rw [stepOp_some]
 refine ⟨?_, (after_D ⟨d, op, ty, pos, af, none⟩ st e).symm⟩
 show guardedOp (wantedA ops st.env ⟨d, op, ty, pos, af, none⟩) _ = _
 rw [wantedA_none, guardedOp_true]; exact h1
open Go.Shelf Go.RowKit Go.Lib Go.Sort
theorem sortOut1 {α : Type} [Inhabited α] (enc : α → Value) (w : World) (B off m : Nat) (dk : Array α) (os : Array Go.Obj) (hB : B < w.heap.size) : SortOut w B off (dk.toList.map enc) (sortWorld enc w B off m dk os) where
 os := rfl
 tape := rfl
 output := rfl
 drawn := Nat.le_add_right _ _
 size := by
  show w.heap.size ≤ ((w.heap.modify B (onCells (putCells enc off dk))) ++ os).size
  simp
 same C hC hne := by
  show ((w.heap.modify B (onCells (putCells enc off dk))) ++ os)[C]? = _
  rw [Array.getElem?_append_left (by simpa using hC), Array.getElem?_modify, if_neg (Ne.symm hne)]
 row arr e f ha := by
  refine ⟨putCells enc off dk arr, ?_, by simp [putCells], fun i hi ho => ?_⟩
  ·show ((w.heap.modify B (onCells (putCells enc off dk))) ++ os)[B]? = _
   rw [Array.getElem?_append_left (by simpa using hB), Array.getElem?_modify, if_pos rfl, ha]
   rfl
  ·have hi' : i < dk.size := by simpa using hi
   simp only [putCells, Array.getElem?_mapIdx, Array.getElem?_eq_getElem ho, Option.map_some]
   rw [if_pos ⟨by omega, by omega⟩, show off + i - off = i by omega, getElem!_pos dk i hi']
   simp [hi']
theorem sortOutK {α : Type} [Inhabited α] (enc : α → List Value) (k : Nat) (w : World) (B off m : Nat) (dk : Array α) (os : Array Go.Obj) (hB : B < w.heap.size) : SortOut w B off ((flatK enc k dk).toList.map id) (sortWorldK enc k w B off m dk os) :=
 sortOut1 id w B off m (flatK enc k dk) os hB
theorem Sim.bare {base : Nat} {W : Nat → Prop} {μ : Mu} {h : Heap} {w : World} (hs : Sim X base W μ h w) {W1 : Nat → Prop} (hsub : ∀ B, W1 B → W B) : Sim X base W1 noMu emptyHeap w where
 obj b o hb := by simp [emptyHeap] at hb
 inj b b' B o o' hb := by simp [emptyHeap] at hb
 glob g cs hg := by
  obtain ⟨h1, h2, us, h3⟩ := hs.glob g cs hg
  refine ⟨h1, fun hW => h2 (hsub _ hW), us, fun i a ha => ?_⟩
  obtain ⟨k1, k2, k3⟩ := h3 i a ha
  exact ⟨k1, k2.step (Step.shrink w noMu hsub), k3⟩
 wlt B hB := hs.wlt B (hsub B hB)
 ble := hs.ble
theorem calls_behind (hmix : X.P.follows .mixedOrders = true) (hsp : SpecSound X) {G : Nat} {pre xs : List AV} {n : Int} (hcmp : M X G (pre ++ weaks xs) = some (.int .i64 n)) {base : Nat} {w : World} {W W1 : Nat → Prop} {μ : Mu} {h : Heap} (hs : Sim X base W μ h w) (hsub : ∀ B, W1 B → W B)
  {cb : Array Value} (ha : ArgsRep w W1 noMu cb (weaks xs)) {w1 : World} (st : Step base w W1 noMu w1 W1 noMu) {vs : Array Value} (hv : ArgsRep w1 W1 noMu vs pre) :
  Calls X.P G (vs ++ cb) w1 fun e w' => e = .returned (.int .i64 n) ∧ ∃ q os', w' = Go.Sort.grow (w1.drewN q) os' := by
 have sim0 : Sim X base W1 noMu emptyHeap w := hs.bare hsub
 have sim1 := sim0.keep st (fun _ _ => rfl) (fun b B o' hb => by simp [emptyHeap] at hb) (fun C hC => Nat.lt_of_lt_of_le (sim0.wlt C hC) st.size)
 refine (calls_grow hmix hsp hcmp sim1 (fun _ h => h) (vals := vs ++ cb) ⟨by simp [ha.1, hv.1], fun i v a hv' haa => ?_⟩).2
 by_cases hi : i < vs.size
 ·rw [Array.getElem?_append_left hi] at hv'
  rw [List.getElem?_append_left (by rw [← hv.1]; exact hi)] at haa
  exact hv.2 i v a hv' haa
 ·rw [Array.getElem?_append_right (by omega)] at hv'
  rw [List.getElem?_append_right (by rw [← hv.1]; omega), ← hv.1] at haa
  exact (ha.2 _ v a hv' haa).step st
def encP (p : Int × Int) : List Value := [.int .i64 p.1, .int .i64 p.2]
def prC : List (Int × Int) → List AV
 | [] => []
 | (a, b) :: l => .int .i64 a :: .int .i64 b :: prC l
theorem prC_get (l : List (Int × Int)) : ∀ i, (prC l)[i]? = (l[i / 2]?).map fun p => .int .i64 (if i % 2 = 0 then p.1 else p.2) := by
 induction l with
 | nil => intro i; simp [prC]
 | cons p l ih =>
  intro i
  match i with
  | 0 => rfl
  | 1 => rfl
  | i + 2 =>
   show (prC l)[i]? = _
   rw [ih i, show (i + 2) / 2 = i / 2 + 1 by omega, show (i + 2) % 2 = i % 2 by omega]
   rfl
theorem flatP_get (d : Array (Int × Int)) (i : Nat) (hi : i < 2 * d.size) : (flatK encP 2 d)[i]? = (prC d.toList)[i]?.map fun a => match a with | .int k n => Value.int k n | _ => undef := by
 have h1 : i / 2 < d.size := by omega
 rw [prC_get, Array.getElem?_eq_getElem (by rw [size_flatK]; omega)]
 have hg := get_flatK encP 2 d i (by omega)
 rw [getElem!_pos _ i (by rw [size_flatK]; omega)] at hg
 rw [hg, getElem!_pos d _ h1]
 simp only [Array.getElem?_toList, Array.getElem?_eq_getElem h1, Option.map_some, encP]
 rcases Nat.mod_two_eq_zero_or_one i with hm | hm <;> rw [hm] <;> rfl
theorem sort_pairs (hmix : X.P.follows .mixedOrders = true) (hsp : SpecSound X) {ρ : Ren} (L : SlLaysF0.n6 X.P ρ) (aE : ∀ w, (isAgg (ρ.t 24)).run X.P w = .ok true w) (zE : ∀ w, (Go.sizeOf (ρ.t 24)).run X.P w = .ok 2 w) (cf : Int × Int → Int × Int → Int) (hO : SWO (ltOf cf))
  (hT : ∀ x y, (ltOf cf) x y = false → (ltOf cf) y x = false → x = y) {F G : Nat} (hF : ρ.f 6 = F) (hG : ∃ fn, X.P.funcs[G]? = some fn ∧ funcOk fn = true)
  {d : Array (Int × Int)} {xs : List AV} (hsz : d.size < 2 ^ 40) (hcmp : ∀ x y : Int × Int, M X G (.agg [.int .i64 x.1, .int .i64 x.2] :: .agg [.int .i64 y.1, .int .i64 y.2] :: weaks xs) = some (.int .i64 (cf x y)))
  (base : Nat) (w : World) (W W1 : Nat → Prop) (μ : Mu) (h : Heap) (B off c : Nat) (cb : Array Value) (arr : Array Value) (ty : TypeId) (harr : w.heap[B]? = some (Go.Obj.cells arr ty (0, 0))) (hle : off + (prC d.toList).length ≤ arr.size)
  (hcells : ∀ (i : Nat) (a : AV), (prC d.toList)[i]? = some a → ∃ u, arr[off + i]? = some u ∧ Rep w W μ u a) (hb : base ≤ B) (hW : W1 B) (hsub : ∀ B, W1 B → W B) (hs : Sim X base W μ h w) (ha : ArgsRep w W1 noMu cb (weaks xs)) :
  Calls X.P F #[.slice (some ⟨B, off, none⟩) d.size c, .func (.func G) #[] cb] w fun en w' => en = .returned (.tuple #[]) ∧ SortOut w B off ((flatK encP 2 (d.toList.mergeSort fun x y => !(ltOf cf) y x).toArray).toList.map id) w' := by
 subst hF
 obtain ⟨fn, hf, hok⟩ := hG
 have hB : B < w.heap.size := heap_lt harr
 have hH : HoldsK encP 2 w B off d := by
  intro j hj
  rw [size_flatK] at hj
  have hj2 : j / 2 < d.size := by omega
  have hp := prC_get d.toList j
  rw [show d.toList[j / 2]? = some d[j / 2] by simp [hj2]] at hp
  obtain ⟨u, u1, u2⟩ := hcells j _ hp
  refine ⟨?_, by simp [World.frozen?, harr]⟩
  have hg := get_flatK encP 2 d j (by omega)
  rw [cell?_arr harr, u1, hg, getElem!_pos d _ hj2, rep_int u2]
  rcases Nat.mod_two_eq_zero_or_one j with hm | hm <;> rw [hm] <;> rfl
 refine (AnyQ.slices_SortFunc_total L 2 aE zE encP (fun _ => rfl) (fun x v hv => by simp [encP] at hv; rcases hv with rfl | rfl <;> rfl) cf hO G cb B off c d w (fun args w => callFunc_runs hf hok args w) ?_ hH hB (by omega) hT).mono ?_
 ·intro m os dk hdk x y
  have so := sortOutK encP 2 w B off m dk os hB
  have st : Step base w W1 noMu (sortWorldK encP 2 w B off m dk os) W1 noMu := so.step hb hW
  have pr : ∀ p : Int × Int, Rep (sortWorldK encP 2 w B off m dk os) W1 noMu (.agg (encP p).toArray) (.agg [.int .i64 p.1, .int .i64 p.2]) := fun p => by
   refine .agg _ _ _ rfl (fun i v a hv haa => ?_) (fun i a haa => ?_)
   ·match i with
    | 0 => simp [encP] at hv haa; subst hv; subst haa; exact .int _ _ _
    | 1 => simp [encP] at hv haa; subst hv; subst haa; exact .int _ _ _
    | i + 2 => simp [encP] at hv
   ·match i with
    | 0 => simp at haa; subst haa; rfl
    | 1 => simp at haa; subst haa; rfl
    | i + 2 => simp at haa
  refine calls_behind hmix hsp (pre := [.agg [.int .i64 x.1, .int .i64 x.2], .agg [.int .i64 y.1, .int .i64 y.2]]) (hcmp x y) hs hsub ha st ⟨rfl, fun i v a hv haa => ?_⟩
  match i with
  | 0 => simp at hv haa; subst hv; subst haa; exact pr x
  | 1 => simp at hv haa; subst hv; subst haa; exact pr y
  | i + 2 => simp at hv
 ·rintro en w' ⟨he, n, os, rfl⟩
  exact ⟨he, sortOutK encP 2 w B off n _ os hB⟩
theorem NO_sort0 {nt b0 i : Nat} {l : List Nat} {o : Oper} (ho : ops[i]? = some o) {ρ : Ren} (L : SlLaysF0.n6 X.P ρ) {F : Nat} (hF : ρ.f 6 = F) {oas : Array Operand} {ats : Array TypeId} (hop : o.op = .call ⟨.value (.func F), oas, ats⟩) (hg : o.guard = none) (hdt : ∀ t, o.dst = some t → t < nt)
  {st : St} {x : XH} {Φ : St → XH → Prop} {s f : AV} (hev : evalsA X st.env oas.toList = some [s, f]) (hs0 : (∃ b off cap sz, s = .sl b off 0 cap sz) ∨ ∃ full, s = .ro [] 0 full)
  (hfn : ∃ fn, X.P.funcs[F]? = some fn ∧ funcOk fn = true)
  (h : NO X nt ops b0 l { st with env := putEnv st.env o.dst (.tuple []) } x Φ) : NO X nt ops b0 (i :: l) st x Φ := by
 subst hF
 intro base W μ a w hr hx hnext hlt hfree Q hQ
 simp only [wpOps, ho]
 have hwb : Region.wanted o (yielded ops a.tmps) = true := by unfold Region.wanted; rw [hg]
 simp only [hwb, if_true]
 left
 have hd : ∀ t, o.dst = some t → t < a.tmps.size := fun t ht => by rw [hr.nt]; exact hdt t ht
 obtain ⟨l1, l2⟩ := evalsA_sound (fun y v => evalA_sound hr.sim hr.env y v) _ _ hev
 obtain ⟨v1, v2, hv⟩ := len_two (l := oas.toList.map a.eval) (by simpa using l1)
 rw [hv] at l2
 have r1 := l2 0 v1 _ rfl rfl
 obtain ⟨p, c, rfl⟩ : ∃ p c, v1 = .slice p 0 c := by
  rcases hs0 with ⟨b, off, cap, sz, rfl⟩ | ⟨full, rfl⟩
  ·cases r1; exact ⟨_, _, rfl⟩
  ·cases r1 <;> exact ⟨_, _, rfl⟩
 obtain ⟨fn, hf, hok⟩ := hfn
 have hrun : (execOp a.eval o).run X.P w = .ok (.enter (ρ.f 6) #[.slice p 0 c, v2]) w := by
  have harr : oas.map a.eval = #[.slice p 0 c, v2] := by
   apply Array.ext'
   rw [Array.toList_map, hv]
  have hcf := callFunc_runs hf hok #[.slice p 0 c, v2] w
  unfold execOp
  rw [hop]
  have he : a.eval (.func (ρ.f 6)) = .func (.func (ρ.f 6)) #[] #[] := rfl
  simp only [resolve, he, Deferred.ofValue, Sem.run_bind, Sem.run_pure, Result.andThen, invoke, harr, Array.empty_append, Array.append_empty]
  exact hcf
 show o.upon X.P a _ Q ((execOp a.eval o).run X.P w)
 rw [hrun]
 refine Calls.mono (AnyF.slices_SortFunc_none L p c v2 w) ?_
 rintro en w1 ⟨rfl, rfl⟩
 have hput := putRep (Step.refl base w1 W μ) hr.env hd (v := .tuple #[]) (x := .tuple []) (.tuple _ #[] [] rfl (by simp))
 exact h base W μ _ w1 ⟨hr.sim, hput, by rw [(put_size a o.dst (.tuple #[])).1]; exact hr.nt, by rw [(put_size a o.dst (.tuple #[])).2]; exact hr.defers, hr.free⟩ hx hnext (fun j hj => hlt j (by simp [hj])) (fun j hj k hk => hfree j (by simp [hj]) k hk) Q hQ
end
end Go.Proofs.YtenhjccadhlgoaaGreat.Abs
