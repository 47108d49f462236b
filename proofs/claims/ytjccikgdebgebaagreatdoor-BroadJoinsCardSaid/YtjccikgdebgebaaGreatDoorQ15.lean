/-
  Deleting from a map; sorting by package slices: what the library's contract says, seen from the interpreter. No conditions. A function whose outcome hangs on what is left open on the way, but not at its end; the library's sort of whole numbers and of pairs. No conditions. broad.Sorted: whatever the order of a range over its map. No conditions. What the interpreter is told of broad.Sorted, and that it is so. No conditions.
-/
import Derived.Test.YtjccikgdebgebaaGreatDoorQ14
import Derived.Shelf.SlSortCmp.NoneTotal
import Derived.Test.YtjccikgdebgebaaGreatDoorQ10
set_option linter.unusedSimpArgs false
set_option linter.unusedVariables false
section
namespace Go.Proofs.YtjccikgdebgebaaGreatDoor.Abs
open Go
open Go.MapKept
variable {X : Ctx} {ops : Array Oper}
theorem mEs_erase (ks : List (Int × Nat)) (j : Nat) : (mEs ks).eraseIdxIfInBounds j = mEs (ks.eraseIdx j) := by
  unfold Array.eraseIdxIfInBounds
  apply Array.ext'
  by_cases h : j < ks.length
  · rw [dif_pos (by simpa [mEs] using h)]
    simp only [mEs, Array.toList_eraseIdx]
    apply List.ext_getElem?
    intro i
    simp only [List.getElem?_eraseIdx, List.getElem?_map]
    split <;> rfl
  · rw [dif_neg (by simpa [mEs] using h), List.eraseIdx_of_length_le (by omega)]
theorem NO_delete {nt b0 i ty tm tk bm clock : Nat} {kt et : TypeId} {n : Int} {ks : List (Int × Nat)} {l : List Nat} {o : Oper} (ho : ops[i]? = some o) (hop : o.op = .call ⟨.builtin .delete, #[.tmp tm, .tmp tk], #[ty, kt]⟩) (hg : o.guard = none) (hdst : o.dst = none) {st : St} {x : XH} {Φ : St → XH → Prop}
    (hu : X.P.underlying ty = some (.map kt et)) (hk : X.P.underlying kt = some (.int .i64)) (hm : st.env tm = .ext (.map (some bm))) (hn : st.env tk = .int .i64 n) (hb : x bm = some (.map (mEs ks) clock)) (hmem : ∃ p ∈ ks, p.1 = n)
    (h : ∀ j p, ks[j]? = some p → p.1 = n → NO X nt ops b0 l st (xput x bm (.map (mEs (ks.eraseIdx j)) clock)) Φ) : NO X nt ops b0 (i :: l) st x Φ := by
  refine NO_op ho hg (fun t' h' => by rw [hdst] at h'; simp at h') (fun y x1 => ∃ j p, ks[j]? = some p ∧ p.1 = n ∧ x1 = xput x bm (.map (mEs (ks.eraseIdx j)) clock)) ?_ ?_
  · intro base W μ a w hr hx
    have hv : a.eval (.tmp tm) = .map (some bm) := ext_map (hm ▸ hr.env tm)
    have hv2 : a.eval (.tmp tk) = .int .i64 n := rep_int (hn ▸ hr.env tk)
    have hkey : IsKey (.int .i64) (.int .i64 n) := by simp [IsKey]
    have hbb := (hx bm _ hb).2.2
    rcases findNow_spec hkey (mEs ks).toList 0 (fun e he => by obtain ⟨p, hp, rfl⟩ := mEs_mem.1 he; simp [IsKey]) with ⟨_, h⟩ | ⟨j, e, h1, h2, h3⟩
    · obtain ⟨p, hp, hpn⟩ := hmem
      exact absurd (by rw [hpn]) (h _ (mEs_mem.2 ⟨p, hp, rfl⟩))
    · have hj : ∃ p, ks[j]? = some p ∧ p.1 = n := by
        simp only [mEs, List.getElem?_map, Option.map_eq_some_iff] at h2
        obtain ⟨p, hp, rfl⟩ := h2
        exact ⟨p, hp, by simpa using h3⟩
      obtain ⟨p, hp, hpn⟩ := hj
      obtain ⟨k1, k2, k3⟩ := set_all (w1 := w) (o' := .map (mEs (ks.eraseIdx j)) clock) hx hb (by simp) (.inl rfl)
      refine ⟨.tuple #[], _, .tuple [], _, .inl ?_, ⟨j, p, hp, hpn, rfl⟩, .tuple _ #[] [] rfl (by simp), k1, k2, k3⟩
      have e1 : execOp a.eval o = (do pure (.value (← Builtin.delete_ #[ty, kt] o.type #[a.eval (.tmp tm), a.eval (.tmp tk)]))) := by
        obtain ⟨dst, op, oty, pos, aft, gd⟩ := o
        simp only at hop
        subst hop
        have : execOp a.eval ⟨dst, .call ⟨.builtin .delete, #[.tmp tm, .tmp tk], #[ty, kt]⟩, oty, pos, aft, gd⟩ = builtin .delete #[ty, kt] oty ((#[.tmp tm, .tmp tk] : Array Operand).map fun | .const _ => true | _ => false) ((#[.tmp tm, .tmp tk] : Array Operand).map a.eval) := rfl
        have m2 : (#[.tmp tm, .tmp tk] : Array Operand).map a.eval = #[a.eval (.tmp tm), a.eval (.tmp tk)] := by simp
        rw [this, m2]
        rfl
      rw [e1, hv, hv2]
      rw [Nat.zero_add] at h1
      simp [Builtin.delete_, run_underlying hu, Result.andThen, run_getObj_map (hb := hbb), run_checkKey (hd := hk) (hk := hkey), run_findKey (hd := hk) (h := h1), run_setObj_map (hb := hbb), mEs_erase]
      rfl
  · rintro y x1 ⟨j, p, hj, hp, rfl⟩
    rw [hdst]; exact h j p hj hp
/-! ### Sorting -/
/-- What a sort leaves behind: a block's cells from one on hold other values; all else is as it was. -/
structure SortOut (w : World) (B off : Nat) (vals : List Value) (w' : World) : Prop where
  os : w'.os = w.os
  tape : w'.tape = w.tape
  output : w'.output = w.output
  drawn : w.drawn ≤ w'.drawn
  size : w.heap.size ≤ w'.heap.size
  same : ∀ C, C < w.heap.size → C ≠ B → w'.heap[C]? = w.heap[C]?
  row : ∀ (arr : Array Value) (e : TypeId) (f : Nat × Nat), w.heap[B]? = some (Go.Obj.cells arr e f) → ∃ arr' : Array Value, w'.heap[B]? = some (Go.Obj.cells arr' e f) ∧ arr'.size = arr.size ∧
    ∀ i, i < vals.length → off + i < arr.size → arr'[off + i]? = vals[i]?
theorem SortOut.step {base : Nat} {W : Nat → Prop} {μ : Mu} {w w' : World} {B off : Nat} {vals : List Value} (ho : SortOut w B off vals w') (hb : base ≤ B) (hW : W B) : Step base w W μ w' W μ where
  os := ho.os
  tape := ho.tape
  output := ho.output
  size := ho.size
  same C hC hn := ho.same C hC fun he => by
    subst he
    exact hn.elim (fun h => by omega) (fun h => h hW)
  wsub _ _ h := h
  wsup _ _ h := h
  shape C a e' f' ha := by
    by_cases he : C = B
    · subst he
      obtain ⟨arr', h1, h2, _⟩ := ho.row _ _ _ ha
      exact ⟨arr', h1, h2⟩
    · exact ⟨a, by rw [ho.same C (heap_lt ha) he]; exact ha, rfl⟩
  mu _ _ h := h
  drawn := ho.drawn
/-- A row of the abstract heap was sorted. -/
theorem Sim.sorted {base : Nat} {W : Nat → Prop} {μ : Mu} {h : Heap} {w w' : World} (hs : Sim X base W μ h w) {b : Nat} {cs cs' : List AV} {g : Bool} (hb : h b = some (.cells cs g false)) {B o : Nat} (hm : μ b = some (.at B o)) {vals : List Value}
    (ho : SortOut w B o vals w') (hl : cs'.length = cs.length) (hv : vals.length = cs.length) (hc : ∀ (i : Nat) (v : Value) (a : AV), vals[i]? = some v → cs'[i]? = some a → (∀ w W μ, Rep w W μ v a) ∧ a.isCell = true) :
    Step base w W μ w' W μ ∧ Sim X base W μ (upd h b (some (.cells cs' g false))) w' := by
  obtain ⟨B1, o1, arr, e, m1, m2, m3, m4, m5, m6, m7⟩ := hs.obj b _ hb
  rw [hm] at m1
  simp only [Option.some.injEq, MB.at.injEq] at m1
  obtain ⟨rfl, rfl⟩ := m1
  have hst : Step base w W μ w' W μ := ho.step m2 (m3 rfl)
  refine ⟨hst, ?_, ?_, hs.keepGlob hst, fun C hC => Nat.lt_of_lt_of_le (hs.wlt C hC) ho.size, Nat.le_trans hs.ble ho.size⟩
  · intro b' ob hb'
    by_cases hbe : b' = b
    · subst hbe
      rw [upd_eq] at hb'
      cases hb'
      obtain ⟨arr', h1, h2, h3⟩ := ho.row _ _ _ m5
      refine ⟨B, o, arr', e, hm, m2, m3, by simp, h1, by omega, fun i a ha => ?_⟩
      have hi : i < cs'.length := (List.getElem?_eq_some_iff.1 ha).1
      obtain ⟨k1, k2⟩ := hc i (vals[i]'(by omega)) a (List.getElem?_eq_getElem (by omega)) ha
      exact ⟨vals[i]'(by omega), by rw [h3 i (by omega) (by omega)]; exact List.getElem?_eq_getElem (by omega), k1 _ _ _, k2⟩
    · rw [upd_ne _ _ hbe] at hb'
      obtain ⟨B2, o2, hm2, hlt, _⟩ := hs.lives (b := b') (by simp [hb'])
      refine (hs.obj b' ob hb').keep hst fun B' o' hm' => ?_
      rw [hm2] at hm'
      simp only [Option.some.injEq, MB.at.injEq] at hm'
      obtain ⟨rfl, rfl⟩ := hm'
      exact ⟨ho.same B2 hlt fun he => by subst he; exact hbe (hs.inj b' b B2 o2 o (by simp [hb']) (by simp [hb]) hm2 hm), Iff.rfl⟩
  · intro b1 b2 B' o1 o2 h1 h2 m1 m2
    have live : ∀ b', upd h b (some (.cells cs' g false)) b' ≠ none → h b' ≠ none := by
      intro b' hb'
      by_cases hbe : b' = b
      · subst hbe; simp [hb]
      · rwa [upd_ne _ _ hbe] at hb'
    exact hs.inj b1 b2 B' o1 o2 (live b1 h1) (live b2 h2) m1 m2
theorem grow_of {base : Nat} {w w' : World} {W W' : Nat → Prop} {μ μ' : Mu} (hb : base = w.heap.size) (hs : Step base w W μ w' W' μ') : ∃ q os', w' = Go.Sort.grow (w.drewN q) os' := by
  subst hb
  have hh : w'.heap = w.heap ++ w'.heap.extract w.heap.size w'.heap.size := by
    apply Array.ext_getElem?
    intro i
    by_cases hi : i < w.heap.size
    · rw [Array.getElem?_append_left hi]; exact hs.same i hi (.inl hi)
    · rw [Array.getElem?_append_right (by omega), Array.getElem?_extract]
      by_cases hj : i < w'.heap.size
      · rw [if_pos (by omega)]; congr 1; omega
      · rw [if_neg (by omega)]; exact Array.getElem?_eq_none (by omega)
  refine ⟨w'.drawn - w.drawn, w'.heap.extract w.heap.size w'.heap.size, ?_⟩
  have hd := hs.drawn
  have h1 := hs.os; have h2 := hs.tape; have h3 := hs.output
  cases w' with
  | mk heap tape drawn os output =>
    simp only at *
    subst h1 h2 h3
    unfold Go.Sort.grow World.drewN
    simp only [World.mk.injEq, and_true, true_and]
    exact ⟨hh, by omega⟩
/-- A call that answers a number turns nothing of what was there. -/
theorem calls_grow (hmix : X.P.follows .mixedOrders = true) (hsp : SpecSound X) {f : FuncId} {args : List AV} {k : IntKind} {n : Int} (hm : M X f args = some (.int k n)) {base : Nat} {W : Nat → Prop} {μ : Mu} {h : Heap} {w : World} (hs : Sim X base W μ h w)
    {W1 : Nat → Prop} (hW1 : ∀ B, W1 B → W B) {vals : Array Value} (ha : ArgsRep w W1 noMu vals args) :
    (callFunc f vals).run X.P w = .ok (.enter f vals) w ∧ Calls X.P f vals w fun e w' => e = .returned (.int k n) ∧ ∃ q os', w' = Go.Sort.grow (w.drewN q) os' := by
  have hcs := callI_sound hmix hsp
  have hs0 := hs.noHeap hW1
  have both : (∃ fn, X.P.funcs[f]? = some fn ∧ funcOk fn = true) ∧ Calls X.P f vals w fun e w' => ∃ u v h2 W2 μ2, e = .returned u ∧ Step w.heap.size w W1 noMu w' W2 μ2 ∧ Sim X w.heap.size W2 μ2 h2 w' ∧ Rep w' W2 μ2 u v ∧
      ((∃ x ids, snap h2 depthA v = some (x, ids) ∧ AV.int k n = x.weak) ∨ (∃ x, resultTop h2 depthA v = some x ∧ AV.int k n = x.weak)) := by
    unfold M pureCall at hm
    split at hm
    · rename_i g hg
      obtain ⟨k1, k2⟩ := hsp f g hg args _ hm
      exact ⟨k1, k2 W1 w vals hs0 ha⟩
    · obtain ⟨⟨v, h2, n2⟩, hc, hk⟩ := nx_eq_some.1 hm
      obtain ⟨hfn, hcall⟩ := hcs.2 f args emptyHeap 0 v h2 n2 hc
      refine ⟨hfn, (hcall w.heap.size W1 noMu w vals hs0 (fun _ _ => rfl) ha).mono ?_⟩
      rintro en w' ⟨u, W2, μ2, rfl, p1, p2, p3, _⟩
      refine ⟨u, v, h2, W2, μ2, rfl, p1, p2, p3, ?_⟩
      simp only at hk
      split at hk
      · obtain ⟨⟨x, jds⟩, h1, h2⟩ := mp_eq_some.1 hk; exact .inl ⟨x, jds, h1, h2.symm⟩
      · obtain ⟨x, h1, h2⟩ := mp_eq_some.1 hk; exact .inr ⟨x, h1, h2.symm⟩
      · simp at hk
  obtain ⟨⟨fn, hf, hok⟩, hcall⟩ := both
  refine ⟨callFunc_runs hf hok vals w, hcall.mono ?_⟩
  rintro en w' ⟨u, v, h2, W2, μ2, rfl, p1, p2, p3, hm⟩
  obtain ⟨W3, μ', _, _, q3, _⟩ := pure_out (base := w.heap.size) (h := emptyHeap) (μ := noMu) hs0 p1 p2 p3 (id := 0) (fun _ _ => rfl) (r := .int k n) (v' := .int k n) (wr := []) rfl hm
  cases q3
  exact ⟨rfl, grow_of rfl p1⟩
/-- The call of a sort: as its contract says. -/
theorem NO_sort {nt b0 i : Nat} {l : List Nat} {o : Oper} (ho : ops[i]? = some o) {F G O n sz : Nat} {cap : Option Nat} {oas : Array Operand} {ats : Array TypeId} (hop : o.op = .call ⟨.value (.func F), oas, ats⟩) (hg : o.guard = none) (hdt : ∀ t, o.dst = some t → t < nt)
    {st : St} {x : XH} {Φ : St → XH → Prop} {cs : List AV} {g : Bool} {caps xs : List AV} {ids : List Nat} (hev : evalsA X st.env oas.toList = some [.sl O 0 n cap sz, .func (.func G) [] caps]) (hO : st.heap O = some (.cells cs g false))
    (hfn : ∃ fn, X.P.funcs[F]? = some fn ∧ funcOk fn = true) (hsn : snaps (snap st.heap depthA) caps = some (xs, ids)) (hOi : O ∉ ids)
    {γ : Type} (R : γ → Prop) (vals : γ → List Value) (cells : γ → List AV) (hlen : ∀ y, R y → (cells y).length = cs.length ∧ (vals y).length = cs.length)
    (hrep : ∀ y, R y → ∀ (i : Nat) (v : Value) (a : AV), (vals y)[i]? = some v → (cells y)[i]? = some a → (∀ w W μ, Rep w W μ v a) ∧ a.isCell = true)
    (K : ∀ (base : Nat) (w : World) (W W1 : Nat → Prop) (μ : Mu) (h : Heap) (B off c : Nat) (cb : Array Value) (arr : Array Value) (e : TypeId), w.heap[B]? = some (Go.Obj.cells arr e (0, 0)) → off + cs.length ≤ arr.size → (∀ (i : Nat) (a : AV), cs[i]? = some a → ∃ u, arr[off + i]? = some u ∧ Rep w W μ u a) →
      base ≤ B → W1 B → (∀ B, W1 B → W B) → Sim X base W μ h w → ArgsRep w W1 noMu cb (weaks xs) →
      Calls X.P F #[.slice (some ⟨B, off, none⟩) n c, .func (.func G) #[] cb] w fun e w' => e = .returned (.tuple #[]) ∧ ∃ y, R y ∧ SortOut w B off (vals y) w')
    (h : ∀ y, R y → NO X nt ops b0 l { st with env := putEnv st.env o.dst (.tuple []), heap := upd st.heap O (some (.cells (cells y) g false)) } x Φ) : NO X nt ops b0 (i :: l) st x Φ := by
  intro base W μ a w hr hx hnext hlt hfree Q hQ
  simp only [wpOps, ho]
  have hwb : Region.wanted o (yielded ops a.tmps) = true := by unfold Region.wanted; rw [hg]
  simp only [hwb, if_true]
  left
  have hd : ∀ t, o.dst = some t → t < a.tmps.size := fun t ht => by rw [hr.nt]; exact hdt t ht
  obtain ⟨l1, l2⟩ := evalsA_sound (fun y v => evalA_sound hr.sim hr.env y v) _ _ hev
  obtain ⟨v1, v2, hv⟩ := len_two (l := oas.toList.map a.eval) (by simpa using l1)
  rw [hv] at l2
  have r1 := l2 0 v1 _ rfl rfl
  have r2 := l2 1 v2 _ rfl rfl
  obtain ⟨B, o', arr, e, m1, m2, m3, m4, m5, m6, m7⟩ := hr.sim.obj O _ hO
  cases r2 with
  | func _ _ fi ca _ _ h1 h2 hfi hca =>
  obtain rfl : fi = #[] := Array.eq_empty_of_size_eq_zero (by simpa using h1)
  cases r1 with
  | sl _ _ B2 o2 _ _ c _ _ hm hl hk hsh =>
  rw [hm] at m1
  simp only [Option.some.injEq, MB.at.injEq] at m1
  obtain ⟨rfl, rfl⟩ := m1
  have hcaps : ArgsRep w (lessW W μ ids) noMu ca (weaks xs) := snaps_args hr.sim hsn ⟨h2, hca⟩
  have hW1 : lessW W μ ids B2 := ⟨m3 rfl, fun b hb o3 hm3 => hOi (by
    obtain ⟨cs3, hh3⟩ : ∃ y, st.heap b = some y := by
      cases hh : st.heap b with
      | none => exact absurd hh (snaps_live hsn b hb)
      | some y => exact ⟨y, rfl⟩
    rw [hr.sim.inj O b B2 o2 o3 (by simp [hO]) (by simp [hh3]) hm hm3]; exact hb)⟩
  obtain ⟨fn, hf, hok⟩ := hfn
  have hcall := K base w W (lessW W μ ids) μ st.heap B2 (o2 + 0) c ca arr e m5 (by omega) (fun i a ha => by obtain ⟨u, u1, u2, _⟩ := m7 i a ha; exact ⟨u, u1, u2⟩) m2 hW1 (fun B h => h.1) hr.sim hcaps
  have hrun : (execOp a.eval o).run X.P w = .ok (.enter F #[.slice (some ⟨B2, o2 + 0, none⟩) n c, .func (.func G) #[] ca]) w := by
    have harr : oas.map a.eval = #[.slice (some ⟨B2, o2 + 0, none⟩) n c, .func (.func G) #[] ca] := by
      apply Array.ext'
      rw [Array.toList_map, hv]
    have hcf := callFunc_runs hf hok #[.slice (some ⟨B2, o2 + 0, none⟩) n c, .func (.func G) #[] ca] w
    unfold execOp
    rw [hop]
    have he : a.eval (.func F) = .func (.func F) #[] #[] := rfl
    simp only [resolve, he, Deferred.ofValue, Sem.run_bind, Sem.run_pure, Result.andThen, invoke, harr, Array.empty_append, Array.append_empty]
    exact hcf
  show o.upon X.P a _ Q ((execOp a.eval o).run X.P w)
  rw [hrun]
  refine Calls.mono hcall ?_
  rintro en w1 ⟨rfl, y, hy, hout⟩
  obtain ⟨n1, n2⟩ := hlen y hy
  obtain ⟨s1, s2⟩ := hr.sim.sorted (cs' := cells y) hO hm hout n1 n2 (hrep y hy)
  have hput := putRep s1 hr.env hd (v := .tuple #[]) (x := .tuple []) (.tuple _ #[] [] rfl (by simp))
  exact h y hy base W μ _ w1 ⟨s2, hput, by rw [(put_size a o.dst (.tuple #[])).1]; exact hr.nt, by rw [(put_size a o.dst (.tuple #[])).2]; exact hr.defers, hr.free⟩ (hx.step s1) hnext (fun j hj => hlt j (by simp [hj])) (fun j hj k hk => hfree j (by simp [hj]) k hk) Q
    fun st' x' a' w' W' μ' k1 k2 k3 k4 => hQ st' x' a' w' W' μ' k1 ((Frame.ofStep hr.sim.ble s1).trans k2) k3 k4
end Go.Proofs.YtjccikgdebgebaaGreatDoor.Abs
end
section
namespace Go.Proofs.YtjccikgdebgebaaGreatDoor.Abs
open Go
variable {X : Ctx} {ops : Array Oper}
theorem Frame.step {w w' : World} {W W' : Nat → Prop} {μ' : Mu} (h : Frame w.heap.size w W w' W') : Step w.heap.size w W noMu w' W' μ' where
  os := h.os
  tape := h.tape
  output := h.output
  size := h.size
  same B hB _ := h.same B hB
  wsub B hB hW := (h.iff B hB).1 hW
  wsup B hB hW := (h.iff B hB).2 hW
  shape B arr e f ha := ⟨arr, by rw [h.same B (heap_lt ha)]; exact ha, rfl⟩
  mu b m hm := by simp [noMu] at hm
  drawn := h.drawn
/-- What is told of a function that the interpreter does not walk, at one list of arguments. -/
def SpecAt (X : Ctx) (f : FuncId) (args : List AV) (r : AV) : Prop := (∃ fn, X.P.funcs[f]? = some fn ∧ funcOk fn = true) ∧
  ∀ (W : Nat → Prop) (w : World) (vals : Array Value), Sim X w.heap.size W noMu emptyHeap w → ArgsRep w W noMu vals args →
    Calls X.P f vals w fun e w' => ∃ u v h2 W2 μ2, e = .returned u ∧ Step w.heap.size w W noMu w' W2 μ2 ∧ Sim X w.heap.size W2 μ2 h2 w' ∧ Rep w' W2 μ2 u v ∧
      ((∃ x ids, snap h2 depthA v = some (x, ids) ∧ r = x.weak) ∨ (∃ x, resultTop h2 depthA v = some x ∧ r = x.weak))
theorem specSound_of (h : ∀ (f : FuncId) (g : List AV → Option AV), X.mode f = .spec g → ∀ (args : List AV) (r : AV), g args = some r → SpecAt X f args r) : SpecSound X := h
theorem Sim.same {X Y : Ctx} (hG : X.G = Y.G) {base : Nat} {W : Nat → Prop} {μ : Mu} {h : Heap} {w : World} (hs : Sim X base W μ h w) : Sim Y base W μ h w :=
  ⟨hs.obj, hs.inj, fun g cs hg => hs.glob g cs (by rw [hG]; exact hg), hs.wlt, hs.ble⟩
theorem SpecAt.same {X Y : Ctx} (hP : X.P = Y.P) (hG : X.G = Y.G) {f : FuncId} {args : List AV} {r : AV} (h : SpecAt X f args r) : SpecAt Y f args r := by
  obtain ⟨h1, h2⟩ := h
  refine ⟨by rw [← hP]; exact h1, fun W w vals hs ha => ?_⟩
  have h3 := h2 W w vals (hs.same hG.symm) ha
  rw [← hP]
  refine h3.mono ?_
  rintro e w' ⟨u, v, h2, W2, μ2, he, p1, p2, p3, p4⟩
  exact ⟨u, v, h2, W2, μ2, he, p1, p2.same hG, p3, p4⟩
/-- What is asked behind a body. -/
def outN (X : Ctx) (fn : Func) (r : AV) : Ex → St → XH → Prop
  | .exit _, _, _ => False
  | _, st, _ => ∃ v, resultsA X fn st = some v ∧ ∃ x ids, snap st.heap depthA v = some (x, ids) ∧ r = x.weak
theorem outN_ret (fn : Func) (r : AV) (st : St) (x : XH) : outN X fn r .ret st x = ∃ v, resultsA X fn st = some v ∧ ∃ x ids, snap st.heap depthA v = some (x, ids) ∧ r = x.weak := rfl
theorem spec_of {f : FuncId} {fn : Func} {c : Code} (hf : X.P.funcs[f]? = some fn) (hb : fn.body = some c) (hok : funcOk fn = true) (args : List AV) (hl : (args.length == fn.params.size + fn.nfree) = true) (r : AV)
    (h : NW X fn.ntmps c ⟨argEnv args, emptyHeap, 0⟩ (fun _ => none) (outN X fn r)) :
    SpecAt X f args r := by
  refine ⟨⟨fn, hf, hok⟩, fun W w vals hs ha => ?_⟩
  have hok' := hok
  unfold funcOk at hok'
  rw [hb] at hok'
  simp only [Bool.and_eq_true, decide_eq_true_eq] at hok'
  obtain ⟨⟨hcode', _⟩, hnt⟩ := hok'
  have hsz : args.length = fn.params.size + fn.nfree := by simpa using hl
  have main : StRel X w.heap.size fn.ntmps W noMu ⟨argEnv args, emptyHeap, 0⟩ { tmps := vals ++ Array.replicate (fn.ntmps - vals.size) undef, defers := [] } w := by
    refine ⟨hs, fun t => ?_, by simp [ha.1]; omega, rfl, fun _ _ => rfl⟩
    simp only [argEnv, Array.getD_eq_getD_getElem?, List.getD_eq_getElem?_getD]
    by_cases ht : t < vals.size
    · rw [Array.getElem?_append_left ht, Array.getElem?_eq_getElem ht, List.getElem?_eq_getElem (by rw [← ha.1]; exact ht)]
      exact ha.2 t _ _ (Array.getElem?_eq_getElem ht) (List.getElem?_eq_getElem (by rw [← ha.1]; exact ht))
    · rw [Array.getElem?_append_right (by omega), List.getElem?_eq_none (by rw [← ha.1]; omega), Array.getElem?_replicate]
      split <;> exact .tuple _ #[] [] rfl (by simp)
  refine calls_of_wp hf hb (h w.heap.size W noMu _ w main (fun B o hx => by simp at hx) _ fun ex st' x' a' w' W' μ' hp f1 r1 x1 => ?_)
  have key : ∀ v, resultsA X fn st' = some v → (∃ x ids, snap st'.heap depthA v = some (x, ids) ∧ r = x.weak) → ∃ u, (results fn a'.tmps).run X.P w' = .ok u w' ∧ ∃ u' v h2 W2 μ2, Ending.returned u = .returned u' ∧ Step w.heap.size w W noMu w' W2 μ2 ∧ Sim X w.heap.size W2 μ2 h2 w' ∧ Rep w' W2 μ2 u' v ∧
        ((∃ x ids, snap h2 depthA v = some (x, ids) ∧ r = x.weak) ∨ (∃ x, resultTop h2 depthA v = some x ∧ r = x.weak)) := by
    intro v hv hs
    obtain ⟨u, hu, hrep⟩ := results_sound r1 hv
    exact ⟨u, hu, u, v, st'.heap, W', μ', rfl, f1.step, r1.sim, hrep, .inl hs⟩
  cases ex with
  | exit i => exact hp.elim
  | normal => obtain ⟨v, hv, hs⟩ := hp; exact ⟨r1.defers, key v hv hs⟩
  | ret => obtain ⟨v, hv, hs⟩ := hp; exact ⟨r1.defers, key v hv hs⟩
/-! ### Code that lies hidden -/
def NH (X : Ctx) (nt : Nat) [c : HC] (st : St) (x : XH) (Φ : Ex → St → XH → Prop) : Prop := NW X nt c.code st x Φ
/-- What comes behind a part that the interpreter knows. -/
def nwQ (X : Ctx) (nt : Nat) [c : HC] (x : XH) (Φ : Ex → St → XH → Prop) : Ex → St → Prop
  | .normal, s => NH X nt s x Φ
  | e, s => Φ e s x
theorem nwQ_normal (nt : Nat) [c : HC] (x : XH) (Φ : Ex → St → XH → Prop) (s : St) : nwQ X nt x Φ .normal s = NH X nt s x Φ := nr rfl
theorem nwQ_ret (nt : Nat) [c : HC] (x : XH) (Φ : Ex → St → XH → Prop) (s : St) : nwQ X nt x Φ .ret s = Φ .ret s x := nr rfl
theorem nwQ_exit (nt : Nat) [c : HC] (x : XH) (Φ : Ex → St → XH → Prop) (s : St) (i : Nat) : nwQ X nt x Φ (.exit i) s = Φ (.exit i) s x := nr rfl
theorem NH_seqD (hmix : X.P.follows .mixedOrders = true) (hsp : SpecSound X) {nt : Nat} {b c : Code} (hok : codeOk nt b = true) {st : St} {x : XH} {Φ : Ex → St → XH → Prop} (h : @W X ⟨b⟩ st (@nwQ X nt ⟨c⟩ x Φ)) : @NH X nt ⟨.seq b c⟩ st x Φ := by
  refine NW_seq (NW_det hmix hsp hok h fun e s hh => ?_)
  cases e <;> exact hh
theorem NH_det (hmix : X.P.follows .mixedOrders = true) (hsp : SpecSound X) {nt : Nat} {b : Code} (hok : codeOk nt b = true) {st : St} {x : XH} {Φ : Ex → St → XH → Prop} (h : @W X ⟨b⟩ st fun e s => Φ e s x) : @NH X nt ⟨b⟩ st x Φ :=
  NW_det hmix hsp hok h fun _ _ hh => hh
def nsQ (X : Ctx) (nt : Nat) [c : HC] (Φ : Ex → St → XH → Prop) : Ex → St → XH → Prop
  | .normal, s, x => NH X nt s x Φ
  | e, s, x => Φ e s x
theorem nsQ_normal (nt : Nat) [c : HC] (x : XH) (Φ : Ex → St → XH → Prop) (s : St) : nsQ X nt Φ .normal s x = NH X nt s x Φ := nr rfl
theorem nsQ_ret (nt : Nat) [c : HC] (x : XH) (Φ : Ex → St → XH → Prop) (s : St) : nsQ X nt Φ .ret s x = Φ .ret s x := nr rfl
theorem nsQ_exit (nt : Nat) [c : HC] (x : XH) (Φ : Ex → St → XH → Prop) (s : St) (i : Nat) : nsQ X nt Φ (.exit i) s x = Φ (.exit i) s x := nr rfl
theorem NH_seq {nt : Nat} {b c : Code} {st : St} {x : XH} {Φ : Ex → St → XH → Prop} (h : @NH X nt ⟨b⟩ st x (@nsQ X nt ⟨c⟩ Φ)) : @NH X nt ⟨.seq b c⟩ st x Φ := by
  refine NW_seq (NW_mono h fun e s x' hh => ?_)
  cases e <;> exact hh
def nbQ (i : Nat) (Φ : Ex → St → XH → Prop) : Ex → St → XH → Prop
  | .exit j, s, x => if j = i then Φ .normal s x else Φ (.exit j) s x
  | e, s, x => Φ e s x
theorem nbQ_normal (i : Nat) (x : XH) (Φ : Ex → St → XH → Prop) (s : St) : nbQ i Φ .normal s x = Φ .normal s x := nr rfl
theorem nbQ_ret (i : Nat) (x : XH) (Φ : Ex → St → XH → Prop) (s : St) : nbQ i Φ .ret s x = Φ .ret s x := nr rfl
theorem nbQ_exit (i j : Nat) (x : XH) (Φ : Ex → St → XH → Prop) (s : St) : nbQ i Φ (.exit j) s x = if j = i then Φ .normal s x else Φ (.exit j) s x := nr rfl
theorem NH_block {nt i : Nat} {b : Code} {st : St} {x : XH} {Φ : Ex → St → XH → Prop} (h : @NH X nt ⟨b⟩ st x (nbQ i Φ)) : @NH X nt ⟨.block i b⟩ st x Φ := by
  refine NW_block (NW_mono h fun e s x' hh => ?_)
  cases e <;> exact hh
theorem NH_cond {nt : Nat} {v : Operand} {b c : Code} {st : St} {x : XH} {Φ : Ex → St → XH → Prop} (t : Bool) (hv : evalA X st.env v = some (.bool t)) (h1 : t = true → @NH X nt ⟨b⟩ st x Φ) (h2 : t = false → @NH X nt ⟨c⟩ st x Φ) : @NH X nt ⟨.cond v b c⟩ st x Φ := NW_cond t hv h1 h2
def nlQ {α : Type} (I : α → St → XH → Prop) (m : α → Nat) (g : α) (Φ : Ex → St → XH → Prop) : Ex → St → XH → Prop
  | .normal, s, x => ∃ g', I g' s x ∧ m g' < m g
  | e, s, x => Φ e s x
theorem nlQ_normal {α : Type} (I : α → St → XH → Prop) (m : α → Nat) (g : α) (Φ : Ex → St → XH → Prop) (s : St) (x : XH) : nlQ I m g Φ .normal s x = ∃ g', I g' s x ∧ m g' < m g := nr rfl
theorem nlQ_exit {α : Type} (I : α → St → XH → Prop) (m : α → Nat) (g : α) (Φ : Ex → St → XH → Prop) (s : St) (x : XH) (i : Nat) : nlQ I m g Φ (.exit i) s x = Φ (.exit i) s x := nr rfl
theorem nlQ_ret {α : Type} (I : α → St → XH → Prop) (m : α → Nat) (g : α) (Φ : Ex → St → XH → Prop) (s : St) (x : XH) : nlQ I m g Φ .ret s x = Φ .ret s x := nr rfl
theorem NH_loop {α : Type} {nt : Nat} {b : Code} {Φ : Ex → St → XH → Prop} (I : α → St → XH → Prop) (m : α → Nat)
    (step : ∀ g s x, I g s x → @NH X nt ⟨b⟩ s x (nlQ I m g Φ)) : ∀ g s x, I g s x → @NH X nt ⟨.loop b⟩ s x Φ := by
  refine NW_loop I m fun g s x h => NW_mono (step g s x h) fun e s' x' hh => ?_
  cases e <;> exact hh
theorem NH_region {nt id : Nat} {l : List Oper} {st : St} {x : XH} {Φ : Ex → St → XH → Prop} (h : NO X nt ⟨l⟩ st.next (List.range l.length) { st with next := st.next + 8 * l.length } x fun s x' => Φ .normal s x') : @NH X nt ⟨.region id ⟨l⟩ false⟩ st x Φ := NW_region h
theorem NO_step (hmix : X.P.follows .mixedOrders = true) (hsp : SpecSound X) {nt b0 i : Nat} {l : List Nat} {d : Option Tmp} {op : Op} {ty : TypeId} {pos : String} {af : Array Edge} (ho : ops[i]? = some ⟨d, op, ty, pos, af, none⟩) (hil : i ∉ l) (hdt : ∀ t, d = some t → t < nt) {st : St} {x : XH} {Φ : St → XH → Prop}
    (h : PN (evalOp X (callI X) st.env st.heap (b0 + 8 * i) st.next op) fun e => NO X nt ops b0 l (afterD d st e) x Φ) : NO X nt ops b0 (i :: l) st x Φ := by
  obtain ⟨e, h1, h2⟩ := h
  refine NO_det hmix hsp ho hil hdt (st1 := afterD d st e) (e := e) ?_ h2
  rw [stepOp_some]
  refine ⟨?_, (after_D ⟨d, op, ty, pos, af, none⟩ st e).symm⟩
  show guardedOp (wantedA ops st.env ⟨d, op, ty, pos, af, none⟩) _ = _
  rw [wantedA_none, guardedOp_true]; exact h1
/-! ### The library's sort -/
open Go.Shelf Go.RowKit Go.Lib Go.Sort
theorem sortOut1 {α : Type} [Inhabited α] (enc : α → Value) (w : World) (B off m : Nat) (dk : Array α) (os : Array Go.Obj) (hB : B < w.heap.size) : SortOut w B off (dk.toList.map enc) (sortWorld enc w B off m dk os) where
  os := rfl
  tape := rfl
  output := rfl
  drawn := Nat.le_add_right _ _
  size := by
    show w.heap.size ≤ ((w.heap.modify B (onCells (putCells enc off dk))) ++ os).size
    simp
  same C hC hne := by
    show ((w.heap.modify B (onCells (putCells enc off dk))) ++ os)[C]? = _
    rw [Array.getElem?_append_left (by simpa using hC), Array.getElem?_modify, if_neg (Ne.symm hne)]
  row arr e f ha := by
    refine ⟨putCells enc off dk arr, ?_, by simp [putCells], fun i hi ho => ?_⟩
    · show ((w.heap.modify B (onCells (putCells enc off dk))) ++ os)[B]? = _
      rw [Array.getElem?_append_left (by simpa using hB), Array.getElem?_modify, if_pos rfl, ha]
      rfl
    · have hi' : i < dk.size := by simpa using hi
      simp only [putCells, Array.getElem?_mapIdx, Array.getElem?_eq_getElem ho, Option.map_some]
      rw [if_pos ⟨by omega, by omega⟩, show off + i - off = i by omega, getElem!_pos dk i hi']
      simp [hi']
theorem sortOutK {α : Type} [Inhabited α] (enc : α → List Value) (k : Nat) (w : World) (B off m : Nat) (dk : Array α) (os : Array Go.Obj) (hB : B < w.heap.size) : SortOut w B off ((flatK enc k dk).toList.map id) (sortWorldK enc k w B off m dk os) :=
  sortOut1 id w B off m (flatK enc k dk) os hB
theorem Sim.bare {base : Nat} {W : Nat → Prop} {μ : Mu} {h : Heap} {w : World} (hs : Sim X base W μ h w) {W1 : Nat → Prop} (hsub : ∀ B, W1 B → W B) : Sim X base W1 noMu emptyHeap w where
  obj b o hb := by simp [emptyHeap] at hb
  inj b b' B o o' hb := by simp [emptyHeap] at hb
  glob g cs hg := by
    obtain ⟨h1, h2, us, h3⟩ := hs.glob g cs hg
    refine ⟨h1, fun hW => h2 (hsub _ hW), us, fun i a ha => ?_⟩
    obtain ⟨k1, k2, k3⟩ := h3 i a ha
    exact ⟨k1, k2.step (Step.shrink w noMu hsub), k3⟩
  wlt B hB := hs.wlt B (hsub B hB)
  ble := hs.ble
/-- A comparison's call in a world behind the first one. -/
theorem calls_behind (hmix : X.P.follows .mixedOrders = true) (hsp : SpecSound X) {G : Nat} {pre xs : List AV} {n : Int} (hcmp : M X G (pre ++ weaks xs) = some (.int .i64 n)) {base : Nat} {w : World} {W W1 : Nat → Prop} {μ : Mu} {h : Heap} (hs : Sim X base W μ h w) (hsub : ∀ B, W1 B → W B)
    {cb : Array Value} (ha : ArgsRep w W1 noMu cb (weaks xs)) {w1 : World} (st : Step base w W1 noMu w1 W1 noMu) {vs : Array Value} (hv : ArgsRep w1 W1 noMu vs pre) :
    Calls X.P G (vs ++ cb) w1 fun e w' => e = .returned (.int .i64 n) ∧ ∃ q os', w' = Go.Sort.grow (w1.drewN q) os' := by
  have sim0 : Sim X base W1 noMu emptyHeap w := hs.bare hsub
  have sim1 := sim0.keep st (fun _ _ => rfl) (fun b B o' hb => by simp [emptyHeap] at hb) (fun C hC => Nat.lt_of_lt_of_le (sim0.wlt C hC) st.size)
  refine (calls_grow hmix hsp hcmp sim1 (fun _ h => h) (vals := vs ++ cb) ⟨by simp [ha.1, hv.1], fun i v a hv' haa => ?_⟩).2
  by_cases hi : i < vs.size
  · rw [Array.getElem?_append_left hi] at hv'
    rw [List.getElem?_append_left (by rw [← hv.1]; exact hi)] at haa
    exact hv.2 i v a hv' haa
  · rw [Array.getElem?_append_right (by omega)] at hv'
    rw [List.getElem?_append_right (by rw [← hv.1]; omega), ← hv.1] at haa
    exact (ha.2 _ v a hv' haa).step st
/-- The library's sort of a row of whole numbers. -/
theorem sort_ints (hmix : X.P.follows .mixedOrders = true) (hsp : SpecSound X) {α : Type} [Inhabited α] {ρ : Ren} (L : SlLaysF.n6 X.P ρ) (e : α → Int) (cf : α → α → Int) (hO : SWO (ltOf cf)) {F G : Nat} (hF : ρ.f 6 = F) (hG : ∃ fn, X.P.funcs[G]? = some fn ∧ funcOk fn = true)
    {d : Array α} {xs : List AV} (hsz : d.size < 2 ^ 40) (hcmp : ∀ x y, M X G (.int .i64 (e x) :: .int .i64 (e y) :: weaks xs) = some (.int .i64 (cf x y)))
    (base : Nat) (w : World) (W W1 : Nat → Prop) (μ : Mu) (h : Heap) (B off c : Nat) (cb : Array Value) (arr : Array Value) (ty : TypeId) (harr : w.heap[B]? = some (Go.Obj.cells arr ty (0, 0))) (hle : off + (ints (d.toList.map e)).length ≤ arr.size)
    (hcells : ∀ (i : Nat) (a : AV), (ints (d.toList.map e))[i]? = some a → ∃ u, arr[off + i]? = some u ∧ Rep w W μ u a) (hb : base ≤ B) (hW : W1 B) (hsub : ∀ B, W1 B → W B) (hs : Sim X base W μ h w) (ha : ArgsRep w W1 noMu cb (weaks xs)) :
    Calls X.P F #[.slice (some ⟨B, off, none⟩) d.size c, .func (.func G) #[] cb] w fun en w' => en = .returned (.tuple #[]) ∧ ∃ y : Array α, (PermIn 0 d.size d y ∧ SortedIn (ltOf cf) 0 d.size y) ∧ SortOut w B off (y.toList.map fun x => .int .i64 (e x)) w' := by
  subst hF
  obtain ⟨fn, hf, hok⟩ := hG
  have hB : B < w.heap.size := heap_lt harr
  have hH : Holds (fun x => Value.int .i64 (e x)) w B off d := by
    intro j hj
    obtain ⟨u, u1, u2⟩ := hcells j (.int .i64 (e d[j])) (by simp [ints, hj])
    refine ⟨?_, by simp [World.frozen?, harr]⟩
    rw [cell?_arr harr, u1, getElem!_pos d j hj, rep_int u2]
  refine (Any.slices_SortFunc L (fun x => Value.int .i64 (e x)) (fun _ => rfl) cf hO G cb B off c d w (fun args w => callFunc_runs hf hok args w) ?_ hH hB (by omega)).mono ?_
  · intro m os dk hdk x y
    have so := sortOut1 (fun x => Value.int .i64 (e x)) w B off m dk os hB
    have st : Step base w W1 noMu (sortWorld (fun x => Value.int .i64 (e x)) w B off m dk os) W1 noMu := so.step hb hW
    refine calls_behind hmix hsp (pre := [.int .i64 (e x), .int .i64 (e y)]) (hcmp x y) hs hsub ha st ⟨rfl, fun i v a hv haa => ?_⟩
    match i with
    | 0 => simp at hv haa; subst hv; subst haa; exact .int _ _ _
    | 1 => simp at hv haa; subst hv; subst haa; exact .int _ _ _
    | i + 2 => simp at hv
  · rintro en w' ⟨he, d', n, os, hp, hso, rfl⟩
    exact ⟨he, d', ⟨hp, hso⟩, sortOut1 _ w B off n d' os hB⟩
/-- .. of pairs. -/
def encP (p : Int × Int) : List Value := [.int .i64 p.1, .int .i64 p.2]
def prC : List (Int × Int) → List AV
  | [] => []
  | (a, b) :: l => .int .i64 a :: .int .i64 b :: prC l
theorem prC_length (l : List (Int × Int)) : (prC l).length = 2 * l.length := by
  induction l with
  | nil => rfl
  | cons p l ih => simp only [prC, List.length_cons, ih]; omega
theorem prC_get (l : List (Int × Int)) : ∀ i, (prC l)[i]? = (l[i / 2]?).map fun p => .int .i64 (if i % 2 = 0 then p.1 else p.2) := by
  induction l with
  | nil => intro i; simp [prC]
  | cons p l ih =>
    intro i
    match i with
    | 0 => rfl
    | 1 => rfl
    | i + 2 =>
      show (prC l)[i]? = _
      rw [ih i, show (i + 2) / 2 = i / 2 + 1 by omega, show (i + 2) % 2 = i % 2 by omega]
      rfl
theorem flatP_get (d : Array (Int × Int)) (i : Nat) (hi : i < 2 * d.size) : (flatK encP 2 d)[i]? = (prC d.toList)[i]?.map fun a => match a with | .int k n => Value.int k n | _ => undef := by
  have h1 : i / 2 < d.size := by omega
  rw [prC_get, Array.getElem?_eq_getElem (by rw [size_flatK]; omega)]
  have hg := get_flatK encP 2 d i (by omega)
  rw [getElem!_pos _ i (by rw [size_flatK]; omega)] at hg
  rw [hg, getElem!_pos d _ h1]
  simp only [Array.getElem?_toList, Array.getElem?_eq_getElem h1, Option.map_some, encP]
  rcases Nat.mod_two_eq_zero_or_one i with hm | hm <;> rw [hm] <;> rfl
theorem sort_pairs (hmix : X.P.follows .mixedOrders = true) (hsp : SpecSound X) {ρ : Ren} (L : SlLaysF0.n6 X.P ρ) (aE : ∀ w, (isAgg (ρ.t 24)).run X.P w = .ok true w) (zE : ∀ w, (Go.sizeOf (ρ.t 24)).run X.P w = .ok 2 w) (cf : Int × Int → Int × Int → Int) (hO : SWO (ltOf cf))
    (hT : ∀ x y, (ltOf cf) x y = false → (ltOf cf) y x = false → x = y) {F G : Nat} (hF : ρ.f 6 = F) (hG : ∃ fn, X.P.funcs[G]? = some fn ∧ funcOk fn = true)
    {d : Array (Int × Int)} {xs : List AV} (hsz : d.size < 2 ^ 40) (hcmp : ∀ x y : Int × Int, M X G (.agg [.int .i64 x.1, .int .i64 x.2] :: .agg [.int .i64 y.1, .int .i64 y.2] :: weaks xs) = some (.int .i64 (cf x y)))
    (base : Nat) (w : World) (W W1 : Nat → Prop) (μ : Mu) (h : Heap) (B off c : Nat) (cb : Array Value) (arr : Array Value) (ty : TypeId) (harr : w.heap[B]? = some (Go.Obj.cells arr ty (0, 0))) (hle : off + (prC d.toList).length ≤ arr.size)
    (hcells : ∀ (i : Nat) (a : AV), (prC d.toList)[i]? = some a → ∃ u, arr[off + i]? = some u ∧ Rep w W μ u a) (hb : base ≤ B) (hW : W1 B) (hsub : ∀ B, W1 B → W B) (hs : Sim X base W μ h w) (ha : ArgsRep w W1 noMu cb (weaks xs)) :
    Calls X.P F #[.slice (some ⟨B, off, none⟩) d.size c, .func (.func G) #[] cb] w fun en w' => en = .returned (.tuple #[]) ∧ SortOut w B off ((flatK encP 2 (d.toList.mergeSort fun x y => !(ltOf cf) y x).toArray).toList.map id) w' := by
  subst hF
  obtain ⟨fn, hf, hok⟩ := hG
  have hB : B < w.heap.size := heap_lt harr
  have hH : HoldsK encP 2 w B off d := by
    intro j hj
    rw [size_flatK] at hj
    have hj2 : j / 2 < d.size := by omega
    have hp := prC_get d.toList j
    rw [show d.toList[j / 2]? = some d[j / 2] by simp [hj2]] at hp
    obtain ⟨u, u1, u2⟩ := hcells j _ hp
    refine ⟨?_, by simp [World.frozen?, harr]⟩
    have hg := get_flatK encP 2 d j (by omega)
    rw [cell?_arr harr, u1, hg, getElem!_pos d _ hj2, rep_int u2]
    rcases Nat.mod_two_eq_zero_or_one j with hm | hm <;> rw [hm] <;> rfl
  refine (AnyQ.slices_SortFunc_total L 2 aE zE encP (fun _ => rfl) (fun x v hv => by simp [encP] at hv; rcases hv with rfl | rfl <;> rfl) cf hO G cb B off c d w (fun args w => callFunc_runs hf hok args w) ?_ hH hB (by omega) hT).mono ?_
  · intro m os dk hdk x y
    have so := sortOutK encP 2 w B off m dk os hB
    have st : Step base w W1 noMu (sortWorldK encP 2 w B off m dk os) W1 noMu := so.step hb hW
    have pr : ∀ p : Int × Int, Rep (sortWorldK encP 2 w B off m dk os) W1 noMu (.agg (encP p).toArray) (.agg [.int .i64 p.1, .int .i64 p.2]) := fun p => by
      refine .agg _ _ _ rfl (fun i v a hv haa => ?_) (fun i a haa => ?_)
      · match i with
        | 0 => simp [encP] at hv haa; subst hv; subst haa; exact .int _ _ _
        | 1 => simp [encP] at hv haa; subst hv; subst haa; exact .int _ _ _
        | i + 2 => simp [encP] at hv
      · match i with
        | 0 => simp at haa; subst haa; rfl
        | 1 => simp at haa; subst haa; rfl
        | i + 2 => simp at haa
    refine calls_behind hmix hsp (pre := [.agg [.int .i64 x.1, .int .i64 x.2], .agg [.int .i64 y.1, .int .i64 y.2]]) (hcmp x y) hs hsub ha st ⟨rfl, fun i v a hv haa => ?_⟩
    match i with
    | 0 => simp at hv haa; subst hv; subst haa; exact pr x
    | 1 => simp at hv haa; subst hv; subst haa; exact pr y
    | i + 2 => simp at hv
  · rintro en w' ⟨he, n, os, rfl⟩
    exact ⟨he, sortOutK encP 2 w B off n _ os hB⟩
/-- A call of the sort at no element. -/
theorem NO_sort0 {nt b0 i : Nat} {l : List Nat} {o : Oper} (ho : ops[i]? = some o) {ρ : Ren} (L : SlLaysF0.n6 X.P ρ) {F : Nat} (hF : ρ.f 6 = F) {oas : Array Operand} {ats : Array TypeId} (hop : o.op = .call ⟨.value (.func F), oas, ats⟩) (hg : o.guard = none) (hdt : ∀ t, o.dst = some t → t < nt)
    {st : St} {x : XH} {Φ : St → XH → Prop} {s f : AV} (hev : evalsA X st.env oas.toList = some [s, f]) (hs0 : (∃ b off cap sz, s = .sl b off 0 cap sz) ∨ ∃ full, s = .ro [] 0 full)
    (hfn : ∃ fn, X.P.funcs[F]? = some fn ∧ funcOk fn = true)
    (h : NO X nt ops b0 l { st with env := putEnv st.env o.dst (.tuple []) } x Φ) : NO X nt ops b0 (i :: l) st x Φ := by
  subst hF
  intro base W μ a w hr hx hnext hlt hfree Q hQ
  simp only [wpOps, ho]
  have hwb : Region.wanted o (yielded ops a.tmps) = true := by unfold Region.wanted; rw [hg]
  simp only [hwb, if_true]
  left
  have hd : ∀ t, o.dst = some t → t < a.tmps.size := fun t ht => by rw [hr.nt]; exact hdt t ht
  obtain ⟨l1, l2⟩ := evalsA_sound (fun y v => evalA_sound hr.sim hr.env y v) _ _ hev
  obtain ⟨v1, v2, hv⟩ := len_two (l := oas.toList.map a.eval) (by simpa using l1)
  rw [hv] at l2
  have r1 := l2 0 v1 _ rfl rfl
  obtain ⟨p, c, rfl⟩ : ∃ p c, v1 = .slice p 0 c := by
    rcases hs0 with ⟨b, off, cap, sz, rfl⟩ | ⟨full, rfl⟩
    · cases r1; exact ⟨_, _, rfl⟩
    · cases r1 <;> exact ⟨_, _, rfl⟩
  obtain ⟨fn, hf, hok⟩ := hfn
  have hrun : (execOp a.eval o).run X.P w = .ok (.enter (ρ.f 6) #[.slice p 0 c, v2]) w := by
    have harr : oas.map a.eval = #[.slice p 0 c, v2] := by
      apply Array.ext'
      rw [Array.toList_map, hv]
    have hcf := callFunc_runs hf hok #[.slice p 0 c, v2] w
    unfold execOp
    rw [hop]
    have he : a.eval (.func (ρ.f 6)) = .func (.func (ρ.f 6)) #[] #[] := rfl
    simp only [resolve, he, Deferred.ofValue, Sem.run_bind, Sem.run_pure, Result.andThen, invoke, harr, Array.empty_append, Array.append_empty]
    exact hcf
  show o.upon X.P a _ Q ((execOp a.eval o).run X.P w)
  rw [hrun]
  refine Calls.mono (AnyF.slices_SortFunc_none L p c v2 w) ?_
  rintro en w1 ⟨rfl, rfl⟩
  have hput := putRep (Step.refl base w1 W μ) hr.env hd (v := .tuple #[]) (x := .tuple []) (.tuple _ #[] [] rfl (by simp))
  exact h base W μ _ w1 ⟨hr.sim, hput, by rw [(put_size a o.dst (.tuple #[])).1]; exact hr.nt, by rw [(put_size a o.dst (.tuple #[])).2]; exact hr.defers, hr.free⟩ hx hnext (fun j hj => hlt j (by simp [hj])) (fun j hj k hk => hfree j (by simp [hj]) k hk) Q hQ
end Go.Proofs.YtjccikgdebgebaaGreatDoor.Abs
end
section
set_option linter.unusedSimpArgs false
namespace Go.Proofs.YtjccikgdebgebaaGreatDoor.Abs
open Go
attribute [go_sem] nwQ_normal nwQ_ret nwQ_exit nsQ_normal nsQ_ret nsQ_exit nbQ_normal nbQ_ret nbQ_exit nlQ_normal nlQ_ret nlQ_exit
/-- The numbers below n, as far as they are laid. -/
def ordL (n i : Nat) : List Int := (List.range n).map fun k => if k < i then (k : Int) else 0
theorem ordL_length (n i : Nat) : (ordL n i).length = n := by simp [ordL]
theorem ordL_zero (n : Nat) : ordL n 0 = List.replicate n 0 := by
  apply List.ext_getElem (by simp [ordL])
  intro i h1 h2
  simp [ordL]
theorem ordL_set (n i : Nat) (h : i < n) : (ordL n i).set i (i : Int) = ordL n (i + 1) := by
  apply List.ext_getElem (by simp [ordL])
  intro k h1 h2
  simp only [ordL, List.getElem_set, List.getElem_map, List.getElem_range]
  by_cases hk : i = k
  · subst hk; simp
  · rw [if_neg hk]
    by_cases h3 : k < i
    · rw [if_pos h3, if_pos (by omega)]
    · rw [if_neg h3, if_neg (by omega)]
set_option maxRecDepth 100000 in
open Go.Shelf Go.RowKit Go.Lib Go.Sort in
theorem NO_sort_fin [SpC] (hsp : SpecSound X) {ops : Array Oper} {nt b0 i : Nat} {l0 : List Nat} {dst : Option Tmp} {ats : Array TypeId} {ty : TypeId} {pos : String} {af : Array Edge} {ts tf : Nat} (ho : ops[i]? = some ⟨dst, .call ⟨.value (.func 69), #[.tmp ts, .tmp tf], ats⟩, ty, pos, af, none⟩) (hdt : ∀ t, dst = some t → t < nt)
    {st : St} {x : XH} {Φ : St → XH → Prop} {l : List BoxQ} {n : Nat} (hl : okB l n) (hlen : l.length < 2 ^ 20) (hn : 2 * n < 2 ^ 24) {O P : Nat} (hOP : O ≠ P) (hs : st.env ts = .sl O 0 l.length (some l.length) 1) (hf : st.env tf = .func (.func 70) [] [.ptr P 0])
    (h0 : st.heap P = some (.cells [.ro (boxC l) l.length false] false false)) (hO : st.heap O = some (.cells (ints (ordL l.length l.length)) false false))
    (h : ∀ ord : List Nat, ord.Perm (List.range l.length) → ord.Pairwise (fun a b => ¬ lxN l b < lxN l a) → NO X nt ops b0 l0 { st with env := putEnv st.env dst (.tuple []), heap := upd st.heap O (some (.cells (ints (ord.map fun k : Nat => (k : Int))) false false)) } x Φ) :
    NO X nt ops b0 (i :: l0) st x Φ := by
  by_cases hz : l.length = 0
  · refine NO_sort0 ho Tryz.sortInt0 rfl rfl rfl hdt (s := .sl O 0 0 (some 0) 1) (f := .func (.func 70) [] [.ptr P 0]) (by simp only [evalsA_cons, evalsA_nil, evalA_tmp, hs, hf, nx_some, mp_some, hz]) (.inl ⟨_, _, _, _, rfl⟩) ⟨_, Tryz.func69, ok_69⟩ ?_
    have h1 := h [] (by simp [hz]) (by simp)
    have h2 : upd st.heap O (some (.cells (ints (([] : List Nat).map fun k : Nat => (k : Int))) false false)) = st.heap := by
      funext b
      by_cases hb : b = O
      · subst hb; rw [upd_eq, hO, hz]; rfl
      · rw [upd_ne _ _ hb]
    rw [h2] at h1
    exact h1
  · haveI : Inhabited (Fin l.length) := ⟨⟨0, by omega⟩⟩
    obtain ⟨d, hdl⟩ : ∃ d : Array (Fin l.length), d.toList = List.finRange l.length := ⟨(List.finRange l.length).toArray, rfl⟩
    have hds : d.size = l.length := by rw [← Array.length_toList, hdl]; simp
    have hdm : (d.toList.map fun k => ((k.val : Nat) : Int)) = ordL l.length l.length := by
      rw [hdl]
      apply List.ext_getElem (by simp [ordL])
      intro i h1 h2
      simp only [ordL, List.getElem_map, List.getElem_finRange, List.getElem_range]
      rw [if_pos (by simpa using h1)]
      rfl
    have hlt : ∀ x y : Fin l.length, ltOf (fun x y : Fin l.length => cmpQ (l.getD ((x.val : Nat) : Int).toNat box0).lx (l.getD ((y.val : Nat) : Int).toNat box0).lx) x y = decide (lxN l x.val < lxN l y.val) := by
      intro x y
      unfold ltOf
      rw [decide_eq_decide, cmpQ_neg]
      simp only [Int.toNat_natCast, lxN]
    have hswo : SWO (ltOf (fun x y : Fin l.length => cmpQ (l.getD ((x.val : Nat) : Int).toNat box0).lx (l.getD ((y.val : Nat) : Int).toNat box0).lx)) := by
      refine ⟨fun x => ?_, fun x y z h1 h2 => ?_, fun x y z h1 h2 => ?_⟩
      · rw [hlt]; simp
      · rw [hlt] at *; simp only [decide_eq_true_eq] at *; grind
      · rw [hlt] at *; simp only [decide_eq_false_iff_not] at *; grind
    have hw : weaks [AV.rptr [.ro (boxC l) l.length false]] = [.rptr [.ro (boxC l) l.length false]] := by
      simp [AV.weak.go, AV.weak, weaks_boxC]
    refine NO_sort ho rfl rfl hdt (O := O) (n := l.length) (sz := 1) (cap := some l.length) (G := 70) (caps := [.ptr P 0]) (xs := [.rptr [.ro (boxC l) l.length false]]) (ids := [P]) (by simp only [evalsA_cons, evalsA_nil, evalA_tmp, hs, hf, nx_some, mp_some]) hO ⟨_, Tryz.func69, ok_69⟩
      (by simp only [depthA, snaps_cons, snaps_nil, snap_ptr, h0, snapP_some, List.drop_zero, snap_ro, nx_some, mp_some, List.append_nil]) (by simpa using hOP)
      (γ := Array (Fin l.length)) (fun y => PermIn 0 d.size d y ∧ SortedIn (ltOf (fun x y : Fin l.length => cmpQ (l.getD ((x.val : Nat) : Int).toNat box0).lx (l.getD ((y.val : Nat) : Int).toNat box0).lx)) 0 d.size y)
      (fun y => y.toList.map fun k => .int .i64 ((k.val : Nat) : Int)) (fun y => ints (y.toList.map fun k => ((k.val : Nat) : Int))) ?_ ?_ ?_ ?_
    · rintro y ⟨⟨h1, _⟩, _⟩
      simp [ints_length, ordL_length, h1, hds]
    · rintro y _ i v a hv ha
      simp only [ints, List.map_map, List.getElem?_map, Option.map_eq_some_iff] at hv ha
      obtain ⟨k, hk, rfl⟩ := hv
      obtain ⟨k', hk', rfl⟩ := ha
      rw [hk] at hk'; cases hk'
      exact ⟨fun _ _ _ => .int _ _ _, rfl⟩
    · intro base w W W1 μ hh B off c cb arr e harr hle hcells hb hW1 hsub hsim hargs
      have hS := sort_ints mixed hsp Tryz.sortInt (fun k : Fin l.length => ((k.val : Nat) : Int)) _ hswo (F := 69) (G := 70) rfl ⟨_, Tryz.func70, ok_70⟩ (d := d) (xs := [.rptr [.ro (boxC l) l.length false]]) (by omega) (fun x y => by
        rw [hw]
        exact M_70 hl (by omega) hn _ _ ⟨by omega, by have := x.isLt; omega⟩ ⟨by omega, by have := y.isLt; omega⟩) base w W W1 μ hh B off c cb arr e harr (by rw [hdm]; exact hle) (by rw [hdm]; exact hcells) hb hW1 hsub hsim hargs
      rw [hds] at hS ⊢
      exact hS
    · rintro y ⟨⟨h1, _, h3⟩, h4⟩
      have hy : y.size = l.length := by rw [h1, hds]
      have hp : (y.toList.map (·.val)).Perm (List.range l.length) := by
        have h3' : (List.take d.size y.toList).Perm d.toList := by simpa using h3
        rw [List.take_of_length_le (by simp [h1])] at h3'
        have h6 := h3'.map (fun k : Fin l.length => k.val)
        rw [hdl] at h6
        have h7 : (List.finRange l.length).map (fun k : Fin l.length => k.val) = List.range l.length := by
          apply List.ext_getElem (by simp)
          intro i h1 h2
          simp
        rw [h7] at h6
        exact h6
      have h8 := h (y.toList.map (·.val)) hp (by
        rw [List.pairwise_iff_getElem]
        intro i j hi hj hij
        simp only [List.length_map, Array.length_toList] at hi hj
        have h9 := h4 i j (by omega) hij (by omega)
        rw [getElem!_pos y j hj, getElem!_pos y i hi, hlt, decide_eq_false_iff_not] at h9
        simpa using h9)
      rw [List.map_map] at h8
      exact h8
theorem prC_eq (l : List Pt) : prC l = ptC l := by
  induction l with
  | nil => rfl
  | cons p l ih => simp only [prC, ptC, ih]
theorem lexlt_nodup {m : List Pt} (h : m.Pairwise lexlt) : m.Nodup := h.imp fun {a b} hab e => by subst e; exact lexlt_irrefl _ hab
set_option maxRecDepth 100000 in
open Go.Shelf Go.RowKit Go.Lib Go.Sort in
theorem NO_sort_prs [SpC] (hsp : SpecSound X) {ops : Array Oper} {nt b0 i : Nat} {l0 : List Nat} {dst : Option Tmp} {ats : Array TypeId} {ty : TypeId} {pos : String} {af : Array Edge} {ts : Nat} (ho : ops[i]? = some ⟨dst, .call ⟨.value (.func 71), #[.tmp ts, .func 72], ats⟩, ty, pos, af, none⟩) (hdt : ∀ t, dst = some t → t < nt)
    {st : St} {x : XH} {Φ : St → XH → Prop} {lo nx : Nat} {out m : List Pt} (hg : GrowC lo st.heap nx (st.env ts) (ptC out) out.length 2) (hlen : out.length < 2 ^ 40) (hn : out.Nodup) (hm : m.Pairwise lexlt) (hmem : ∀ p, p ∈ out ↔ p ∈ m)
    (h : ∀ heap', GrowC lo heap' nx (st.env ts) (ptC m) m.length 2 → NO X nt ops b0 l0 { st with env := putEnv st.env dst (.tuple []), heap := heap' } x Φ) :
    NO X nt ops b0 (i :: l0) st x Φ := by
  have hme := merge_eq out m hn hm hmem
  have hml : m.length = out.length := by rw [← hme, List.length_mergeSort]
  rcases hg with ⟨e3, ec, e0⟩ | ⟨B, hB, e3, eB⟩
  · obtain rfl : m = [] := List.eq_nil_of_length_eq_zero (by omega)
    refine NO_sort0 ho Tryz.sortPair rfl rfl rfl hdt (s := .ro [] 0 true) (f := .func (.func 72) [] []) (by simp only [evalsA_cons, evalsA_nil, evalA_tmp, evalA_func, e3, nx_some, mp_some]) (.inr ⟨_, rfl⟩) ⟨_, Tryz.func71, ok_71⟩ ?_
    exact h st.heap (.inl ⟨e3, rfl, rfl⟩)
  · have hlt : ∀ x y : Pt, ltOf cfP x y = decide (cfP x y < 0) := fun _ _ => rfl
    have hswo : SWO (ltOf cfP) := by
      refine ⟨fun x => ?_, fun x y z h1 h2 => ?_, fun x y z h1 h2 => ?_⟩
      · rw [hlt, decide_eq_false_iff_not, cfP_neg]; exact lexlt_irrefl x
      · rw [hlt] at *; simp only [decide_eq_true_eq, cfP_neg] at *; exact lexlt_trans h1 h2
      · rw [hlt] at *; simp only [decide_eq_false_iff_not, cfP_neg] at *; unfold lexlt at *; omega
    refine NO_sort ho rfl rfl hdt (O := B) (n := out.length) (sz := 2) (cap := none) (G := 72) (caps := []) (xs := []) (ids := []) (by simp only [evalsA_cons, evalsA_nil, evalA_tmp, evalA_func, e3, nx_some, mp_some]) eB ⟨_, Tryz.func71, ok_71⟩
      (by simp only [snaps_nil]) (by simp) (γ := Unit) (fun _ => True) (fun _ => (flatK encP 2 m.toArray).toList.map id) (fun _ => ptC m) ?_ ?_ ?_ ?_
    · intro _ _
      simp only [ptC_length, List.length_map, Array.length_toList, size_flatK, List.size_toArray, hml]
      exact ⟨trivial, by omega⟩
    · intro _ _ i v a hv ha
      have hi : i < 2 * m.length := by rw [← ptC_length]; exact (List.getElem?_eq_some_iff.1 ha).1
      have hf := flatP_get m.toArray i (by simpa using hi)
      rw [← prC_eq] at ha
      simp only [List.map_id, Array.getElem?_toList] at hv
      rw [hv, ha] at hf
      rw [prC_get] at ha
      obtain ⟨p, hp, rfl⟩ := Option.map_eq_some_iff.1 ha
      simp only [Option.map_some, Option.some.injEq] at hf
      subst hf
      exact ⟨fun _ _ _ => .int _ _ _, rfl⟩
    · intro base w W W1 μ hh B' off c cb arr e harr hle hcells hb hW1 hsub hsim hargs
      have hS := sort_pairs mixed hsp Tryz.sortPair Tryz.isAgg87 Tryz.sizeOf87 cfP hswo (fun x y h1 h2 => by
        rw [hlt] at *; simp only [decide_eq_false_iff_not, cfP_neg] at *; exact lexlt_total h1 h2) (F := 71) (G := 72) rfl ⟨_, Tryz.func72, ok_72⟩ (d := out.toArray) (xs := []) (by simpa using hlen) (fun x y => M_72 x.1 x.2 y.1 y.2)
        base w W W1 μ hh B' off c cb arr e harr (by rw [prC_eq]; exact hle) (by rw [prC_eq]; exact hcells) hb hW1 hsub hsim hargs
      rw [List.size_toArray] at hS
      refine hS.mono ?_
      rintro en w' ⟨he, ho⟩
      refine ⟨he, (), trivial, ?_⟩
      have : (out.mergeSort fun x y => !(ltOf cfP) y x) = m := hme
      rw [show out.toArray.toList = out from rfl, this] at ho
      exact ho
    · intro _ _
      exact h _ (.inr ⟨B, hB, by rw [hml]; exact e3, upd_eq _ _ _⟩)
set_option maxRecDepth 100000 in
set_option maxHeartbeats 8000000 in
theorem spec_Sorted [SpC] (hsp : SpecSound X) {l : List BoxQ} {n : Nat} (hl : okB l n) (hlen : l.length < 2 ^ 16) (hn : 8 * n < 2 ^ 24) :
    SpecAt X 37 [.ro (boxC l) l.length false] (.ro (ptC (prsP l l.length l.length)) (prsP l l.length l.length).length false) := by
  have hbl := boxC_length l
  refine spec_of (X := X) (fn := Tryz.f37) Tryz.func37 rfl ok_37 [.ro (boxC l) l.length false] rfl (.ro (ptC (prsP l l.length l.length)) (prsP l l.length l.length).length false) ?_
  show @NH X 82 ⟨_⟩ _ _ _
  refine NH_seqD mixed hsp (by kernel_rfl) ?_
  simp (maxSteps := 4000000) (disch := first | omega | (simp only [List.length_set, List.length_replicate, List.length_append, List.length_take, List.length_drop, List.length_cons, List.length_nil]; omega)) only [go_sem, reduceCtorEq, Nat.reduceEqDiff, Nat.reduceAdd, Nat.reduceMul, Nat.reduceSub, ↓Nat.reduceBEq, Nat.reduceLT, Nat.reduceLeDiff, Int.reduceLT, Int.reduceLE, Int.reduceNeg, Int.reduceToNat]
  refine NH_seqD mixed hsp (by kernel_rfl) ?_
  simp (maxSteps := 4000000) (disch := first | omega | (simp only [List.length_set, List.length_replicate, List.length_append, List.length_take, List.length_drop, List.length_cons, List.length_nil]; omega)) only [go_sem, reduceCtorEq, Nat.reduceEqDiff, Nat.reduceAdd, Nat.reduceMul, Nat.reduceSub, ↓Nat.reduceBEq, Nat.reduceLT, Nat.reduceLeDiff, Int.reduceLT, Int.reduceLE, Int.reduceNeg, Int.reduceToNat, hbl]
  refine NH_seqD mixed hsp (by kernel_rfl) ?_
  simp (maxSteps := 4000000) (disch := first | omega | (simp only [List.length_set, List.length_replicate, List.length_append, List.length_take, List.length_drop, List.length_cons, List.length_nil]; omega)) only [go_sem, reduceCtorEq, Nat.reduceEqDiff, Nat.reduceAdd, Nat.reduceMul, Nat.reduceSub, ↓Nat.reduceBEq, Nat.reduceLT, Nat.reduceLeDiff, Int.reduceLT, Int.reduceLE, Int.reduceNeg, Int.reduceToNat, hbl]
  refine W_loop X (fun (i : Nat) s => i ≤ l.length ∧ s.env 1 = .ptr 0 0 ∧ s.env 3 = .sl 32 0 l.length (some l.length) 1 ∧ s.env 14 = .int .i64 l.length ∧ s.env 15 = .int .i64 i ∧ s.heap 0 = some (.cells [.ro (boxC l) l.length false] false false) ∧ s.heap 32 = some (.cells (ints (ordL l.length i)) false false) ∧ 48 ≤ s.next) (fun i => l.length - i) ?_ 0 _ ?_
  · rintro i ⟨env, heap, nx⟩ ⟨hi, g1, g3, g14, g15, h0, h32, hnx⟩
    simp only at g1 g3 g14 g15 h0 h32 hnx
    by_cases h1 : i < l.length
    · simp (maxSteps := 4000000) (disch := first | omega | (simp only [List.length_set, List.length_replicate, List.length_append, List.length_take, List.length_drop, List.length_cons, List.length_nil]; omega)) only [go_sem, reduceCtorEq, Nat.reduceEqDiff, Nat.reduceAdd, Nat.reduceMul, Nat.reduceSub, ↓Nat.reduceBEq, Nat.reduceLT, Nat.reduceLeDiff, Int.reduceLT, Int.reduceLE, Int.reduceNeg, Int.reduceToNat, g1, g3, g14, g15, h0, h32, ordL_length, ints_splice]
      refine ⟨i + 1, ?_, by omega⟩
      rw [ints_splice _ _ _ (by rw [ordL_length]; exact h1), ordL_set _ _ h1]
      exact ⟨by omega, rfl, rfl⟩
    · obtain rfl : i = l.length := by omega
      simp (maxSteps := 4000000) (disch := first | omega | (simp only [List.length_set, List.length_replicate, List.length_append, List.length_take, List.length_drop, List.length_cons, List.length_nil]; omega)) only [go_sem, reduceCtorEq, Nat.reduceEqDiff, Nat.reduceAdd, Nat.reduceMul, Nat.reduceSub, ↓Nat.reduceBEq, Nat.reduceLT, Nat.reduceLeDiff, Int.reduceLT, Int.reduceLE, Int.reduceNeg, Int.reduceToNat, g1, g3, g14, g15, h0, h32, ordL_length]
      refine NH_seq ?_
      refine NH_region ?_
      refine NO_step mixed hsp rfl (by decide) (by rintro t ⟨⟩; decide) ?_
      simp (maxSteps := 4000000) (disch := first | omega | (simp only [List.length_set, List.length_replicate, List.length_append, List.length_take, List.length_drop, List.length_cons, List.length_nil]; omega)) only [go_sem, reduceCtorEq, Nat.reduceEqDiff, Nat.reduceAdd, Nat.reduceMul, Nat.reduceSub, ↓Nat.reduceBEq, Nat.reduceLT, Nat.reduceLeDiff, Int.reduceLT, Int.reduceLE, Int.reduceNeg, Int.reduceToNat, g1, g3, g14, g15, h0, h32, ordL_length]
      refine NO_step mixed hsp rfl (by decide) (by rintro t ⟨⟩; decide) ?_
      simp (maxSteps := 4000000) (disch := first | omega | (simp only [List.length_set, List.length_replicate, List.length_append, List.length_take, List.length_drop, List.length_cons, List.length_nil]; omega)) only [go_sem, reduceCtorEq, Nat.reduceEqDiff, Nat.reduceAdd, Nat.reduceMul, Nat.reduceSub, ↓Nat.reduceBEq, Nat.reduceLT, Nat.reduceLeDiff, Int.reduceLT, Int.reduceLE, Int.reduceNeg, Int.reduceToNat, g1, g3, g14, g15, h0, h32, ordL_length]
      refine NO_sort_fin hsp rfl (by rintro t ⟨⟩; decide) hl (by omega) (by omega) (O := 32) (P := 0) (by decide) rfl rfl h0 h32 fun ord hperm hsorted => NO_nil ?_
      have hol : ord.length = l.length := by rw [hperm.length_eq, List.length_range]
      refine NH_seq ?_
      refine NH_region ?_
      refine NO_makeMap (t := 26) (ty := 98) rfl rfl rfl rfl (by decide) fun bm hbm => ?_
      refine NO_step mixed hsp rfl (by decide) (by rintro t ⟨⟩; decide) ?_
      simp (maxSteps := 4000000) (disch := first | omega | (simp only [List.length_set, List.length_replicate, List.length_append, List.length_take, List.length_drop, List.length_cons, List.length_nil]; omega)) only [go_sem, reduceCtorEq, Nat.reduceEqDiff, Nat.reduceAdd, Nat.reduceMul, Nat.reduceSub, ↓Nat.reduceBEq, Nat.reduceLT, Nat.reduceLeDiff, Int.reduceLT, Int.reduceLE, Int.reduceNeg, Int.reduceToNat]
      refine NO_nil ?_
      refine NH_seqD mixed hsp (by kernel_rfl) ?_
      simp (maxSteps := 4000000) (disch := first | omega | (simp only [List.length_set, List.length_replicate, List.length_append, List.length_take, List.length_drop, List.length_cons, List.length_nil]; omega)) only [go_sem, reduceCtorEq, Nat.reduceEqDiff, Nat.reduceAdd, Nat.reduceMul, Nat.reduceSub, ↓Nat.reduceBEq, Nat.reduceLT, Nat.reduceLeDiff, Int.reduceLT, Int.reduceLE, Int.reduceNeg, Int.reduceToNat]
      refine NH_seq ?_
      refine NH_seqD mixed hsp (by kernel_rfl) ?_
      simp (maxSteps := 4000000) (disch := first | omega | (simp only [List.length_set, List.length_replicate, List.length_append, List.length_take, List.length_drop, List.length_cons, List.length_nil]; omega)) only [go_sem, reduceCtorEq, Nat.reduceEqDiff, Nat.reduceAdd, Nat.reduceMul, Nat.reduceSub, ↓Nat.reduceBEq, Nat.reduceLT, Nat.reduceLeDiff, Int.reduceLT, Int.reduceLE, Int.reduceNeg, Int.reduceToNat, g3]
      refine NH_block ?_
      refine NH_loop (fun (t : Nat) s x => ∃ ks clock out, t ≤ l.length ∧ s.env 1 = .ptr 0 0 ∧ s.env 5 = .ext (.map (some bm)) ∧ s.env 27 = .sl 32 0 l.length (some l.length) 1 ∧ s.env 28 = .int .i64 l.length ∧ s.env 29 = .int .i64 t ∧
        s.heap 0 = some (.cells [.ro (boxC l) l.length false] false false) ∧ s.heap 32 = some (.cells (ints (ord.map fun k : Nat => (k : Int))) false false) ∧ 48 ≤ s.next ∧ GrowC 40 s.heap s.next (s.env 6) (ptC out) out.length 2 ∧
        x bm = some (.map (mEs ks) clock) ∧ Inv l (ord.take t) (ord.drop t) ks clock out) (fun t => l.length - t) ?_ 0 _ _ ?_
      · rintro t ⟨env, heap, nx⟩ x ⟨ks, clock, out, ht, g1, g5, g27, g28, g29, h0, h32, hnx, hgr, hx, hinv⟩
        simp only at g1 g5 g27 g28 g29 h0 h32 hnx hgr
        refine NH_seqD mixed hsp (by kernel_rfl) ?_
        by_cases ht1 : t < l.length
        · simp (maxSteps := 4000000) (disch := first | omega | (simp only [List.length_set, List.length_replicate, List.length_append, List.length_take, List.length_drop, List.length_cons, List.length_nil]; omega)) only [go_sem, reduceCtorEq, Nat.reduceEqDiff, Nat.reduceAdd, Nat.reduceMul, Nat.reduceSub, ↓Nat.reduceBEq, Nat.reduceLT, Nat.reduceLeDiff, Int.reduceLT, Int.reduceLE, Int.reduceNeg, Int.reduceToNat, g28, g29]
          refine NH_seqD mixed hsp (by kernel_rfl) ?_
          simp (maxSteps := 4000000) (disch := first | omega | (simp only [List.length_set, List.length_replicate, List.length_append, List.length_take, List.length_drop, List.length_cons, List.length_nil]; omega)) only [go_sem, reduceCtorEq, Nat.reduceEqDiff, Nat.reduceAdd, Nat.reduceMul, Nat.reduceSub, ↓Nat.reduceBEq, Nat.reduceLT, Nat.reduceLeDiff, Int.reduceLT, Int.reduceLE, Int.reduceNeg, Int.reduceToNat]
          refine NH_seq ?_
          refine NH_block ?_
          refine NH_seqD mixed hsp (by kernel_rfl) ?_
          have hdt : ord.drop t = ord[t] :: ord.drop (t + 1) := List.drop_eq_getElem_cons (by omega)
          have htk : ord.take (t + 1) = ord.take t ++ [ord[t]] := by rw [List.take_succ_eq_append_getElem]
          have hge : (ord.map fun k : Nat => (k : Int)).getD t 0 = ((ord[t] : Nat) : Int) := by simp [List.getD_eq_getElem?_getD, List.getElem?_eq_getElem (show t < ord.length by omega)]
          have hml : (ord.map fun k : Nat => (k : Int)).length = l.length := by simp [hol]
          have hnd : ord.Nodup := hperm.nodup_iff.2 List.nodup_range
          have hmem : ∀ k ∈ ord, k < l.length := fun k hk => by simpa using hperm.mem_iff.1 hk
          have hm0 : ord[t] < l.length := hmem _ (List.getElem_mem _)
          have hnot : ord[t] ∉ ord.take t := by
            intro hc
            rw [← List.take_append_drop t ord, hdt] at hnd
            exact (List.nodup_append.1 hnd).2.2 _ hc _ List.mem_cons_self rfl
          have hsort : ∀ m ∈ ord.drop (t + 1), ¬ lxN l m < lxN l ord[t] := by
            intro m hm
            rw [← List.take_append_drop t ord, hdt] at hsorted
            exact (List.pairwise_cons.1 (List.pairwise_append.1 hsorted).2.1).1 m hm
          have htd : ∀ k ∈ ord.take t, k < l.length := fun k hk => hmem k ((List.take_sublist t ord).subset hk)
          rw [hdt] at hinv
          simp (maxSteps := 4000000) (disch := first | omega | (simp only [List.length_set, List.length_replicate, List.length_append, List.length_take, List.length_drop, List.length_cons, List.length_nil]; omega)) only [go_sem, reduceCtorEq, Nat.reduceEqDiff, Nat.reduceAdd, Nat.reduceMul, Nat.reduceSub, ↓Nat.reduceBEq, Nat.reduceLT, Nat.reduceLeDiff, Int.reduceLT, Int.reduceLE, Int.reduceNeg, Int.reduceToNat, g27, g29, h32, hml, hge]
          clear hsorted hnd
          generalize hn0 : ord[t] = n0 at *
          generalize hre : ord.drop (t + 1) = rest at *
          generalize hdo : ord.take t = done at *
          refine NH_seq ?_
          refine NH_seq ?_
          refine NH_region ?_
          refine NO_step mixed hsp rfl (by decide) (by rintro t ⟨⟩; decide) ?_
          simp (maxSteps := 4000000) (disch := first | omega | (simp only [List.length_set, List.length_replicate, List.length_append, List.length_take, List.length_drop, List.length_cons, List.length_nil]; omega)) only [go_sem, reduceCtorEq, Nat.reduceEqDiff, Nat.reduceAdd, Nat.reduceMul, Nat.reduceSub, ↓Nat.reduceBEq, Nat.reduceLT, Nat.reduceLeDiff, Int.reduceLT, Int.reduceLE, Int.reduceNeg, Int.reduceToNat, g5]
          refine NO_range (bm := bm) (t := 34) rfl rfl rfl rfl (by decide) und_98 rfl hx fun r hr => NO_nil ?_
          have hrb : r ≠ bm := by rintro rfl; rw [hx] at hr; simp at hr
          simp only [nsQ_normal]
          refine NH_block ?_
          refine NH_loop (fun (g : List (Int × Nat) × Array Nat) s x => ∃ V out, s.env 1 = .ptr 0 0 ∧ s.env 5 = .ext (.map (some bm)) ∧ s.env 8 = .int .i64 (n0 : Nat) ∧ s.env 27 = .sl 32 0 l.length (some l.length) 1 ∧ s.env 28 = .int .i64 l.length ∧ s.env 29 = .int .i64 t ∧
            s.env 34 = .ext (.pointer (some ⟨r, 0, none⟩)) ∧
            s.heap 0 = some (.cells [.ro (boxC l) l.length false] false false) ∧ s.heap 32 = some (.cells (ints (ord.map fun k : Nat => (k : Int))) false false) ∧ 48 ≤ s.next ∧ GrowC 40 s.heap s.next (s.env 6) (ptC out) out.length 2 ∧
            x bm = some (.map (mEs g.1) clock) ∧ x r = some (.mapIter (some bm) clock g.2 clock) ∧ Inn l done rest n0 g.1 clock g.2 V out) (fun g => leftN g.1 g.2) ?_ (ks, #[]) _ _ ?_
          · rintro ⟨ks, seen⟩ ⟨env, heap, nx⟩ x ⟨V, out, g1, g5, g8, g27, g28, g29, g34, h0, h32, hnx, hgr, hx, hxr, hinn⟩
            simp only at g1 g5 g8 g27 g28 g29 g34 h0 h32 hnx hgr hx hxr hinn
            refine NH_seq ?_
            refine NH_region ?_
            refine NO_next (bm := bm) (r := r) (since := clock) (c0 := clock) (clock := clock) (seen := seen) (ks := ks) (t := 35) rfl rfl rfl rfl (by decide) g34 hx hxr hinn.old (Nat.le_refl _) ?_ ?_
            · intro hall
              refine NO_step mixed hsp rfl (by decide) (by rintro t ⟨⟩; decide) ?_
              simp (maxSteps := 4000000) (disch := first | omega | (simp only [List.length_set, List.length_replicate, List.length_append, List.length_take, List.length_drop, List.length_cons, List.length_nil]; omega)) only [go_sem, reduceCtorEq, Nat.reduceEqDiff, Nat.reduceAdd, Nat.reduceMul, Nat.reduceSub, ↓Nat.reduceBEq, Nat.reduceLT, Nat.reduceLeDiff, Int.reduceLT, Int.reduceLE, Int.reduceNeg, Int.reduceToNat]
              refine NO_nil ?_
              refine NH_seqD mixed hsp (by kernel_rfl) ?_
              simp (maxSteps := 4000000) (disch := first | omega | (simp only [List.length_set, List.length_replicate, List.length_append, List.length_take, List.length_drop, List.length_cons, List.length_nil]; omega)) only [go_sem, reduceCtorEq, Nat.reduceEqDiff, Nat.reduceAdd, Nat.reduceMul, Nat.reduceSub, ↓Nat.reduceBEq, Nat.reduceLT, Nat.reduceLeDiff, Int.reduceLT, Int.reduceLE, Int.reduceNeg, Int.reduceToNat]
              refine NH_region ?_
              refine NO_step mixed hsp rfl (by decide) (by rintro t ⟨⟩; decide) ?_
              simp (maxSteps := 4000000) (disch := first | omega | (simp only [List.length_set, List.length_replicate, List.length_append, List.length_take, List.length_drop, List.length_cons, List.length_nil]; omega)) only [go_sem, reduceCtorEq, Nat.reduceEqDiff, Nat.reduceAdd, Nat.reduceMul, Nat.reduceSub, ↓Nat.reduceBEq, Nat.reduceLT, Nat.reduceLeDiff, Int.reduceLT, Int.reduceLE, Int.reduceNeg, Int.reduceToNat, g5]
              refine NO_step mixed hsp rfl (by decide) (by rintro t ⟨⟩; decide) ?_
              simp (maxSteps := 4000000) (disch := first | omega | (simp only [List.length_set, List.length_replicate, List.length_append, List.length_take, List.length_drop, List.length_cons, List.length_nil]; omega)) only [go_sem, reduceCtorEq, Nat.reduceEqDiff, Nat.reduceAdd, Nat.reduceMul, Nat.reduceSub, ↓Nat.reduceBEq, Nat.reduceLT, Nat.reduceLeDiff, Int.reduceLT, Int.reduceLE, Int.reduceNeg, Int.reduceToNat, g8]
              refine NO_update (bm := bm) (clock := clock) (n := (n0 : Nat)) (ks := ks) rfl rfl rfl rfl und_98 und_3 rfl rfl hx (fun p hp he => ?_) (NO_nil ?_)
              · obtain ⟨k, hk, hpk⟩ := hinn.isd p hp
                have : k = n0 := by omega
                subst this
                exact hnot hk
              · refine NH_det mixed hsp (by kernel_rfl) ?_
                simp (maxSteps := 4000000) (disch := first | omega | (simp only [List.length_set, List.length_replicate, List.length_append, List.length_take, List.length_drop, List.length_cons, List.length_nil]; omega)) only [go_sem, reduceCtorEq, Nat.reduceEqDiff, Nat.reduceAdd, Nat.reduceMul, Nat.reduceSub, ↓Nat.reduceBEq, Nat.reduceLT, Nat.reduceLeDiff, Int.reduceLT, Int.reduceLE, Int.reduceNeg, Int.reduceToNat, g29]
                refine ⟨t + 1, ⟨ks ++ [((n0 : Int), clock)], clock + 1, out, by omega, g1, g5, g27, g28, rfl, h0, h32, growC_mono hgr (fun _ _ => rfl) (by omega), xput_same _ _ _, ?_⟩, by omega⟩
                rw [htk, hre]
                exact hinn.leave hnot hall
            · intro p hp hps
              obtain ⟨k, hkd, hpk⟩ := hinn.isd p hp
              have hkl := htd k hkd
              refine NO_step mixed hsp rfl (by decide) (by rintro t ⟨⟩; decide) ?_
              simp (maxSteps := 4000000) (disch := first | omega | (simp only [List.length_set, List.length_replicate, List.length_append, List.length_take, List.length_drop, List.length_cons, List.length_nil]; omega)) only [go_sem, reduceCtorEq, Nat.reduceEqDiff, Nat.reduceAdd, Nat.reduceMul, Nat.reduceSub, ↓Nat.reduceBEq, Nat.reduceLT, Nat.reduceLeDiff, Int.reduceLT, Int.reduceLE, Int.reduceNeg, Int.reduceToNat]
              refine NO_nil ?_
              refine NH_seqD mixed hsp (by kernel_rfl) ?_
              simp (maxSteps := 4000000) (disch := first | omega | (simp only [List.length_set, List.length_replicate, List.length_append, List.length_take, List.length_drop, List.length_cons, List.length_nil]; omega)) only [go_sem, reduceCtorEq, Nat.reduceEqDiff, Nat.reduceAdd, Nat.reduceMul, Nat.reduceSub, ↓Nat.reduceBEq, Nat.reduceLT, Nat.reduceLeDiff, Int.reduceLT, Int.reduceLE, Int.reduceNeg, Int.reduceToNat]
              refine NH_block ?_
              refine NH_seq ?_
              refine NH_region ?_
              have hxr' : (xput x r (.mapIter (some bm) clock (seen.push p.2) clock)) r = some (.mapIter (some bm) clock (seen.push p.2) clock) := xput_same _ _ _
              have hx' : (xput x r (.mapIter (some bm) clock (seen.push p.2) clock)) bm = some (.map (mEs ks) clock) := by rw [xput_ne _ _ _ _ (Ne.symm hrb)]; exact hx
              refine NO_entry (bm := bm) (r := r) (since := clock) (clock := clock) (seen := seen) (ks := ks) (p := p) (t := 37) (t0 := 34) rfl rfl rfl rfl (by decide) g34 hx' hxr' hp hinn.births ?_
              generalize xput x r (.mapIter (some bm) clock (seen.push p.2) clock) = x1 at *
              refine NO_step mixed hsp rfl (by decide) (by rintro t ⟨⟩; decide) ?_
              simp (maxSteps := 4000000) (disch := first | omega | (simp only [List.length_set, List.length_replicate, List.length_append, List.length_take, List.length_drop, List.length_cons, List.length_nil]; omega)) only [go_sem, reduceCtorEq, Nat.reduceEqDiff, Nat.reduceAdd, Nat.reduceMul, Nat.reduceSub, ↓Nat.reduceBEq, Nat.reduceLT, Nat.reduceLeDiff, Int.reduceLT, Int.reduceLE, Int.reduceNeg, Int.reduceToNat]
              refine NO_step mixed hsp rfl (by decide) (by rintro t ⟨⟩; decide) ?_
              simp (maxSteps := 4000000) (disch := first | omega | (simp only [List.length_set, List.length_replicate, List.length_append, List.length_take, List.length_drop, List.length_cons, List.length_nil]; omega)) only [go_sem, reduceCtorEq, Nat.reduceEqDiff, Nat.reduceAdd, Nat.reduceMul, Nat.reduceSub, ↓Nat.reduceBEq, Nat.reduceLT, Nat.reduceLeDiff, Int.reduceLT, Int.reduceLE, Int.reduceNeg, Int.reduceToNat]
              refine NO_nil ?_
              refine NH_block ?_
              refine NH_seqD mixed hsp (by kernel_rfl) ?_
              have r1 := hl _ (getD_mem l k hkl)
              have r2 := hl _ (getD_mem l n0 hm0)
              have d1 := boxC_drop l k hkl
              have d2 := boxC_drop l n0 hm0
              have hst : hxN l k = (l.getD k box0).hx := rfl
              have hst2 : lxN l n0 = (l.getD n0 box0).lx := rfl
              have hst3 : mtN l k n0 = mt (l.getD k box0) (l.getD n0 box0) := rfl
              have hclose := fun (j : Nat) (p' : Int × Nat) (hj : ks[j]? = some p') (hk' : p'.1 = (k : Nat)) => hinn.close hsort hj (k := k) hk'
              have hlook := hinn.look hnot hp hps hpk
              rw [hst, hst2] at hclose
              rw [hst3] at hlook
              generalize boxC (l.drop (k + 1)) = t1 at *
              generalize boxC (l.drop (n0 + 1)) = t2 at *
              generalize l.getD k box0 = b1 at *
              generalize l.getD n0 box0 = b2 at *
              have c1 := M_59 (x := b1.hx) (y := b2.lx) (by omega)
              have c2 := M_19 (ax := b1.lx) (ay := b1.ly) (ax' := b1.hx) (ay' := b1.hy) (bx := b2.lx) (by0 := b2.ly) (bx' := b2.hx) (by' := b2.hy) (by omega)
              rw [show meetB b1.lx b1.ly b1.hx b1.hy b2.lx b2.ly b2.hx b2.hy = mt b1 b2 from rfl] at c2
              have hol2 := hinn.len htd hm0
              have hll : l.length * l.length ≤ 2 ^ 16 * 2 ^ 16 := Nat.mul_le_mul (by omega) (by omega)
              by_cases hfar : b1.hx < b2.lx
              · have hneg : cmpQ b1.hx b2.lx < 0 := (cmpQ_neg _ _).2 hfar
                simp (maxSteps := 4000000) (disch := first | omega | (simp only [List.length_set, List.length_replicate, List.length_append, List.length_take, List.length_drop, List.length_cons, List.length_nil]; omega)) only [go_sem, reduceCtorEq, Nat.reduceEqDiff, Nat.reduceAdd, Nat.reduceMul, Nat.reduceSub, ↓Nat.reduceBEq, Nat.reduceLT, Nat.reduceLeDiff, Int.reduceLT, Int.reduceLE, Int.reduceNeg, Int.reduceToNat, g1, g8, h0, hpk, hbl, d1, d2, c1]
                refine NH_cond true rfl (fun _ => ?_) (by simp)
                refine NH_region ?_
                refine NO_step mixed hsp rfl (by decide) (by rintro t ⟨⟩; decide) ?_
                simp (maxSteps := 4000000) (disch := first | omega | (simp only [List.length_set, List.length_replicate, List.length_append, List.length_take, List.length_drop, List.length_cons, List.length_nil]; omega)) only [go_sem, reduceCtorEq, Nat.reduceEqDiff, Nat.reduceAdd, Nat.reduceMul, Nat.reduceSub, ↓Nat.reduceBEq, Nat.reduceLT, Nat.reduceLeDiff, Int.reduceLT, Int.reduceLE, Int.reduceNeg, Int.reduceToNat, g5]
                refine NO_step mixed hsp rfl (by decide) (by rintro t ⟨⟩; decide) ?_
                simp (maxSteps := 4000000) (disch := first | omega | (simp only [List.length_set, List.length_replicate, List.length_append, List.length_take, List.length_drop, List.length_cons, List.length_nil]; omega)) only [go_sem, reduceCtorEq, Nat.reduceEqDiff, Nat.reduceAdd, Nat.reduceMul, Nat.reduceSub, ↓Nat.reduceBEq, Nat.reduceLT, Nat.reduceLeDiff, Int.reduceLT, Int.reduceLE, Int.reduceNeg, Int.reduceToNat]
                refine NO_delete (bm := bm) (clock := clock) (n := (k : Nat)) (ks := ks) rfl rfl rfl rfl und_98 und_3 rfl rfl hx' ⟨p, hp, hpk⟩ fun j p' hj hp' => NO_nil ?_
                obtain rfl : p' = p := nodup_inj hinn.keys (List.mem_of_getElem? hj) hp (by omega)
                simp only [nbQ_normal, nlQ_normal]
                refine ⟨(ks.eraseIdx j, seen.push p'.2), ⟨V, out, ?_⟩, Nat.lt_of_le_of_lt (leftN_erase j) (leftN_look hp hps)⟩
                simp only [upd_sel, sel_true, sel_false, ↓Nat.reduceBEq]
                exact ⟨g1, g5, g8, g27, g28, g29, g34, h0, h32, by omega, growC_mono hgr (fun _ _ => rfl) (by omega), xput_same _ _ _, by rw [xput_ne _ _ _ _ hrb]; exact hxr', hclose j _ hj hp' hfar⟩
              · have hneg : ¬ cmpQ b1.hx b2.lx < 0 := fun h => hfar ((cmpQ_neg _ _).1 h)
                simp (maxSteps := 4000000) (disch := first | omega | (simp only [List.length_set, List.length_replicate, List.length_append, List.length_take, List.length_drop, List.length_cons, List.length_nil]; omega)) only [go_sem, reduceCtorEq, Nat.reduceEqDiff, Nat.reduceAdd, Nat.reduceMul, Nat.reduceSub, ↓Nat.reduceBEq, Nat.reduceLT, Nat.reduceLeDiff, Int.reduceLT, Int.reduceLE, Int.reduceNeg, Int.reduceToNat, g1, g8, h0, hpk, hbl, d1, d2, c1]
                refine NH_cond false rfl (by simp) fun _ => ?_
                refine NH_seqD mixed hsp (by kernel_rfl) ?_
                simp (maxSteps := 4000000) (disch := first | omega | (simp only [List.length_set, List.length_replicate, List.length_append, List.length_take, List.length_drop, List.length_cons, List.length_nil]; omega)) only [go_sem, reduceCtorEq, Nat.reduceEqDiff, Nat.reduceAdd, Nat.reduceMul, Nat.reduceSub, ↓Nat.reduceBEq, Nat.reduceLT, Nat.reduceLeDiff, Int.reduceLT, Int.reduceLE, Int.reduceNeg, Int.reduceToNat, g1, g8, h0, hpk, hbl, d1, d2, c2]
                refine NH_det mixed hsp (by kernel_rfl) ?_
                by_cases hmt : mt b1 b2 = true
                · rw [if_pos hmt] at hlook
                  have m1 : (if (n0 : Int) < (k : Int) then (n0 : Int) else (k : Int)) = ((min k n0 : Nat) : Int) := by split <;> omega
                  have m2 : (if (k : Int) < (n0 : Int) then (n0 : Int) else (k : Int)) = ((max k n0 : Nat) : Int) := by split <;> omega
                  rcases hgr with ⟨e3, ec, e0⟩ | ⟨B, hB, e3, eB⟩
                  · simp (maxSteps := 4000000) (disch := first | omega | (simp only [List.length_set, List.length_replicate, List.length_append, List.length_take, List.length_drop, List.length_cons, List.length_nil]; omega)) only [go_sem, reduceCtorEq, Nat.reduceEqDiff, Nat.reduceAdd, Nat.reduceMul, Nat.reduceSub, ↓Nat.reduceBEq, Nat.reduceLT, Nat.reduceLeDiff, Int.reduceLT, Int.reduceLE, Int.reduceNeg, Int.reduceToNat, g8, hmt, e3, replA_1, m1, m2]
                    obtain rfl : out = [] := List.eq_nil_of_length_eq_zero e0
                    exact ⟨(ks, seen.push p.2), ⟨k :: V, [prN k n0], g1, g5, g27, g28, g29, g34, h0, h32, growC_put _ _ _ _ _ _ _ (by omega), hx', hxr', hlook⟩, leftN_look hp hps⟩
                  · simp (maxSteps := 4000000) (disch := first | omega | (simp only [List.length_set, List.length_replicate, List.length_append, List.length_take, List.length_drop, List.length_cons, List.length_nil]; omega)) only [go_sem, reduceCtorEq, Nat.reduceEqDiff, Nat.reduceAdd, Nat.reduceMul, Nat.reduceSub, ↓Nat.reduceBEq, Nat.reduceLT, Nat.reduceLeDiff, Int.reduceLT, Int.reduceLE, Int.reduceNeg, Int.reduceToNat, g8, hmt, e3, eB, ptC_length, replA_1, m1, m2]
                    refine ⟨(ks, seen.push p.2), ⟨k :: V, out ++ [prN k n0], g1, g5, g27, g28, g29, g34, h0, h32, ?_, hx', hxr', hlook⟩, leftN_look hp hps⟩
                    rw [ptC_snocN, List.length_append]
                    exact growC_put _ _ _ _ _ _ _ (by omega)
                · rw [if_neg hmt] at hlook
                  simp only [Bool.not_eq_true] at hmt
                  simp (maxSteps := 4000000) (disch := first | omega | (simp only [List.length_set, List.length_replicate, List.length_append, List.length_take, List.length_drop, List.length_cons, List.length_nil]; omega)) only [go_sem, reduceCtorEq, Nat.reduceEqDiff, Nat.reduceAdd, Nat.reduceMul, Nat.reduceSub, ↓Nat.reduceBEq, Nat.reduceLT, Nat.reduceLeDiff, Int.reduceLT, Int.reduceLE, Int.reduceNeg, Int.reduceToNat, hmt]
                  exact ⟨(ks, seen.push p.2), ⟨k :: V, out, g1, g5, g8, g27, g28, g29, g34, h0, h32, growC_mono hgr (fun _ _ => rfl) (by omega), hx', hxr', hlook⟩, leftN_look hp hps⟩
          · refine ⟨[], out, ?_⟩
            simp only [upd_sel, sel_true, sel_false, ↓Nat.reduceBEq]
            exact ⟨g1, g5, trivial, g27, g28, g29, trivial, h0, h32, by omega, growC_mono hgr (fun _ _ => rfl) (by omega), by rw [xput_ne _ _ _ _ (Ne.symm hrb)]; exact hx, xput_same _ _ _, hinv.enter⟩
        · simp (maxSteps := 4000000) (disch := first | omega | (simp only [List.length_set, List.length_replicate, List.length_append, List.length_take, List.length_drop, List.length_cons, List.length_nil]; omega)) only [go_sem, reduceCtorEq, Nat.reduceEqDiff, Nat.reduceAdd, Nat.reduceMul, Nat.reduceSub, ↓Nat.reduceBEq, Nat.reduceLT, Nat.reduceLeDiff, Int.reduceLT, Int.reduceLE, Int.reduceNeg, Int.reduceToNat, g28, g29]
          refine NH_seqD mixed hsp (by kernel_rfl) ?_
          simp (maxSteps := 4000000) (disch := first | omega | (simp only [List.length_set, List.length_replicate, List.length_append, List.length_take, List.length_drop, List.length_cons, List.length_nil]; omega)) only [go_sem, reduceCtorEq, Nat.reduceEqDiff, Nat.reduceAdd, Nat.reduceMul, Nat.reduceSub, ↓Nat.reduceBEq, Nat.reduceLT, Nat.reduceLeDiff, Int.reduceLT, Int.reduceLE, Int.reduceNeg, Int.reduceToNat]
          obtain rfl : t = l.length := by omega
          have hol2 := hinv.len (N := l.length) fun k hk => by simpa using hperm.mem_iff.1 ((List.take_sublist _ ord).subset hk)
          have hll : l.length * l.length ≤ 2 ^ 16 * 2 ^ 16 := Nat.mul_le_mul (by omega) (by omega)
          have hmem : ∀ p, p ∈ out ↔ p ∈ prsP l l.length l.length := by
            intro p
            rw [hinv.mem p, mem_prsP, List.take_of_length_le (by omega)]
            constructor
            · rintro ⟨i, k, h1, h2, h3, h4, h5⟩
              exact ⟨i, k, by simpa using hperm.mem_iff.1 h2, h1, by simpa using hperm.mem_iff.1 h3, h4, h5⟩
            · rintro ⟨i, k, h1, h2, h3, h4, h5⟩
              exact ⟨i, k, h2, hperm.mem_iff.2 (by simpa using h1), hperm.mem_iff.2 (by simpa using h3), h4, h5⟩
          have hprs := prsP_sorted l l.length l.length
          generalize prsP l l.length l.length = m at *
          refine NH_seq ?_
          refine NH_region ?_
          refine NO_step mixed hsp rfl (by decide) (by rintro t ⟨⟩; decide) ?_
          simp (maxSteps := 4000000) (disch := first | omega | (simp only [List.length_set, List.length_replicate, List.length_append, List.length_take, List.length_drop, List.length_cons, List.length_nil]; omega)) only [go_sem, reduceCtorEq, Nat.reduceEqDiff, Nat.reduceAdd, Nat.reduceMul, Nat.reduceSub, ↓Nat.reduceBEq, Nat.reduceLT, Nat.reduceLeDiff, Int.reduceLT, Int.reduceLE, Int.reduceNeg, Int.reduceToNat]
          refine NO_sort_prs hsp (ts := 79) (lo := 40) (nx := nx) (out := out) rfl (by rintro t ⟨⟩; decide) hgr (by omega) hinv.nodup hprs hmem fun heap' hgr' => NO_nil ?_
          simp only [upd_sel, sel_true, sel_false, ↓Nat.reduceBEq] at hgr'
          refine NH_seqD mixed hsp (by kernel_rfl) ?_
          simp (maxSteps := 4000000) (disch := first | omega | (simp only [List.length_set, List.length_replicate, List.length_append, List.length_take, List.length_drop, List.length_cons, List.length_nil]; omega)) only [go_sem, reduceCtorEq, Nat.reduceEqDiff, Nat.reduceAdd, Nat.reduceMul, Nat.reduceSub, ↓Nat.reduceBEq, Nat.reduceLT, Nat.reduceLeDiff, Int.reduceLT, Int.reduceLE, Int.reduceNeg, Int.reduceToNat]
          refine NH_det mixed hsp (by kernel_rfl) ?_
          simp (maxSteps := 4000000) (disch := first | omega | (simp only [List.length_set, List.length_replicate, List.length_append, List.length_take, List.length_drop, List.length_cons, List.length_nil]; omega)) only [go_sem, reduceCtorEq, Nat.reduceEqDiff, Nat.reduceAdd, Nat.reduceMul, Nat.reduceSub, ↓Nat.reduceBEq, Nat.reduceLT, Nat.reduceLeDiff, Int.reduceLT, Int.reduceLE, Int.reduceNeg, Int.reduceToNat]
          rw [outN_ret]
          refine ⟨env 6, rfl, ?_⟩
          rcases hgr' with ⟨e3, ec, e0⟩ | ⟨B, hB, e3, eB⟩
          · obtain rfl : m = [] := List.eq_nil_of_length_eq_zero e0
            exact ⟨.ro [] 0 true, [], by rw [e3]; rfl, rfl⟩
          · refine ⟨.ro (ptC m) m.length false, [B], ?_, ?_⟩
            · rw [e3]
              simp only [depthA, snap_sl, eB, ptC_length, List.drop_zero]
              rw [if_pos (by omega), List.take_of_length_le (by rw [ptC_length]; omega), snaps_ptC, mp_some]
            · simp only [AV.weak, weaks_ptC]
      · refine ⟨[], 0, [], by omega, ?_⟩
        simp only [upd_sel, sel_true, sel_false, ↓Nat.reduceBEq]
        refine ⟨g1, trivial, trivial, trivial, rfl, h0, trivial, by omega, growC_nil _ _ _ _, xput_same _ _ _, ?_⟩
        exact ⟨by simp, by simp, by simp, by simp, by simp, by simp, by simp⟩
  · simp (maxSteps := 4000000) (disch := first | omega | (simp only [List.length_set, List.length_replicate, List.length_append, List.length_take, List.length_drop, List.length_cons, List.length_nil]; omega)) only [go_sem, reduceCtorEq, Nat.reduceEqDiff, Nat.reduceAdd, Nat.reduceMul, Nat.reduceSub, ↓Nat.reduceBEq, Nat.reduceLT, Nat.reduceLeDiff, Int.reduceLT, Int.reduceLE, Int.reduceNeg, Int.reduceToNat, hbl]
    rw [ordL_zero]
end Go.Proofs.YtjccikgdebgebaaGreatDoor.Abs
end
section
set_option linter.unusedSimpArgs false
namespace Go.Proofs.YtjccikgdebgebaaGreatDoor.Abs
open Go
theorem ints_inj : ∀ {a b : List Int}, ints a = ints b → a = b
  | [], [], _ => rfl
  | [], y :: b, h => by simp [ints] at h
  | x :: a, [], h => by simp [ints] at h
  | x :: a, y :: b, h => by
    rw [ints_cons, ints_cons] at h
    injection h with h1 h2
    injection h1 with _ h3
    rw [h3, ints_inj h2]
theorem z_inj {a b : Int} (h1 : zS a = zS b) (h2 : zD a = zD b) : a = b := by
  unfold zS at h1; unfold zD isl at h2
  injection h1 with h1
  injection h2 with h2 _ _
  have h3 := congrArg val (ints_inj h2)
  rw [val_digs, val_digs] at h3
  have h4 : a < 0 ↔ b < 0 := by
    constructor
    · intro h; by_cases hb : b < 0
      · exact hb
      · simp [h, hb] at h1
    · intro h; by_cases ha : a < 0
      · exact ha
      · simp [h, ha] at h1
  omega
theorem q_inj {x y : Rat} (h1 : x.num = y.num) (h2 : dz x = dz y) : x = y := by
  have hx := x.den_pos; have hy := y.den_pos
  refine Rat.ext h1 ?_
  unfold dz at h2
  split at h2 <;> split at h2 <;> omega
theorem boxC_inj : ∀ {l m : List BoxQ}, boxC l = boxC m → l = m
  | [], [], _ => rfl
  | [], b :: m, h => by simp [boxC] at h
  | a :: l, [], h => by simp [boxC] at h
  | a :: l, b :: m, h => by
    simp only [boxC, List.cons_append, List.nil_append, List.cons.injEq] at h
    obtain ⟨a1, a2, a3, a4, b1, b2, b3, b4, c1, c2, c3, c4, d1, d2, d3, d4, ht⟩ := h
    obtain ⟨ax, ay, ax', ay'⟩ := a
    obtain ⟨bx, by0, bx', by'⟩ := b
    simp only at *
    rw [q_inj (z_inj a1 a2) (z_inj a3 a4), q_inj (z_inj b1 b2) (z_inj b3 b4), q_inj (z_inj c1 c2) (z_inj c3 c4), q_inj (z_inj d1 d2) (z_inj d3 d4), boxC_inj ht]
def SortOf (args : List AV) (l : List BoxQ) : Prop := (∃ n, okB l n ∧ 8 * n < 2 ^ 24) ∧ l.length < 2 ^ 16 ∧ args = [.ro (boxC l) l.length false]
def sortR (l : List BoxQ) : AV := .ro (ptC (prsP l l.length l.length)) (prsP l l.length l.length).length false
open Classical in
noncomputable def sortS (args : List AV) : Option AV := if h : ∃ l, SortOf args l then some (sortR (Classical.choose h)) else none
theorem sortS_eq {l : List BoxQ} {n : Nat} (hl : okB l n) (hn : 8 * n < 2 ^ 24) (hlen : l.length < 2 ^ 16) : sortS [.ro (boxC l) l.length false] = some (sortR l) := by
  have h : ∃ l', SortOf [.ro (boxC l) l.length false] l' := ⟨l, ⟨n, hl, hn⟩, hlen, rfl⟩
  unfold sortS
  rw [dif_pos h]
  have hc := (Classical.choose_spec h).2.2
  generalize Classical.choose h = m at hc
  have h2 : boxC l = boxC m := (show boxC l = boxC m ∧ l.length = m.length by simpa using (List.cons.inj hc).1).1
  rw [boxC_inj h2]
@[reducible] noncomputable def spc0 : SpC := ⟨fun _ _ => none⟩
@[reducible] noncomputable def spc1 : SpC := ⟨fun f args => if f = 37 then sortS args else none⟩
theorem sp0 : SpecSound (@X spc0) := by
  refine specSound_of fun f g hm args r hr => ?_
  unfold X at hm
  try simp only at hm
  split at hm
  · injection hm with hm
    rw [← hm] at hr
    have hr : (none : Option AV) = some r := hr
    simp at hr
  · split at hm
    · simp at hm
    · split at hm <;> simp at hm
theorem sp1 : SpecSound (@X spc1) := by
  refine specSound_of fun f g hm args r hr => ?_
  unfold X at hm
  try simp only at hm
  split at hm
  · injection hm with hm
    rw [← hm] at hr
    replace hr : (if f = 37 then sortS args else none) = some r := hr
    by_cases hf : f = 37
    · rw [if_pos hf] at hr
      subst hf
      unfold sortS at hr
      split at hr
      · rename_i h
        injection hr with hr
        subst hr
        obtain ⟨⟨n, h1, h2⟩, h3, h4⟩ := Classical.choose_spec h
        generalize Classical.choose h = l at *
        subst h4
        exact SpecAt.same (X := @X spc0) (Y := @X spc1) rfl rfl (@spec_Sorted spc0 sp0 l n h1 h3 h2)
      · simp at hr
    · rw [if_neg hf] at hr
      simp at hr
  · split at hm
    · simp at hm
    · split at hm <;> simp at hm
theorem spec1_eq {l : List BoxQ} {n : Nat} (hl : okB l n) (hn : 8 * n < 2 ^ 24) (hlen : l.length < 2 ^ 16) : @SpC.spec spc1 37 [.ro (boxC l) l.length false] = some (sortR l) := by
  show (if 37 = 37 then sortS _ else none) = _
  rw [if_pos rfl]; exact sortS_eq hl hn hlen
end Go.Proofs.YtjccikgdebgebaaGreatDoor.Abs
end
