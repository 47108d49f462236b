/-
  Calls of the program's functions. No conditions. A call of a function of the program is sound, if its callee is. No conditions. One operation of the interpreter is sound. No conditions. The order in which a region's operations run does not matter to the interpreter. No conditions.
-/
import Derived.Test.YtjccikgdebgebaaGreatDoorQ12
import Derived.Orders
set_option linter.unusedSimpArgs false
set_option linter.unusedVariables false
section
namespace Go.Proofs.YtjccikgdebgebaaGreatDoor.Abs
open Go
variable {X : Ctx} {base : Nat} {W : Nat → Prop} {μ : Mu} {h : Heap} {w : World}
def ArgsRep (w : World) (W : Nat → Prop) (μ : Mu) (vs : Array Value) (as : List AV) : Prop :=
  vs.size = as.length ∧ ∀ (i : Nat) (v : Value) (a : AV), vs[i]? = some v → as[i]? = some a → Rep w W μ v a
/-- What a function's call comes to is what is told of it. -/
def CallSound1 (X : Ctx) (call : CallFn) : Prop := ∀ (f : FuncId) (args : List AV) (h : Heap) (next : Nat) (v : AV) (h' : Heap) (next' : Nat), call f args h next = some (v, h', next') →
  (∃ fn, X.P.funcs[f]? = some fn ∧ funcOk fn = true) ∧
  ∀ (base : Nat) (W : Nat → Prop) (μ : Mu) (w : World) (vals : Array Value), Sim X base W μ h w → (∀ b, next ≤ b → μ b = none) → ArgsRep w W μ vals args →
    Calls X.P f vals w fun e w' => ∃ u W' μ', e = .returned u ∧ Step base w W μ w' W' μ' ∧ Sim X base W' μ' h' w' ∧ Rep w' W' μ' u v ∧ next ≤ next' ∧ ∀ b, μ' b ≠ none → μ b ≠ none ∨ (next ≤ b ∧ b < next')
/-- What is told of the functions that the interpreter does not walk. -/
def SpecSound (X : Ctx) : Prop := ∀ (f : FuncId) (g : List AV → Option AV), X.mode f = .spec g → ∀ (args : List AV) (r : AV), g args = some r →
  (∃ fn, X.P.funcs[f]? = some fn ∧ funcOk fn = true) ∧
  ∀ (W : Nat → Prop) (w : World) (vals : Array Value), Sim X w.heap.size W noMu emptyHeap w → ArgsRep w W noMu vals args →
    Calls X.P f vals w fun e w' => ∃ u v h2 W2 μ2, e = .returned u ∧ Step w.heap.size w W noMu w' W2 μ2 ∧ Sim X w.heap.size W2 μ2 h2 w' ∧ Rep w' W2 μ2 u v ∧
      ((∃ x ids, snap h2 depthA v = some (x, ids) ∧ r = x.weak) ∨ (∃ x, resultTop h2 depthA v = some x ∧ r = x.weak))
def CallSound (X : Ctx) (call : CallFn) : Prop := SpecSound X ∧ CallSound1 X call
/-- A leaf of a result whose own slices stay writable. -/
inductive Leaf (w : World) (W3 : Nat → Prop) (h : Heap) (μ : Mu) : List Nat → Value → AV → Prop where
  | plain (u : Value) (x : AV) (hr : Rep w W3 noMu u x) : Leaf w W3 h μ [] u x
  | nil (a : Option Addr) : Leaf w W3 h μ [] (.slice a 0 0) (.fresh [] 0 0)
  | fresh (b B o off len c sz : Nat) (cs : List AV) (arr : Array Value) (e : TypeId) (hb : h b ≠ none) (hm : μ b = some (.at B o)) (hl : len ≤ c) (harr : w.heap[B]? = some (Go.Obj.cells arr e (0, 0)))
      (h1 : o + off + c * sz ≤ arr.size) (h2 : o + off + cs.length ≤ arr.size) (h3 : sz ≠ 0) (hc : ∀ (i : Nat) (a : AV), cs[i]? = some a → ∃ u, arr[o + off + i]? = some u ∧ Rep w W3 noMu u a ∧ a.isCell = true) :
      Leaf w W3 h μ [b] (.slice (some ⟨B, o + off, none⟩) len c) (.fresh cs len sz)
theorem Leaf.weak {W3 : Nat → Prop} {i : List Nat} {u : Value} {x : AV} (hl : Leaf w W3 h μ i u x) : Leaf w W3 h μ i u x.weak := by
  cases hl with
  | plain _ _ hr => exact .plain u _ hr.weak
  | nil a => exact .nil a
  | fresh b B o off len c sz cs arr e hb hm hl harr h1 h2 h3 hc =>
    refine .fresh b B o off len c sz (weaks cs) arr e hb hm hl harr h1 (by rw [weaks_length]; exact h2) h3 fun i a ha => ?_
    rw [weaks_get] at ha
    obtain ⟨a', ha', rfl⟩ := Option.map_eq_some_iff.1 ha
    obtain ⟨u, hu, hr, hcell⟩ := hc i a' ha'
    exact ⟨u, hu, hr.weak, by rw [isCell_weak]; exact hcell⟩
theorem freshen_live {d : Nat} {a x : AV} {i j : List Nat} (hf : freshen h d a = some (x, i, j)) : (∀ b ∈ i, ∃ cs g, h b = some (.cells cs g false)) ∧ ∀ b ∈ j, h b ≠ none := by
  unfold freshen at hf
  split at hf
  · split at hf
    · rename_i cs g hb
      split at hf
      · obtain ⟨⟨xs, ids⟩, hx, hk⟩ := mp_eq_some.1 hf
        simp only [Prod.mk.injEq] at hk
        obtain ⟨_, rfl, rfl⟩ := hk
        exact ⟨fun b hb' => by simp at hb'; subst hb'; exact ⟨_, _, hb⟩, snaps_live hx⟩
      · simp at hf
    · simp at hf
  · simp only [Option.some.injEq, Prod.mk.injEq] at hf
    obtain ⟨_, rfl, rfl⟩ := hf
    simp
  · obtain ⟨⟨y, ids⟩, hx, hk⟩ := mp_eq_some.1 hf
    simp only [Prod.mk.injEq] at hk
    obtain ⟨_, rfl, rfl⟩ := hk
    exact ⟨by simp, snap_live _ _ _ _ hx⟩
theorem freshen_sound (hs : Sim X base W μ h w) {d : Nat} {u : Value} {a x : AV} {i j : List Nat} (hf : freshen h d a = some (x, i, j)) (hr : Rep w W μ u a) {W3 : Nat → Prop} (hsub : ∀ B, W3 B → W B)
    (hj : ∀ b ∈ j, ∀ B o, μ b = some (.at B o) → ¬ W3 B) : Leaf w W3 h μ i u x := by
  unfold freshen at hf
  split at hf
  · rename_i b off len cap sz
    split at hf
    · rename_i cs g hb
      split at hf
      · rename_i hle
        obtain ⟨⟨xs, ids⟩, hx, hk⟩ := mp_eq_some.1 hf
        simp only [Prod.mk.injEq] at hk
        obtain ⟨rfl, rfl, rfl⟩ := hk
        cases hr with
        | sl _ _ B o _ _ c _ _ hm hl hkc hsz =>
          obtain ⟨_, _, _, arr, e, harr, hlen, hcell⟩ := hs.block hb hm
          obtain ⟨arr0, e0, f0, harr0, hle0⟩ := hsz
          rw [harr] at harr0
          cases harr0
          obtain ⟨l1, g1⟩ := snaps_get hx
          have hle1 := hle.1
          have hvl : ((cs.drop off).take (len * sz)).length = len * sz := by rw [List.length_take, List.length_drop]; omega
          refine .fresh b B o off len c sz xs arr e (by simp [hb]) hm hl harr hle0 (by omega) hle.2 fun k y hy => ?_
          have hk' : k < ((cs.drop off).take (len * sz)).length := by
            have : k < xs.length := by
              rcases Nat.lt_or_ge k xs.length with hl | hl
              · exact hl
              · simp [List.getElem?_eq_none hl] at hy
            omega
          obtain ⟨x', ids', hx', hf', hsub'⟩ := g1 k _ (List.getElem?_eq_getElem hk')
          rw [hx'] at hy; cases hy
          obtain ⟨_, hca⟩ := drop_take_get (List.getElem?_eq_getElem hk')
          obtain ⟨v, hv, hrv, hcv⟩ := hcell _ _ hca
          exact ⟨v, by rw [Nat.add_assoc]; exact hv, snap_sound hs d v _ y ids' hf' hrv W3 hsub fun b hb' => hj b (hsub' b hb'), snap_isCell h d _ y ids' hf' hcv⟩
      · simp at hf
    · simp at hf
  · simp only [Option.some.injEq, Prod.mk.injEq] at hf
    obtain ⟨rfl, rfl, rfl⟩ := hf
    cases hr with
    | ro0 _ a c _ hf => have := hf rfl; subst this; exact .nil a
    | ro _ B o len cap cs full us hB hW hl hf' hc hr hi => have := hf' rfl; subst this; exact .nil _
  · obtain ⟨⟨y, ids⟩, hx, hk⟩ := mp_eq_some.1 hf
    simp only [Prod.mk.injEq] at hk
    obtain ⟨rfl, rfl, rfl⟩ := hk
    exact .plain u y (snap_sound hs d u a y ids hx hr W3 hsub hj)
/-- The leaves of a result, one after the other. -/
inductive Leaves (w : World) (W3 : Nat → Prop) (h : Heap) (μ : Mu) : List Nat → List Value → List AV → Prop where
  | nil : Leaves w W3 h μ [] [] []
  | cons (i i' : List Nat) (u : Value) (us : List Value) (x : AV) (xs : List AV) (h1 : Leaf w W3 h μ i u x) (h2 : Leaves w W3 h μ i' us xs) : Leaves w W3 h μ (i ++ i') (u :: us) (x :: xs)
theorem Leaves.weak {W3 : Nat → Prop} {i : List Nat} {us : List Value} {xs : List AV} (hl : Leaves w W3 h μ i us xs) : Leaves w W3 h μ i us (weaks xs) := by
  induction hl with
  | nil => exact .nil
  | cons i i' u us x xs h1 _ ih => exact .cons i i' u us x.weak (weaks xs) h1.weak ih
theorem freshens_live {d : Nat} : ∀ {as xs : List AV} {i j : List Nat}, freshens h d as = some (xs, i, j) → (∀ b ∈ i, ∃ cs g, h b = some (.cells cs g false)) ∧ ∀ b ∈ j, h b ≠ none := by
  intro as
  induction as with
  | nil => intro xs i j hf; simp [freshens] at hf; obtain ⟨rfl, rfl, rfl⟩ := hf; simp
  | cons a as ih =>
    intro xs i j hf
    obtain ⟨⟨x, i1, j1⟩, h1, hk⟩ := nx_eq_some.1 hf
    obtain ⟨⟨ys, i2, j2⟩, h2, hk⟩ := mp_eq_some.1 hk
    simp only [Prod.mk.injEq] at hk
    obtain ⟨rfl, rfl, rfl⟩ := hk
    obtain ⟨a1, a2⟩ := freshen_live h1
    obtain ⟨b1, b2⟩ := ih h2
    exact ⟨fun b hb => (List.mem_append.1 hb).elim (a1 b) (b1 b), fun b hb => (List.mem_append.1 hb).elim (a2 b) (b2 b)⟩
theorem freshens_sound (hs : Sim X base W μ h w) {d : Nat} {W3 : Nat → Prop} (hsub : ∀ B, W3 B → W B) : ∀ {as xs : List AV} {us : List Value} {i j : List Nat}, freshens h d as = some (xs, i, j) → us.length = as.length →
    (∀ (k : Nat) (v : Value) (a : AV), us[k]? = some v → as[k]? = some a → Rep w W μ v a) → (∀ b ∈ j, ∀ B o, μ b = some (.at B o) → ¬ W3 B) → Leaves w W3 h μ i us xs := by
  intro as
  induction as with
  | nil => intro xs us i j hf hl _ _; simp [freshens] at hf; obtain ⟨rfl, rfl, rfl⟩ := hf; cases us with | nil => exact .nil | cons u us => simp at hl
  | cons a as ih =>
    intro xs us i j hf hl hr hj
    obtain ⟨⟨x, i1, j1⟩, h1, hk⟩ := nx_eq_some.1 hf
    obtain ⟨⟨ys, i2, j2⟩, h2, hk⟩ := mp_eq_some.1 hk
    simp only [Prod.mk.injEq] at hk
    obtain ⟨rfl, rfl, rfl⟩ := hk
    cases us with
    | nil => simp at hl
    | cons u us =>
      exact .cons i1 i2 u us x ys (freshen_sound hs h1 (hr 0 u a (by simp) (by simp)) hsub fun b hb => hj b (List.mem_append.2 (.inl hb)))
        (ih h2 (by simpa using hl) (fun k v a hv ha => hr (k + 1) v a (by simpa using hv) (by simpa using ha)) fun b hb => hj b (List.mem_append.2 (.inr hb)))
theorem Leaves.live {W3 : Nat → Prop} {i : List Nat} {us : List Value} {xs : List AV} (hl : Leaves w W3 h μ i us xs) : ∀ b ∈ i, h b ≠ none := by
  induction hl with
  | nil => simp
  | cons i i' u us x xs h1 _ ih =>
    intro b hb
    rcases List.mem_append.1 hb with hb | hb
    · cases h1 with
      | plain => simp at hb
      | nil => simp at hb
      | fresh b' B o off len c sz cs arr e hb' => simp at hb; subst hb; exact hb'
    · exact ih b hb
theorem inst1_freshC (id j : Nat) (cs : List AV) (len : Nat) {sz : Nat} (hz : sz ≠ 0) : inst1 id j (.fresh cs len sz) = if j < 8 then some (AV.sl (id + j) 0 len none sz, [(id + j, some (Obj.cells cs true false))], j + 1) else none := by
  cases sz with
  | zero => exact absurd rfl hz
  | succ n => cases cs <;> cases len <;> rfl
/-- The caller names the fresh slices. hc, μc: the callee's heap at its end; h, μ: the caller's. -/
theorem insts_sound {W3 : Nat → Prop} {hc : Heap} {μc : Mu} {basec : Nat} {id : Nat} (hsc : ∀ b b' B o o', hc b ≠ none → hc b' ≠ none → μc b = some (.at B o) → μc b' = some (.at B o') → b = b')
    (hlive : ∀ b B o, hc b ≠ none → μc b = some (.at B o) → basec ≤ B) (hbb : base ≤ basec) :
    ∀ {i : List Nat} {us : List Value} {xs : List AV}, Leaves w W3 hc μc i us xs → nodupB i = true → (∀ b ∈ i, ∀ B o, μc b = some (.at B o) → W3 B) → ∀ (j : Nat) (h : Heap) (μ : Mu) (ys : List AV) (wr : List (Nat × Option Obj)), insts id j xs = some (ys, wr) →
      Sim X base W3 μ h w → (∀ k, j ≤ k → k < 8 → μ (id + k) = none) → (∀ b ∈ i, ∀ B o, μc b = some (.at B o) → ∀ b' o', h b' ≠ none → μ b' ≠ some (.at B o')) →
      ∃ μ', Step base w W3 μ w W3 μ' ∧ Sim X base W3 μ' (applyWr h wr) w ∧ us.length = ys.length ∧ (∀ (k : Nat) (v : Value) (a : AV), us[k]? = some v → ys[k]? = some a → Rep w W3 μ' v a) ∧ ∀ b, μ' b ≠ none → μ b ≠ none ∨ (id ≤ b ∧ b < id + 8) := by
  intro i us xs hl
  induction hl with
  | nil =>
    intro _ _ j h μ ys wr hi hs _ _
    simp [insts] at hi
    obtain ⟨rfl, rfl⟩ := hi
    exact ⟨μ, Step.refl _ _ _ _, hs, rfl, by simp, fun b hb => .inl hb⟩
  | cons i i' u us x xs hleaf hrest ih =>
    intro hnd hW j h μ ys wr hi hs hfree hno
    obtain ⟨⟨y, w1, j'⟩, h1, hk⟩ := nx_eq_some.1 hi
    obtain ⟨⟨ys', w2⟩, h2, hk⟩ := mp_eq_some.1 hk
    simp only [Prod.mk.injEq] at hk
    obtain ⟨rfl, rfl⟩ := hk
    have tl : ∀ (l l' : List Nat), nodupB (l ++ l') = true → nodupB l' = true := by
      intro l
      induction l with
      | nil => intro l' hh; exact hh
      | cons a as iha => intro l' hh; simp only [List.cons_append, nodupB, Bool.and_eq_true] at hh; exact iha l' hh.2
    have same : ∀ (hw1 : w1 = []) (hj' : j' = j) (hy : ∀ μ', Rep w W3 μ' u y), ∃ μ', Step base w W3 μ w W3 μ' ∧ Sim X base W3 μ' (applyWr h (w1 ++ w2)) w ∧ (u :: us).length = (y :: ys').length ∧ (∀ (k : Nat) (v : Value) (a : AV), (u :: us)[k]? = some v → (y :: ys')[k]? = some a → Rep w W3 μ' v a) ∧ ∀ b, μ' b ≠ none → μ b ≠ none ∨ (id ≤ b ∧ b < id + 8) := by
      intro hw1 hj' hy
      subst hw1 hj'
      obtain ⟨μ', p1, p2, p3, p4, p5⟩ := ih (tl _ _ hnd) (fun b hb => hW b (List.mem_append.2 (.inr hb))) j' h μ ys' w2 h2 hs hfree (fun b hb => hno b (List.mem_append.2 (.inr hb)))
      refine ⟨μ', p1, p2, by simp [p3], fun k v a hv ha => ?_, p5⟩
      cases k with
      | zero => simp at hv ha; subst hv; subst ha; exact hy μ'
      | succ k => exact p4 k v a (by simpa using hv) (by simpa using ha)
    cases hleaf with
    | plain _ _ hr =>
      cases hr <;> (simp only [inst1, Option.some.injEq, Prod.mk.injEq] at h1; obtain ⟨rfl, rfl, rfl⟩ := h1; refine same rfl rfl fun μ' => Rep.anyMu ?_ μ')
      · exact .bool _ _
      · exact .int _ _ _
      · exact .str _ _
      · exact .nilptr _
      · exact .nilmap _
      · exact .extm _ _
      · exact .extp _ _
      · exact .nilfunc _
      · exact .niliface _
      · exact .ro0 _ _ _ _ (by assumption)
      · exact .ro _ _ _ _ _ _ _ _ (by assumption) (by assumption) (by assumption) (by assumption) (by assumption) (by assumption) (by assumption)
      · exact .rptr _ _ _ _ _ (by assumption) (by assumption) (by assumption) (by assumption) (by assumption)
      · exact absurd (show noMu _ = some _ by assumption) (by simp [noMu])
      · exact absurd (show noMu _ = some _ by assumption) (by simp [noMu])
      · exact .func _ _ _ _ _ _ (by assumption) (by assumption) (by assumption) (by assumption)
      · exact .iface _ _ _ _ (by assumption)
      · exact .agg _ _ _ (by assumption) (by assumption) (by assumption)
      · exact .tuple _ _ _ (by assumption) (by assumption)
    | nil a =>
      simp only [inst1, Option.some.injEq, Prod.mk.injEq] at h1
      obtain ⟨rfl, rfl, rfl⟩ := h1
      exact same rfl rfl fun μ' => .ro0 μ' a 0 true (fun _ => rfl)
    | fresh b B o off len c sz cs arr e hb hm hle harr g1 g2 g3 hcell =>
        rw [inst1_freshC id j cs len g3] at h1
        have h1' := h1
        split at h1'
        · rename_i hj8
          simp only [Option.some.injEq, Prod.mk.injEq] at h1'
          obtain ⟨rfl, rfl, rfl⟩ := h1'
          have hWB := hW b (by simp) B o hm
          obtain ⟨q1, q2⟩ := hs.alias (id := id + j) (B := B) (o := o + off) (arr := arr) (e := e) (cs := cs) true (hfree j (Nat.le_refl _) hj8) (Nat.le_trans hbb (hlive b B o hb hm)) hWB harr
            (hno b (by simp) B o hm) g2 (fun k a ha => by obtain ⟨u, hu, hr, hc⟩ := hcell k a ha; exact ⟨u, hu, hr.anyMu μ, hc⟩)
          have hnot : b ∉ i' := by
            simp only [List.cons_append, List.nil_append, nodupB, Bool.and_eq_true, Bool.not_eq_true', List.contains_eq_mem, decide_eq_false_iff_not] at hnd
            exact hnd.1
          obtain ⟨μ', p1, p2, p3, p4, p5⟩ := ih (tl [b] _ hnd) (fun b' hb' => hW b' (by simp [hb'])) (j + 1) _ _ ys' w2 h2 q2
            (fun k hk hk8 => by rw [upd_ne _ _ (by omega)]; exact hfree k (by omega) hk8)
            (fun b' hb' B' o' hm' b2 o2 hb2 hm2 => by
              by_cases hbe : b2 = id + j
              · subst hbe
                rw [upd_eq] at hm2
                simp only [Option.some.injEq, MB.at.injEq] at hm2
                obtain ⟨rfl, _⟩ := hm2
                have := hsc b' b _ o' o (hrest.live b' hb') hb hm' hm
                subst this
                exact hnot hb'
              · rw [upd_ne _ _ hbe] at hm2 hb2
                exact hno b' (by simp [hb']) B' o' hm' b2 o2 hb2 hm2)
          refine ⟨μ', q1.trans p1, by simpa [applyWr] using p2, by simp [p3], fun k v a hv ha => ?_, fun b' hb' => ?_⟩
          · cases k with
            | zero =>
              simp at hv ha
              subst hv; subst ha
              exact .sl _ (id + j) B (o + off) 0 len c none sz (p1.mu _ _ (upd_eq _ _ _)) hle (by simp) ⟨arr, e, (0, 0), harr, by omega⟩
            | succ k => exact p4 k v a (by simpa using hv) (by simpa using ha)
          · rcases p5 b' hb' with hb'' | hb''
            · by_cases hbe : b' = id + j
              · right; omega
              · rw [upd_ne _ _ hbe] at hb''; exact .inl hb''
            · exact .inr hb''
        · simp at h1'
/-- A scalar result stays as it is. -/
theorem inst_noRef {id : Nat} {r v : AV} {wr : List (Nat × Option Obj)} (hn : r.noRef = true) (hi : instantiate id r = some (v, wr)) : v = r ∧ wr = [] := by
  have one : ∀ (j : Nat) (a y : AV) (w : List (Nat × Option Obj)) (j' : Nat), a.noRef = true → inst1 id j a = some (y, w, j') → y = a ∧ w = [] ∧ j' = j := by
    intro j a y w j' ha h
    cases a <;> first
      | (simp [AV.noRef] at ha; done)
      | (simp only [inst1, Option.some.injEq, Prod.mk.injEq] at h; obtain ⟨rfl, rfl, rfl⟩ := h; exact ⟨rfl, rfl, rfl⟩)
  have many : ∀ (l : List AV) (j : Nat) (ys : List AV) (w : List (Nat × Option Obj)), AV.noRef.go l = true → insts id j l = some (ys, w) → ys = l ∧ w = [] := by
    intro l
    induction l with
    | nil => intro j ys w _ h; simp [insts] at h; exact ⟨h.1, h.2⟩
    | cons a as ih =>
      intro j ys w hl h
      simp only [AV.noRef.go, Bool.and_eq_true] at hl
      obtain ⟨⟨y, w1, j'⟩, h1, hk⟩ := nx_eq_some.1 h
      obtain ⟨⟨ys', w2⟩, h2, hk⟩ := mp_eq_some.1 hk
      simp only [Prod.mk.injEq] at hk
      obtain ⟨rfl, rfl⟩ := hk
      obtain ⟨rfl, rfl, rfl⟩ := one j a y w1 j' hl.1 h1
      obtain ⟨rfl, rfl⟩ := ih _ _ _ hl.2 h2
      exact ⟨rfl, rfl⟩
  cases r <;> first
    | (simp [AV.noRef] at hn; done)
    | (simp only [instantiate] at hi; obtain ⟨⟨ys, w⟩, h1, hk⟩ := mp_eq_some.1 hi; simp only [Prod.mk.injEq] at hk; obtain ⟨rfl, rfl⟩ := hk; obtain ⟨rfl, rfl⟩ := many _ _ _ _ hn h1; exact ⟨rfl, rfl⟩)
    | (simp only [instantiate] at hi; obtain ⟨⟨ys, w, j⟩, h1, hk⟩ := mp_eq_some.1 hi; simp only [Prod.mk.injEq] at hk; obtain ⟨rfl, rfl⟩ := hk; obtain ⟨rfl, rfl, _⟩ := one _ _ _ _ _ hn h1; exact ⟨rfl, rfl⟩)
/-- A list of immutable values needs no names. -/
theorem insts_plain {W3 : Nat → Prop} {id : Nat} : ∀ (l : List AV) (us : List Value) (j : Nat) (ys : List AV) (wr : List (Nat × Option Obj)), us.length = l.length → (∀ (k : Nat) (v : Value) (a : AV), us[k]? = some v → l[k]? = some a → Rep w W3 noMu v a) → insts id j l = some (ys, wr) → ys = l ∧ wr = [] := by
  intro l
  induction l with
  | nil => intro us j ys wr _ _ h; simp [insts] at h; exact ⟨h.1, h.2⟩
  | cons a as ih =>
    intro us j ys wr hl hr h
    cases us with
    | nil => simp at hl
    | cons u us =>
      obtain ⟨⟨y, w1, j'⟩, h1, hk⟩ := nx_eq_some.1 h
      obtain ⟨⟨ys', w2⟩, h2, hk⟩ := mp_eq_some.1 hk
      simp only [Prod.mk.injEq] at hk
      obtain ⟨rfl, rfl⟩ := hk
      have ha := hr 0 u a (by simp) (by simp)
      have hy : y = a ∧ w1 = [] ∧ j' = j := by
        cases ha <;> (simp only [inst1, Option.some.injEq, Prod.mk.injEq] at h1; obtain ⟨rfl, rfl, rfl⟩ := h1; exact ⟨rfl, rfl, rfl⟩)
      obtain ⟨rfl, rfl, rfl⟩ := hy
      obtain ⟨rfl, rfl⟩ := ih us _ _ _ (by simpa using hl) (fun k v a hv ha => hr (k + 1) v a (by simpa using hv) (by simpa using ha)) h2
      exact ⟨rfl, rfl⟩
theorem inst_plain {W3 : Nat → Prop} {id : Nat} {u : Value} {r v : AV} {wr : List (Nat × Option Obj)} (hr : Rep w W3 noMu u r) (hi : instantiate id r = some (v, wr)) : v = r ∧ wr = [] := by
  cases hr with
  | agg _ vs as h1 hel hi' =>
    obtain ⟨⟨ys, w1⟩, h2, hk⟩ := mp_eq_some.1 hi
    simp only [Prod.mk.injEq] at hk
    obtain ⟨rfl, rfl⟩ := hk
    obtain ⟨rfl, rfl⟩ := insts_plain (w := w) (W3 := W3) as vs.toList _ _ _ (by simpa using h1) (fun k v a hv ha => hel k v a (by simpa using hv) ha) h2
    exact ⟨rfl, rfl⟩
  | tuple _ vs as h1 hel =>
    obtain ⟨⟨ys, w1⟩, h2, hk⟩ := mp_eq_some.1 hi
    simp only [Prod.mk.injEq] at hk
    obtain ⟨rfl, rfl⟩ := hk
    obtain ⟨rfl, rfl⟩ := insts_plain (w := w) (W3 := W3) as vs.toList _ _ _ (by simpa using h1) (fun k v a hv ha => hel k v a (by simpa using hv) ha) h2
    exact ⟨rfl, rfl⟩
  | _ => (simp only [instantiate, inst1, mp, Option.some.injEq, Prod.mk.injEq] at hi; exact ⟨hi.1.symm, hi.2.symm⟩)
end Go.Proofs.YtjccikgdebgebaaGreatDoor.Abs
end
section
namespace Go.Proofs.YtjccikgdebgebaaGreatDoor.Abs
open Go
variable {X : Ctx} {base : Nat} {W : Nat → Prop} {μ : Mu} {h : Heap} {w : World}
/-- The caller's view of a call with memory of its own. -/
theorem Sim.behind {W1 : Nat → Prop} (hs : Sim X base W1 μ h w) {w' : World} {W2 : Nat → Prop} {μ2 : Mu} (hst : Step w.heap.size w W1 noMu w' W2 μ2) {W3 : Nat → Prop} (h3 : ∀ B, B < w.heap.size → (W3 B ↔ W1 B)) (h4 : ∀ B, W3 B → B < w'.heap.size) :
    Step base w W1 μ w' W3 μ ∧ Sim X base W3 μ h w' := by
  have st : Step base w W1 μ w' W3 μ :=
    { os := hst.os, tape := hst.tape, output := hst.output, size := hst.size
      same := fun B hB _ => hst.same B hB (.inl hB)
      wsub := fun B hB hW => (h3 B hB).1 hW
      wsup := fun B hB hW => (h3 B (Nat.lt_of_lt_of_le hB hs.ble)).2 hW
      shape := fun B arr e f ha => ⟨arr, by rw [hst.same B (heap_lt ha) (.inl (heap_lt ha))]; exact ha, rfl⟩
      mu := fun _ _ h => h, drawn := hst.drawn }
  refine ⟨st, hs.keep st (fun _ _ => rfl) (fun b B o hb hm => ?_) h4⟩
  obtain ⟨B', o', hm', hlt, _⟩ := hs.lives hb
  rw [hm] at hm'
  simp only [Option.some.injEq, MB.at.injEq] at hm'
  obtain ⟨rfl, rfl⟩ := hm'
  exact ⟨hst.same B hlt (.inl hlt), h3 B hlt⟩
theorem freshen_cell {d : Nat} {a x : AV} {i j : List Nat} (hf : freshen h d a = some (x, i, j)) (ha : a.isCell = true) : x.isCell = true ∨ ∃ cs len sz, x = .fresh cs len sz := by
  unfold freshen at hf
  split at hf
  · split at hf
    · split at hf
      · obtain ⟨⟨xs, ids⟩, hx, hk⟩ := mp_eq_some.1 hf
        simp only [Prod.mk.injEq] at hk
        exact .inr ⟨_, _, _, hk.1.symm⟩
      · simp at hf
    · simp at hf
  · simp only [Option.some.injEq, Prod.mk.injEq] at hf
    exact .inr ⟨_, _, _, hf.1.symm⟩
  · obtain ⟨⟨y, ids⟩, hx, hk⟩ := mp_eq_some.1 hf
    simp only [Prod.mk.injEq] at hk
    obtain ⟨rfl, _, _⟩ := hk
    exact .inl (snap_isCell h d _ _ ids hx ha)
theorem freshen_shape {d : Nat} {a x : AV} {i j : List Nat} (hf : freshen h d a = some (x, i, j)) (h1 : ∀ l, a ≠ .agg l) (h2 : ∀ l, a ≠ .tuple l) : (∀ l, x.weak ≠ .agg l) ∧ ∀ l, x.weak ≠ .tuple l := by
  unfold freshen at hf
  split at hf
  · split at hf
    · split at hf
      · obtain ⟨⟨xs, ids⟩, hx, hk⟩ := mp_eq_some.1 hf
        simp only [Prod.mk.injEq] at hk
        obtain ⟨rfl, _, _⟩ := hk
        exact ⟨by simp [AV.weak], by simp [AV.weak]⟩
      · simp at hf
    · simp at hf
  · simp only [Option.some.injEq, Prod.mk.injEq] at hf
    obtain ⟨rfl, _, _⟩ := hf
    exact ⟨by simp [AV.weak], by simp [AV.weak]⟩
  · obtain ⟨⟨y, ids⟩, hx, hk⟩ := mp_eq_some.1 hf
    simp only [Prod.mk.injEq] at hk
    obtain ⟨rfl, _, _⟩ := hk
    cases d with
    | zero => simp [snap] at hx
    | succ d =>
      cases a <;> simp only [snap] at hx <;> first
        | (exact absurd rfl (h1 _))
        | (exact absurd rfl (h2 _))
        | (simp at hx; done)
        | (simp only [Option.some.injEq, Prod.mk.injEq] at hx; obtain ⟨rfl, _⟩ := hx; exact ⟨by simp [AV.weak], by simp [AV.weak]⟩)
        | skip
      · split at hx
        · split at hx
          · obtain ⟨z, _, hk⟩ := mp_eq_some.1 hx; simp only [Prod.mk.injEq] at hk; rw [← hk.1]; exact ⟨by simp [AV.weak], by simp [AV.weak]⟩
          · simp at hx
        · simp at hx
      · split at hx
        · obtain ⟨z, _, hk⟩ := mp_eq_some.1 hx; simp only [Prod.mk.injEq] at hk; rw [← hk.1]; exact ⟨by simp [AV.weak], by simp [AV.weak]⟩
        · simp at hx
      · obtain ⟨z, _, hk⟩ := nx_eq_some.1 hx; obtain ⟨z', _, hk⟩ := mp_eq_some.1 hk; simp only [Prod.mk.injEq] at hk; rw [← hk.1]; exact ⟨by simp [AV.weak], by simp [AV.weak]⟩
      · obtain ⟨z, _, hk⟩ := mp_eq_some.1 hx; simp only [Prod.mk.injEq] at hk; rw [← hk.1]; exact ⟨by simp [AV.weak], by simp [AV.weak]⟩
theorem insts_cells {id : Nat} {d : Nat} : ∀ (as xs : List AV) (i j : List Nat) (k : Nat) (ys : List AV) (wr : List (Nat × Option Obj)), freshens h d as = some (xs, i, j) → (∀ (k : Nat) (a : AV), as[k]? = some a → a.isCell = true) → insts id k (weaks xs) = some (ys, wr) →
    ∀ (k : Nat) (a : AV), ys[k]? = some a → a.isCell = true := by
  intro as
  induction as with
  | nil => intro xs i j k ys wr hf _ hi; simp [freshens] at hf; obtain ⟨rfl, rfl, rfl⟩ := hf; simp [AV.weak.go, insts] at hi; obtain ⟨rfl, rfl⟩ := hi; simp
  | cons a as ih =>
    intro xs i j k ys wr hf ha hi
    obtain ⟨⟨x, i1, j1⟩, h1, hk⟩ := nx_eq_some.1 hf
    obtain ⟨⟨xs', i2, j2⟩, h2, hk⟩ := mp_eq_some.1 hk
    simp only [Prod.mk.injEq] at hk
    obtain ⟨rfl, rfl, rfl⟩ := hk
    obtain ⟨⟨y, w1, k'⟩, h3, hk⟩ := nx_eq_some.1 (show nx (inst1 id k x.weak) _ = _ from hi)
    obtain ⟨⟨ys', w2⟩, h4, hk⟩ := mp_eq_some.1 hk
    simp only [Prod.mk.injEq] at hk
    obtain ⟨rfl, rfl⟩ := hk
    have hrest := ih xs' i2 j2 k' ys' w2 h2 (fun k a h => ha (k + 1) a (by simpa using h)) h4
    have hy : y.isCell = true := by
      rcases freshen_cell h1 (ha 0 a (by simp)) with hc | ⟨cs, len, sz, rfl⟩
      · cases x <;> first
          | (simp [AV.isCell] at hc; done)
          | (simp only [AV.weak, inst1, Option.some.injEq, Prod.mk.injEq] at h3; obtain ⟨rfl, _, _⟩ := h3; rfl)
      · simp only [AV.weak] at h3
        by_cases hz : sz = 0
        · subst hz
          cases hcs : AV.weak.go cs with
          | nil =>
            cases len with
            | zero => rw [hcs] at h3; simp only [inst1, Option.some.injEq, Prod.mk.injEq] at h3; obtain ⟨rfl, _, _⟩ := h3; rfl
            | succ n =>
              rw [hcs] at h3
              have h3' : (if k < 8 then some (AV.sl (id + k) 0 (n + 1) none 0, [(id + k, some (Obj.cells [] true false))], k + 1) else none) = some (y, w1, k') := h3
              split at h3'
              · simp only [Option.some.injEq, Prod.mk.injEq] at h3'; obtain ⟨rfl, _, _⟩ := h3'; rfl
              · simp at h3'
          | cons z zs =>
            rw [hcs] at h3
            have h3' : (if k < 8 then some (AV.sl (id + k) 0 len none 0, [(id + k, some (Obj.cells (z :: zs) true false))], k + 1) else none) = some (y, w1, k') := by rw [← h3]; cases len <;> rfl
            split at h3'
            · simp only [Option.some.injEq, Prod.mk.injEq] at h3'; obtain ⟨rfl, _, _⟩ := h3'; rfl
            · simp at h3'
        · rw [inst1_freshC id k _ _ hz] at h3
          split at h3
          · simp only [Option.some.injEq, Prod.mk.injEq] at h3; obtain ⟨rfl, _, _⟩ := h3; rfl
          · simp at h3
    intro k a hk
    cases k with
    | zero => simp at hk; subst hk; exact hy
    | succ k => exact hrest k a (by simpa using hk)
/-- The result of a call with memory of its own, named by the caller. -/
theorem pure_out {W1 : Nat → Prop} (hs1 : Sim X base W1 μ h w) {w' : World} {W2 : Nat → Prop} {μ2 : Mu} {h2 : Heap} (hst : Step w.heap.size w W1 noMu w' W2 μ2) (hs2 : Sim X w.heap.size W2 μ2 h2 w') {u : Value} {v : AV} (hr : Rep w' W2 μ2 u v)
    {id : Nat} (hid : ∀ k, k < 8 → μ (id + k) = none) {r v' : AV} {wr : List (Nat × Option Obj)} (hi : instantiate id r = some (v', wr))
    (hmode : (∃ x ids, snap h2 depthA v = some (x, ids) ∧ r = x.weak) ∨ (∃ x, resultTop h2 depthA v = some x ∧ r = x.weak)) :
    ∃ W3 μ', Step base w W1 μ w' W3 μ' ∧ Sim X base W3 μ' (applyWr h wr) w' ∧ Rep w' W3 μ' u v' ∧ ∀ b, μ' b ≠ none → μ b ≠ none ∨ (id ≤ b ∧ b < id + 8) := by
  have hw1 : ∀ B, W1 B → W2 B := fun B hB => hst.wsup B (hs1.wlt B hB) hB
  rcases hmode with ⟨x, ids, hx, rfl⟩ | ⟨x, hx, rfl⟩
  · have hrx : Rep w' W1 noMu u x := snap_sound hs2 depthA u v x ids hx hr W1 hw1 fun b hb B o hm hB => by
      obtain ⟨B', o', hm', _, hge⟩ := hs2.lives (snap_live _ _ _ _ hx b hb)
      rw [hm] at hm'
      simp only [Option.some.injEq, MB.at.injEq] at hm'
      have := hs1.wlt B hB
      omega
    obtain ⟨rfl, rfl⟩ := inst_plain hrx.weak hi
    obtain ⟨p1, p2⟩ := hs1.behind hst (W3 := W1) (fun _ _ => Iff.rfl) (fun B hB => Nat.lt_of_lt_of_le (hs1.wlt B hB) hst.size)
    exact ⟨W1, μ, p1, p2, hrx.weak.anyMu μ, fun b hb => .inl hb⟩
  · -- fresh slices
    have key : ∀ (as xs : List AV) (us : List Value) (i j : List Nat), freshens h2 depthA as = some (xs, i, j) → nodupB i = true → j.all (fun b => !i.contains b) = true → us.length = as.length →
        (∀ (k : Nat) (v : Value) (a : AV), us[k]? = some v → as[k]? = some a → Rep w' W2 μ2 v a) → ∀ ys wr, insts id 0 (weaks xs) = some (ys, wr) →
        ∃ W3 μ', Step base w W1 μ w' W3 μ' ∧ Sim X base W3 μ' (applyWr h wr) w' ∧ us.length = ys.length ∧ (∀ (k : Nat) (v : Value) (a : AV), us[k]? = some v → ys[k]? = some a → Rep w' W3 μ' v a) ∧ ∀ b, μ' b ≠ none → μ b ≠ none ∨ (id ≤ b ∧ b < id + 8) := by
      intro as xs us i j hf hnd hdj hul hur ys wr hin
      obtain ⟨l1, l2⟩ := freshens_live hf
      let W3 : Nat → Prop := fun B => W1 B ∨ ∃ b ∈ i, ∃ o, μ2 b = some (.at B o)
      have hsub : ∀ B, W3 B → W2 B := by
        rintro B (hB | ⟨b, hb, o, hm⟩)
        · exact hw1 B hB
        · obtain ⟨cs, g, hcb⟩ := l1 b hb
          exact (hs2.block hcb hm).2.1 rfl
      have hge : ∀ b, h2 b ≠ none → ∀ B o, μ2 b = some (.at B o) → w.heap.size ≤ B ∧ B < w'.heap.size := by
        intro b hb B o hm
        obtain ⟨B', o', hm', hlt, hge⟩ := hs2.lives hb
        rw [hm] at hm'
        simp only [Option.some.injEq, MB.at.injEq] at hm'
        omega
      have hi1 : ∀ b ∈ i, h2 b ≠ none := fun b hb => by obtain ⟨cs, g, hcb⟩ := l1 b hb; simp [hcb]
      have hleaves := freshens_sound hs2 (W3 := W3) hsub hf hul hur fun b hb B o hm hB => by
        rcases hB with hB | ⟨b', hb', o', hm'⟩
        · have := hs1.wlt B hB; have := (hge b (l2 b hb) B o hm).1; omega
        · have := hs2.inj b b' B o o' (l2 b hb) (hi1 b' hb') hm hm'
          subst this
          have := List.all_eq_true.1 hdj b hb
          simp at this
          exact this hb'
      obtain ⟨p1, p2⟩ := hs1.behind hst (W3 := W3) (fun B hB => ⟨fun h => h.elim (fun x => x) fun ⟨b, hb, o, hm⟩ => by have := (hge b (hi1 b hb) B o hm).1; omega, .inl⟩)
        (fun B hB => hB.elim (fun hB => Nat.lt_of_lt_of_le (hs1.wlt B hB) hst.size) fun ⟨b, hb, o, hm⟩ => (hge b (hi1 b hb) B o hm).2)
      obtain ⟨μ', q1, q2, q3, q4, q5⟩ := insts_sound (X := X) (base := base) hs2.inj (fun b B o hb hm => (hge b hb B o hm).1) hs1.ble hleaves.weak hnd (fun b hb B o hm => .inr ⟨b, hb, o, hm⟩) 0 h μ ys wr hin p2 (fun k _ hk => hid k hk)
        (fun b hb B o hm b' o' hb' hm' => by
          obtain ⟨B', o2, hm2, hlt, _⟩ := hs1.lives hb'
          rw [hm'] at hm2
          simp only [Option.some.injEq, MB.at.injEq] at hm2
          have := (hge b (hi1 b hb) B o hm).1
          omega)
      exact ⟨W3, μ', p1.trans q1, q2, q3, q4, q5⟩
    have single : ∀ (hna : ∀ l, v ≠ .agg l) (hnt : ∀ l, v ≠ .tuple l) (hxx : (nx (freshen h2 depthA v) fun (x, i, j) => if j.all (fun b => !i.contains b) then some x else none) = some x), ∃ W3 μ', Step base w W1 μ w' W3 μ' ∧ Sim X base W3 μ' (applyWr h wr) w' ∧ Rep w' W3 μ' u v' ∧ ∀ b, μ' b ≠ none → μ b ≠ none ∨ (id ≤ b ∧ b < id + 8) := by
      intro hna hnt hxx
      obtain ⟨⟨x', i, j⟩, hf, hk⟩ := nx_eq_some.1 hxx
      simp only at hk
      split at hk
      · rename_i hdj
        simp only [Option.some.injEq] at hk
        subst hk
        have hff : freshens h2 depthA [v] = some ([x'], i, j) := by simp [freshens, hf, nx, mp]
        have hnd : nodupB i = true := by
          unfold freshen at hf
          split at hf
          · split at hf
            · split at hf
              · obtain ⟨⟨xs, ids⟩, hx, hk⟩ := mp_eq_some.1 hf
                simp only [Prod.mk.injEq] at hk
                obtain ⟨_, rfl, _⟩ := hk; rfl
              · simp at hf
            · simp at hf
          · simp only [Option.some.injEq, Prod.mk.injEq] at hf; obtain ⟨_, rfl, _⟩ := hf; rfl
          · obtain ⟨⟨y, ids⟩, hx, hk⟩ := mp_eq_some.1 hf
            simp only [Prod.mk.injEq] at hk
            obtain ⟨_, rfl, _⟩ := hk; rfl
        have hin : insts id 0 (weaks [x']) = some ([v'], wr) := by
          have hi' : (mp (inst1 id 0 x'.weak) fun (x, w, _) => (x, w)) = some (v', wr) := by
            have hxn := freshen_shape hf hna hnt
            rw [← hi]
            generalize x'.weak = z at hxn
            cases z <;> first
              | rfl
              | (exact absurd rfl (hxn.1 _))
              | (exact absurd rfl (hxn.2 _))
          obtain ⟨⟨y, w1, k⟩, h3, hk⟩ := mp_eq_some.1 hi'
          simp only [Prod.mk.injEq] at hk
          obtain ⟨rfl, rfl⟩ := hk
          simp [insts, AV.weak.go, h3, nx, mp]
        obtain ⟨W3, μ', q1, q2, q3, q4, q5⟩ := key [v] [x'] [u] i j hff hnd hdj rfl (fun k a b ha hb => by cases k with | zero => simp at ha hb; subst ha; subst hb; exact hr | succ k => simp at ha) [v'] wr hin
        exact ⟨W3, μ', q1, q2, q4 0 u v' (by simp) (by simp), q5⟩
      · simp at hk
    unfold resultTop at hx
    split at hx
    · rename_i vs
      cases hr with
      | tuple _ us _ h1 hel =>
        obtain ⟨⟨xs, i, j⟩, hf, hk⟩ := nx_eq_some.1 hx
        simp only at hk
        split at hk
        · rename_i hnd
          simp only [Bool.and_eq_true] at hnd
          simp only [Option.some.injEq] at hk
          subst hk
          obtain ⟨⟨ys, w1⟩, hin, hk⟩ := mp_eq_some.1 (show mp (insts id 0 (weaks xs)) _ = _ from hi)
          simp only [Prod.mk.injEq] at hk
          obtain ⟨rfl, rfl⟩ := hk
          obtain ⟨W3, μ', q1, q2, q3, q4, q5⟩ := key vs xs us.toList i j hf hnd.1 hnd.2 (by simpa using h1) (fun k v a hv ha => hel k v a (by simpa using hv) ha) ys w1 hin
          exact ⟨W3, μ', q1, q2, .tuple _ us ys (by simpa using q3) (fun k v a hv ha => q4 k v a (by simpa using hv) ha), q5⟩
        · simp at hk
    · rename_i vs
      cases hr with
      | agg _ us _ h1 hel hcells =>
        obtain ⟨⟨xs, i, j⟩, hf, hk⟩ := nx_eq_some.1 hx
        simp only at hk
        split at hk
        · rename_i hnd
          simp only [Bool.and_eq_true] at hnd
          simp only [Option.some.injEq] at hk
          subst hk
          obtain ⟨⟨ys, w1⟩, hin, hk⟩ := mp_eq_some.1 (show mp (insts id 0 (weaks xs)) _ = _ from hi)
          simp only [Prod.mk.injEq] at hk
          obtain ⟨rfl, rfl⟩ := hk
          obtain ⟨W3, μ', q1, q2, q3, q4, q5⟩ := key vs xs us.toList i j hf hnd.1 hnd.2 (by simpa using h1) (fun k v a hv ha => hel k v a (by simpa using hv) ha) ys w1 hin
          exact ⟨W3, μ', q1, q2, .agg _ us ys (by simpa using q3) (fun k v a hv ha => q4 k v a (by simpa using hv) ha) (insts_cells vs xs i j 0 ys w1 hf hcells hin), q5⟩
        · simp at hk
    · rename_i hnt hna
      exact single (fun l he => hna l he) (fun l he => hnt l he) hx
end Go.Proofs.YtjccikgdebgebaaGreatDoor.Abs
end
section
namespace Go.Proofs.YtjccikgdebgebaaGreatDoor.Abs
open Go
variable {X : Ctx} {base : Nat} {W : Nat → Prop} {μ : Mu} {h : Heap} {w : World}
theorem len_two {l : List Value} (h : l.length = 2) : ∃ v u, l = [v, u] := by
  match l, h with
  | [v, u], _ => exact ⟨v, u, rfl⟩
theorem len_three {l : List Value} (h : l.length = 3) : ∃ v u t, l = [v, u, t] := by
  match l, h with
  | [v, u, t], _ => exact ⟨v, u, t, rfl⟩
/-- What is known behind an operation, of either kind. -/
def EffOut (X : Ctx) (base : Nat) (W : Nat → Prop) (μ : Mu) (h : Heap) (w : World) (id next : Nat) : Eff → Value → World → Prop
  | .loc d, v, w' => Out X base W μ h w id d v w'
  | .glob a h' n', v, w' => next ≤ n' ∧ ∃ W' μ', Step base w W μ w' W' μ' ∧ Sim X base W' μ' h' w' ∧ Rep w' W' μ' v a ∧ ∀ b, μ' b ≠ none → μ b ≠ none ∨ (next ≤ b ∧ b < n')
theorem Sim.noHeap (hs : Sim X base W μ h w) {W1 : Nat → Prop} (hsub : ∀ B, W1 B → W B) : Sim X w.heap.size W1 noMu emptyHeap w where
  obj b o hb := by simp [emptyHeap] at hb
  inj b b' B o o' hb := by simp [emptyHeap] at hb
  glob g cs hg := by
    obtain ⟨h1, h2, us, h3⟩ := hs.glob g cs hg
    refine ⟨Nat.lt_of_lt_of_le h1 hs.ble, fun hW => h2 (hsub _ hW), us, fun i a ha => ?_⟩
    obtain ⟨k1, k2, k3⟩ := h3 i a ha
    exact ⟨k1, k2.step (Step.shrink w noMu hsub), k3⟩
  wlt B hB := hs.wlt B (hsub B hB)
  ble := Nat.le_refl _
theorem callFunc_runs {f : FuncId} {fn : Func} (hf : X.P.funcs[f]? = some fn) (hok : funcOk fn = true) (vals : Array Value) (w : World) : (callFunc f vals).run X.P w = .ok (.enter f vals) w := by
  unfold funcOk at hok
  simp only [Bool.and_eq_true] at hok
  have h1 : (fn.name == "runtime.NumGoroutine") = false := by
    have := hok.1.2
    simpa [bne] using this
  have h2 : fn.body.isNone = false := by
    cases hb : fn.body with
    | none => rw [hb] at hok; simp at hok
    | some c => rfl
  simp only [callFunc, Sem.run_bind, run_program, Result.andThen, hf, h1, h2, Bool.false_eq_true, if_false, Sem.run_pure]
theorem snaps_args (hs : Sim X base W μ h w) {d : Nat} {args xs : List AV} {ids : List Nat} (hx : snaps (snap h d) args = some (xs, ids)) {vals : Array Value} (ha : ArgsRep w W μ vals args) : ArgsRep w (lessW W μ ids) noMu vals (weaks xs) := by
  obtain ⟨l1, g1⟩ := snaps_get hx
  refine ⟨by rw [weaks_length, ← l1]; exact ha.1, fun i v a hv haa => ?_⟩
  rw [weaks_get] at haa
  obtain ⟨x, hxi, rfl⟩ := Option.map_eq_some_iff.1 haa
  have hi : i < args.length := by
    have : i < xs.length := by
      rcases Nat.lt_or_ge i xs.length with hl | hl
      · exact hl
      · simp [List.getElem?_eq_none hl] at hxi
    omega
  obtain ⟨x', ids', hx', hf, hsub⟩ := g1 i _ (List.getElem?_eq_getElem hi)
  rw [hx'] at hxi; cases hxi
  exact (snap_sound hs d v _ _ ids' hf (ha.2 i v _ hv (List.getElem?_eq_getElem hi)) (lessW W μ ids) (fun B hB => hB.1) fun b hb B o hm hB => hB.2 b (hsub b hb) o hm).weak
theorem aCallFunc_sound {call : CallFn} (hcs : CallSound X call) (hs : Sim X base W μ h w) {id next : Nat} (hid : ∀ k, k < 8 → μ (id + k) = none) (hnext : ∀ b, next ≤ b → μ b = none) {f : FuncId} {args : List AV} {vals : Array Value} (ha : ArgsRep w W μ vals args)
    {e : Eff} (hev : aCallFunc X call h id next f args = some e) :
    (callFunc f vals).run X.P w = .ok (.enter f vals) w ∧ Calls X.P f vals w fun en w' => ∃ u, en = .returned u ∧ EffOut X base W μ h w id next e u w' := by
  have glob : (mp (call f args h next) fun (v, h', n') => Eff.glob v h' n') = some e → (callFunc f vals).run X.P w = .ok (.enter f vals) w ∧ Calls X.P f vals w fun en w' => ∃ u, en = .returned u ∧ EffOut X base W μ h w id next e u w' := by
    intro hg
    obtain ⟨⟨v, h', n'⟩, hc, hk⟩ := mp_eq_some.1 hg
    subst hk
    obtain ⟨⟨fn, hf, hok⟩, hcall⟩ := hcs.2 f args h next v h' n' hc
    refine ⟨callFunc_runs hf hok vals w, (hcall base W μ w vals hs hnext ha).mono ?_⟩
    rintro en w' ⟨u, W', μ', rfl, p1, p2, p3, hnn, p4⟩
    exact ⟨u, rfl, hnn, W', μ', p1, p2, p3, p4⟩
  unfold aCallFunc at hev
  split at hev
  · exact glob hev
  rename_i hmode
  split at hev
  · exact glob hev
  · rename_i xs ids hx
    obtain ⟨r, hr, hk⟩ := nx_eq_some.1 hev
    obtain ⟨⟨v', wr⟩, hi, hk⟩ := mp_eq_some.1 hk
    subst hk
    have hlive := snaps_live hx
    obtain ⟨f1, f2⟩ := hs.freeze ids hlive
    have both : (∃ fn, X.P.funcs[f]? = some fn ∧ funcOk fn = true) ∧ Calls X.P f vals w fun e w' => ∃ u v h2 W2 μ2, e = .returned u ∧ Step w.heap.size w (lessW W μ ids) noMu w' W2 μ2 ∧ Sim X w.heap.size W2 μ2 h2 w' ∧ Rep w' W2 μ2 u v ∧
        ((∃ x ids, snap h2 depthA v = some (x, ids) ∧ r = x.weak) ∨ (∃ x, resultTop h2 depthA v = some x ∧ r = x.weak)) := by
      unfold pureCall at hr
      split at hr
      · rename_i g hg
        obtain ⟨k1, k2⟩ := hcs.1 f g hg (weaks xs) r hr
        exact ⟨k1, k2 (lessW W μ ids) w vals (hs.noHeap fun B hB => hB.1) (snaps_args hs hx ha)⟩
      · obtain ⟨⟨v, h2, n2⟩, hc, hk⟩ := nx_eq_some.1 hr
        obtain ⟨hfn, hcall⟩ := hcs.2 f (weaks xs) emptyHeap 0 v h2 n2 hc
        refine ⟨hfn, (hcall w.heap.size (lessW W μ ids) noMu w vals (hs.noHeap fun B hB => hB.1) (fun _ _ => rfl) (snaps_args hs hx ha)).mono ?_⟩
        rintro en w' ⟨u, W2, μ2, rfl, p1, p2, p3, _⟩
        refine ⟨u, v, h2, W2, μ2, rfl, p1, p2, p3, ?_⟩
        simp only at hk
        split at hk
        · obtain ⟨⟨x, jds⟩, h1, h2⟩ := mp_eq_some.1 hk; exact .inl ⟨x, jds, h1, h2.symm⟩
        · obtain ⟨x, h1, h2⟩ := mp_eq_some.1 hk; exact .inr ⟨x, h1, h2.symm⟩
        · simp at hk
    obtain ⟨⟨fn, hf, hok⟩, hcall⟩ := both
    refine ⟨callFunc_runs hf hok vals w, hcall.mono ?_⟩
    rintro en w' ⟨u, v, h2, W2, μ2, rfl, p1, p2, p3, hm⟩
    refine ⟨u, rfl, ?_⟩
    obtain ⟨W3, μ', q1, q2, q3, q4⟩ := pure_out f2 p1 p2 p3 hid hi hm
    show Out X base W μ h w id _ u w'
    by_cases hn : r.noRef = true
    · obtain ⟨rfl, rfl⟩ := inst_noRef hn hi
      obtain ⟨b1, b2⟩ := hs.behind (W1 := W) (W3 := W) (w' := w') (W2 := W) (μ2 := noMu)
        { os := p1.os, tape := p1.tape, output := p1.output, size := p1.size, same := fun B hB _ => p1.same B hB (.inl hB), wsub := fun _ _ h => h, wsup := fun _ _ h => h,
          shape := fun B arr e f ha => ⟨arr, by rw [p1.same B (heap_lt ha) (.inl (heap_lt ha))]; exact ha, rfl⟩, mu := fun _ _ h => h, drawn := p1.drawn } (fun _ _ => Iff.rfl) (fun B hB => Nat.lt_of_lt_of_le (hs.wlt B hB) p1.size)
      exact ⟨W, μ, b1, by simpa [hn, applyWr] using b2, q3.scalar hn μ, fun b hb => .inl hb⟩
    · refine ⟨W3, μ', f1.trans q1, ?_, q3, q4⟩
      simp only [if_neg hn, applyWr_append]
      exact q2
/-- Operands. -/
theorem evalA_sound (hs : Sim X base W μ h w) {a : Act} {env : Nat → AV} (henv : ∀ t, Rep w W μ (a.tmps.getD t undef) (env t)) : ∀ (x : Operand) (r : AV), evalA X env x = some r → Rep w W μ (a.eval x) r := by
  intro x r hx
  cases x with
  | tmp t => simp only [evalA, Option.some.injEq] at hx; subst hx; exact henv t
  | const v => exact rep_const w W μ v r hx
  | global g =>
    obtain ⟨cs, hg, rfl⟩ := mp_eq_some.1 hx
    obtain ⟨h1, h2, us, h3⟩ := hs.glob g cs hg
    exact .rptr μ g 0 cs us (Nat.lt_of_lt_of_le h1 hs.ble) h2 (fun i a ha => by rw [Nat.zero_add]; exact (h3 i a ha).1) (fun i a ha => (h3 i a ha).2.1) (fun i a ha => (h3 i a ha).2.2)
  | func f => simp only [evalA, Option.some.injEq] at hx; subst hx; exact .func μ _ #[] #[] [] [] rfl rfl (by simp) (by simp)
theorem evalsA_sound {ρ : Operand → Value} {env : Nat → AV} (hρ : ∀ x a, evalA X env x = some a → Rep w W μ (ρ x) a) : ∀ (l : List Operand) (as : List AV), evalsA X env l = some as →
    (l.map ρ).length = as.length ∧ ∀ (i : Nat) (v : Value) (a : AV), (l.map ρ)[i]? = some v → as[i]? = some a → Rep w W μ v a := by
  intro l
  induction l with
  | nil => intro as h; simp [evalsA] at h; subst h; simp
  | cons x xs ih =>
    intro as h
    obtain ⟨a, ha, hk⟩ := nx_eq_some.1 h
    obtain ⟨bs, hb, rfl⟩ := mp_eq_some.1 hk
    obtain ⟨h1, h2⟩ := ih bs hb
    refine ⟨by simpa using h1, fun i v c hv hc => ?_⟩
    cases i with
    | zero => simp at hv hc; subst hv; subst hc; exact hρ x a ha
    | succ i => exact h2 i v c (by simpa using hv) (by simpa using hc)
theorem optA_sound {ρ : Operand → Value} {env : Nat → AV} (hρ : ∀ x a, evalA X env x = some a → Rep w W μ (ρ x) a) {o : Option Operand} {r : Option AV} (h : optA X env o = some r) : OptRep w W μ (o.map ρ) r := by
  cases o with
  | none => simp only [optA, Option.some.injEq] at h; subst h; rfl
  | some x =>
    obtain ⟨a, ha, rfl⟩ := mp_eq_some.1 h
    exact ⟨ρ x, rfl, hρ x a ha⟩
/-- What an operation runs to: a value, or a call that returns one. -/
def RunsTo (P : Program) (s : Sem Next) (w : World) (R : Value → World → Prop) : Prop :=
  (∃ v w', s.run P w = .ok (.value v) w' ∧ R v w') ∨ (∃ w', s.run P w = .ok .skip w' ∧ R undef w') ∨ ∃ f args, s.run P w = .ok (.enter f args) w ∧ Calls P f args w fun en w' => ∃ u, en = .returned u ∧ R u w'
theorem RunsTo.value {P : Program} {s : Sem Value} {R : Value → World → Prop} {v : Value} {w' : World} (h : s.run P w = .ok v w') (hr : R v w') : RunsTo P (do pure (.value (← s))) w R :=
  .inl ⟨v, w', by simp only [Sem.run_bind, h, Result.andThen, Sem.run_pure], hr⟩
theorem RunsTo.skip {P : Program} {s : Sem Unit} {R : Value → World → Prop} {w' : World} (h : s.run P w = .ok () w') (hr : R undef w') : RunsTo P (do s; pure .skip) w R :=
  .inr (.inl ⟨w', by simp only [Sem.run_bind, h, Result.andThen, Sem.run_pure], hr⟩)
theorem RunsTo.pure1 {s : Sem Value} {e : Eff} {id next : Nat} (hs : Sim X base W μ h w) (hp : Pure1 X W μ w s e) : RunsTo X.P (do pure (.value (← s))) w (EffOut X base W μ h w id next e) := by
  obtain ⟨d, v, rfl, hwr, hrun, hr⟩ := hp
  refine .value hrun ⟨W, μ, Step.refl _ _ _ _, ?_, hr, fun b hb => .inl hb⟩
  rw [hwr]; exact hs
theorem RunsTo.valE {s : Sem Value} {e : Eff} {id next : Nat} (hs : Sim X base W μ h w) {v : Value} {a : AV} (he : valE a = some e) (hr : s.run X.P w = .ok v w) (hrep : Rep w W μ v a) : RunsTo X.P (do pure (.value (← s))) w (EffOut X base W μ h w id next e) :=
  .pure1 hs (Pure1.mk he hr hrep)
theorem evalOp_sound {call : CallFn} (hcs : CallSound X call) (hs : Sim X base W μ h w) {a : Act} {env : Nat → AV} (henv : ∀ t, Rep w W μ (a.tmps.getD t undef) (env t)) {id next : Nat} (hid : ∀ k, k < 8 → μ (id + k) = none) (hnext : ∀ b, next ≤ b → μ b = none)
    (o : Oper) {e : Eff} (hev : evalOp X call env h id next o.op = some e) : RunsTo X.P (execOp a.eval o) w (EffOut X base W μ h w id next e) := by
  have hρ := evalA_sound hs henv
  have hid0 : μ id = none := by simpa using hid 0 (by omega)
  obtain ⟨dst, op, ty, pos, aft, gd⟩ := o
  have ex2 : ∀ {s : Sem Value}, (∃ d v w', e = .loc d ∧ s.run X.P w = .ok v w' ∧ Out X base W μ h w id d v w') → RunsTo X.P (do pure (.value (← s))) w (EffOut X base W μ h w id next e) := by
    rintro s ⟨d, v, w', rfl, hrun, ho⟩
    exact .value hrun ho
  unfold evalOp at hev
  simp only at hev
  split at hev
  · obtain ⟨x, hx, hk⟩ := nx_eq_some.1 hev
    exact RunsTo.valE (s := pure _) hs hk rfl (hρ _ _ hx)
  · obtain ⟨x, hx, hk⟩ := nx_eq_some.1 hev
    exact RunsTo.valE (s := pure _) hs hk rfl (hρ _ _ hx)
  · -- pick
    rename_i c p q
    obtain ⟨cv, hc, hk1⟩ := nx_eq_some.1 hev
    obtain ⟨pv, hp, hk2⟩ := nx_eq_some.1 hk1
    obtain ⟨qv, hq, hk⟩ := nx_eq_some.1 hk2
    clear hev hk1 hk2
    have rc := hρ _ _ hc
    generalize hax : a.eval c = vx at rc
    cases rc with
    | bool _ t =>
      simp only [valE, Option.some.injEq] at hk
      subst hk
      refine .inl ⟨if t then a.eval p else a.eval q, w, ?_, ?_⟩
      · simp only [execOp, hax, asBool, Sem.run_bind, Sem.run_pure, Result.andThen]
      · refine Out.same hs ?_
        cases t
        · exact hρ _ _ hq
        · exact hρ _ _ hp
    | _ => simp at hk
  · exact ex2 (alloc_sound hs hid0 hev)
  · obtain ⟨x, hx, hk⟩ := nx_eq_some.1 hev
    exact ex2 (box_sound hs hid0 (hρ _ _ hx) hk)
  · obtain ⟨ps, hps, hk⟩ := nx_eq_some.1 hev
    exact RunsTo.pure1 hs (build_sound hρ hps hk)
  · obtain ⟨ps, hps, hk⟩ := nx_eq_some.1 hev
    exact ex2 (buildSlice_sound hs hid0 hρ hps hk)
  · obtain ⟨x, hx, hk⟩ := nx_eq_some.1 hev
    exact RunsTo.pure1 hs (load_sound hs (hρ _ _ hx) hk)
  · obtain ⟨p, hp, hk⟩ := nx_eq_some.1 hev
    obtain ⟨v, hv, hk⟩ := nx_eq_some.1 hk
    obtain ⟨d, w', rfl, hrun, ho⟩ := store_sound hs (hρ _ _ hp) (hρ _ _ hv) hk id
    exact .skip hrun ho
  · -- nilCheck
    rename_i x
    obtain ⟨r, hr, hk⟩ := nx_eq_some.1 hev
    have rr := hρ _ _ hr
    split at hk
    · rename_i b off
      generalize hax : a.eval x = vx at rr
      cases rr with
      | ptr _ _ B o _ hm =>
        refine .inl ⟨_, w, by simp only [execOp, hax]; rfl, ?_⟩
        simp only [valE, Option.some.injEq] at hk
        subst hk
        exact Out.same hs (.ptr _ b B o off hm)
    · rename_i cs
      generalize hax : a.eval x = vx at rr
      cases rr with
      | rptr _ B o _ us hB hW hc hr hi =>
        refine .inl ⟨_, w, by simp only [execOp, hax]; rfl, ?_⟩
        simp only [valE, Option.some.injEq] at hk
        subst hk
        exact Out.same hs (.rptr _ B o cs us hB hW hc hr hi)
    · rename_i f fi ca
      generalize hax : a.eval x = vx at rr
      cases rr with
      | func _ _ fa ca' _ _ h1 h2 hf hc =>
        refine .inl ⟨_, w, by simp only [execOp, hax]; rfl, ?_⟩
        simp only [valE, Option.some.injEq] at hk
        subst hk
        exact Out.same hs (.func _ _ fa ca' fi ca h1 h2 hf hc)
    · simp at hk
  · -- binOp
    obtain ⟨p, hp, hk⟩ := nx_eq_some.1 hev
    obtain ⟨q, hq, hk⟩ := nx_eq_some.1 hk
    obtain ⟨r, hr, hk⟩ := nx_eq_some.1 hk
    obtain ⟨v, hv, hrep⟩ := binOp_sound (hρ _ _ hp) (hρ _ _ hq) hr
    exact RunsTo.valE hs hk hv hrep
  · obtain ⟨p, hp, hk⟩ := nx_eq_some.1 hev
    obtain ⟨r, hr, hk⟩ := nx_eq_some.1 hk
    obtain ⟨v, hv, hrep⟩ := unOp_sound (hρ _ _ hp) hr
    exact RunsTo.valE hs hk hv hrep
  · obtain ⟨p, hp, hk⟩ := nx_eq_some.1 hev
    obtain ⟨r, hr, hk⟩ := nx_eq_some.1 hk
    obtain ⟨v, hv, hrep⟩ := convert_sound (hρ _ _ hp) hr
    exact RunsTo.valE hs hk hv hrep
  · -- makeFunc
    rename_i fn first captured
    obtain ⟨p, hp, hk⟩ := nx_eq_some.1 hev
    obtain ⟨q, hq, hk⟩ := nx_eq_some.1 hk
    obtain ⟨p1, p2⟩ := evalsA_sound hρ _ _ hp
    obtain ⟨q1, q2⟩ := evalsA_sound hρ _ _ hq
    refine RunsTo.valE (s := Instr.makeFunc fn (first.map a.eval) (captured.map a.eval)) hs hk rfl (.func _ fn _ _ p q (by simpa using p1) (by simpa using q1) (fun i v b hv hb => p2 i v b ?_ hb) (fun i v b hv hb => q2 i v b ?_ hb))
    · simpa using hv
    · simpa using hv
  · -- makeSlice
    obtain ⟨p, hp, hk⟩ := nx_eq_some.1 hev
    obtain ⟨q, hq, hk⟩ := nx_eq_some.1 hk
    exact ex2 (makeSlice_sound hs hid0 (hρ _ _ hp) (hρ _ _ hq) hk)
  · -- slice
    obtain ⟨x, hx, hk⟩ := nx_eq_some.1 hev
    obtain ⟨lo, hlo, hk⟩ := nx_eq_some.1 hk
    obtain ⟨hi, hhi, hk⟩ := nx_eq_some.1 hk
    obtain ⟨mx, hmx, hk⟩ := nx_eq_some.1 hk
    split at hk
    · simp at hk
    · rename_i hcond
      exact RunsTo.pure1 hs (slice_sound (hρ _ _ hx) (optA_sound hρ hlo) (optA_sound hρ hhi) (optA_sound hρ hmx) (fun hm hn => hcond ⟨by cases mx <;> simp at hm ⊢, by subst hn; rfl⟩) hk)
  · obtain ⟨x, hx, hk⟩ := nx_eq_some.1 hev
    exact RunsTo.pure1 hs (fieldAddr_sound (hρ _ _ hx) hk)
  · obtain ⟨x, hx, hk⟩ := nx_eq_some.1 hev
    exact RunsTo.pure1 hs (field_sound (hρ _ _ hx) hk)
  · obtain ⟨x, hx, hk⟩ := nx_eq_some.1 hev
    obtain ⟨i, hi, hk⟩ := nx_eq_some.1 hk
    exact RunsTo.pure1 hs (indexAddr_sound (hρ _ _ hx) (hρ _ _ hi) hk)
  · obtain ⟨x, hx, hk⟩ := nx_eq_some.1 hev
    obtain ⟨i, hi, hk⟩ := nx_eq_some.1 hk
    exact RunsTo.pure1 hs (index_sound (hρ _ _ hx) (hρ _ _ hi) hk)
  · -- extract
    rename_i t ix
    obtain ⟨r, hr, hk⟩ := nx_eq_some.1 hev
    have rr := hρ _ _ hr
    split at hk
    · rename_i vs
      obtain ⟨y, hy, hk⟩ := nx_eq_some.1 hk
      generalize hax : a.eval t = vx at rr
      cases rr with
      | tuple _ us _ h1 hel =>
        have hlt : ix < vs.length := by
          rcases Nat.lt_or_ge ix vs.length with hl | hl
          · exact hl
          · simp [List.getElem?_eq_none hl] at hy
        have hu : us[ix]? = some us[ix] := Array.getElem?_eq_getElem (by omega)
        have : RunsTo X.P (do pure (.value (← Instr.extract (.tuple us) ix))) w (EffOut X base W μ h w id next e) := RunsTo.valE hs hk (by simp only [Instr.extract, hu, Sem.run_pure]) (hel ix _ y hu hy)
        simpa only [execOp, hax] using this
    · simp at hk
  · -- builtins
    rename_i b args argTypes
    obtain ⟨as, has, hk⟩ := nx_eq_some.1 hev
    obtain ⟨l1, l2⟩ := evalsA_sound hρ _ _ has
    have hargs : ∀ (n : Nat), as.length = n → (args.map a.eval).size = n := fun n hn => by simpa [hn] using l1
    have conv : ∀ {s : Sem Value} , (builtin b argTypes ty (args.map fun | .const _ => true | _ => false) (args.map a.eval)) = (do pure (.value (← s))) → RunsTo X.P (do pure (.value (← s))) w (EffOut X base W μ h w id next e) → RunsTo X.P (execOp a.eval ⟨dst, .call ⟨.builtin b, args, argTypes⟩, ty, pos, aft, gd⟩) w (EffOut X base W μ h w id next e) := by
      intro s hb hr
      have : execOp a.eval ⟨dst, .call ⟨.builtin b, args, argTypes⟩, ty, pos, aft, gd⟩ = builtin b argTypes ty (args.map fun | .const _ => true | _ => false) (args.map a.eval) := rfl
      rw [this, hb]
      exact hr
    clear hev
    have arr : ∀ (l : List Value), (args.map a.eval).toList = l → args.map a.eval = l.toArray := fun l hl => by rw [← hl]
    unfold aBuiltin at hk
    split at hk
    · -- len
      rename_i x
      obtain ⟨t, ht, hk⟩ := nx_eq_some.1 hk
      obtain ⟨r, hr, hk⟩ := nx_eq_some.1 hk
      obtain ⟨v, hv⟩ : ∃ v, (args.map a.eval).toList = [v] := List.length_eq_one_iff.1 (by simpa using l1)
      have hx := l2 0 v x (by rw [← Array.toList_map, hv]; rfl) (by simp)
      obtain ⟨u, hu, hrep⟩ := len_sound hx hr argTypes ht ty
      refine conv (s := Builtin.len_ argTypes ty #[v]) ?_ (RunsTo.valE hs hk hu hrep)
      rw [arr _ hv]; rfl
    · -- append
      rename_i s x
      obtain ⟨v, u, hv⟩ : ∃ v u, (args.map a.eval).toList = [v, u] := len_two (by simpa using l1)
      have h0 := l2 0 v s (by rw [← Array.toList_map, hv]; rfl) (by simp)
      have h1 := l2 1 u x (by rw [← Array.toList_map, hv]; rfl) (by simp)
      refine conv (s := Builtin.append_ argTypes ty #[v, u]) ?_ (ex2 (append_sound hs hid0 h0 h1 hk ty))
      rw [arr _ hv]; rfl
    · -- copy
      rename_i d x
      obtain ⟨v, u, hv⟩ : ∃ v u, (args.map a.eval).toList = [v, u] := len_two (by simpa using l1)
      have h0 := l2 0 v d (by rw [← Array.toList_map, hv]; rfl) (by simp)
      have h1 := l2 1 u x (by rw [← Array.toList_map, hv]; rfl) (by simp)
      refine conv (s := Builtin.copy_ argTypes ty #[v, u]) ?_ (ex2 (copy_sound hs h0 h1 hk id ty))
      rw [arr _ hv]; rfl
    · -- min
      rename_i x y
      obtain ⟨r, hr, hk⟩ := nx_eq_some.1 hk
      obtain ⟨v, u, hv⟩ : ∃ v u, (args.map a.eval).toList = [v, u] := len_two (by simpa using l1)
      have h0 := l2 0 v x (by rw [← Array.toList_map, hv]; rfl) (by simp)
      have h1 := l2 1 u y (by rw [← Array.toList_map, hv]; rfl) (by simp)
      obtain ⟨m, hm, hrep⟩ := min2_sound (X := X) h0 h1 hr
      refine conv (s := Builtin.min_ argTypes ty #[v, u]) ?_ (RunsTo.valE hs hk (by show (List.foldlM Builtin.min2 v [u]).run X.P w = _; simp only [List.foldlM, Sem.run_bind, hm, Result.andThen, Sem.run_pure]) hrep)
      rw [arr _ hv]; rfl
    · -- min of three
      rename_i x y z
      obtain ⟨r, hr, hk⟩ := nx_eq_some.1 hk
      obtain ⟨r2, hr2, hk⟩ := nx_eq_some.1 hk
      obtain ⟨v, u, t, hv⟩ : ∃ v u t, (args.map a.eval).toList = [v, u, t] := len_three (by simpa using l1)
      have h0 := l2 0 v x (by rw [← Array.toList_map, hv]; rfl) (by simp)
      have h1 := l2 1 u y (by rw [← Array.toList_map, hv]; rfl) (by simp)
      have h2 := l2 2 t z (by rw [← Array.toList_map, hv]; rfl) (by simp)
      obtain ⟨m, hm, hrep⟩ := min2_sound (X := X) h0 h1 hr
      obtain ⟨m2, hm2, hrep2⟩ := min2_sound (X := X) hrep h2 hr2
      refine conv (s := Builtin.min_ argTypes ty #[v, u, t]) ?_ (RunsTo.valE hs hk (by show (List.foldlM Builtin.min2 v [u, t]).run X.P w = _; simp only [List.foldlM, Sem.run_bind, hm, hm2, Result.andThen, Sem.run_pure]) hrep2)
      rw [arr _ hv]; rfl
    · -- max
      rename_i x y
      obtain ⟨r, hr, hk⟩ := nx_eq_some.1 hk
      obtain ⟨v, u, hv⟩ : ∃ v u, (args.map a.eval).toList = [v, u] := len_two (by simpa using l1)
      have h0 := l2 0 v x (by rw [← Array.toList_map, hv]; rfl) (by simp)
      have h1 := l2 1 u y (by rw [← Array.toList_map, hv]; rfl) (by simp)
      obtain ⟨m, hm, hrep⟩ := max2_sound (X := X) h0 h1 hr
      refine conv (s := Builtin.max_ argTypes ty #[v, u]) ?_ (RunsTo.valE hs hk (by show (List.foldlM Builtin.max2 v [u]).run X.P w = _; simp only [List.foldlM, Sem.run_bind, hm, Result.andThen, Sem.run_pure]) hrep)
      rw [arr _ hv]; rfl
    · -- max of three
      rename_i x y z
      obtain ⟨r, hr, hk⟩ := nx_eq_some.1 hk
      obtain ⟨r2, hr2, hk⟩ := nx_eq_some.1 hk
      obtain ⟨v, u, t, hv⟩ : ∃ v u t, (args.map a.eval).toList = [v, u, t] := len_three (by simpa using l1)
      have h0 := l2 0 v x (by rw [← Array.toList_map, hv]; rfl) (by simp)
      have h1 := l2 1 u y (by rw [← Array.toList_map, hv]; rfl) (by simp)
      have h2 := l2 2 t z (by rw [← Array.toList_map, hv]; rfl) (by simp)
      obtain ⟨m, hm, hrep⟩ := max2_sound (X := X) h0 h1 hr
      obtain ⟨m2, hm2, hrep2⟩ := max2_sound (X := X) hrep h2 hr2
      refine conv (s := Builtin.max_ argTypes ty #[v, u, t]) ?_ (RunsTo.valE hs hk (by show (List.foldlM Builtin.max2 v [u, t]).run X.P w = _; simp only [List.foldlM, Sem.run_bind, hm, hm2, Result.andThen, Sem.run_pure]) hrep2)
      rw [arr _ hv]; rfl
    · simp at hk
  · -- a function value
    rename_i f args argTypes
    obtain ⟨fv, hf, hk1⟩ := nx_eq_some.1 hev
    obtain ⟨as, has, hk⟩ := nx_eq_some.1 hk1
    clear hev hk1
    obtain ⟨l1, l2⟩ := evalsA_sound hρ _ _ has
    have rf := hρ _ _ hf
    generalize hax : a.eval f = vx at rf
    cases rf with
    | func _ fn fi ca fi' ca' h1 h2 hfi hca =>
      cases fn with
      | func fid =>
        simp only at hk
        have hargs : ArgsRep w W μ (fi ++ args.map a.eval ++ ca) (fi' ++ as ++ ca') := by
          refine ⟨by simp [h1, h2]; simpa using l1, fun i v b hv hb => ?_⟩
          have hl : (args.map a.eval).size = as.length := by simpa using l1
          by_cases c1 : i < fi.size
          · rw [Array.append_assoc, Array.getElem?_append_left c1] at hv
            rw [List.append_assoc, List.getElem?_append_left (by omega)] at hb
            exact hfi i v b hv hb
          · by_cases c2 : i < fi.size + (args.map a.eval).size
            · rw [Array.append_assoc, Array.getElem?_append_right (by omega), Array.getElem?_append_left (by omega)] at hv
              rw [List.append_assoc, List.getElem?_append_right (by omega), List.getElem?_append_left (by omega)] at hb
              rw [← h1] at hb
              exact l2 _ v b (by rw [← Array.toList_map, Array.getElem?_toList]; exact hv) hb
            · rw [Array.append_assoc, Array.getElem?_append_right (by omega), Array.getElem?_append_right (by omega)] at hv
              rw [List.append_assoc, List.getElem?_append_right (by omega), List.getElem?_append_right (by omega)] at hb
              rw [← h1, ← hl] at hb
              exact hca _ v b hv hb
        obtain ⟨c1, c2⟩ := aCallFunc_sound hcs hs hid hnext hargs hk
        refine .inr (.inr ⟨fid, fi ++ args.map a.eval ++ ca, ?_, c2⟩)
        simp only [execOp, resolve, hax, Deferred.ofValue, Sem.run_bind, Sem.run_pure, Result.andThen, invoke]
        exact c1
      | _ => simp at hk
    | _ => simp at hk
  · simp at hev
end Go.Proofs.YtjccikgdebgebaaGreatDoor.Abs
end
section
namespace Go.Proofs.YtjccikgdebgebaaGreatDoor.Abs
open Go
variable (X : Ctx) (call : CallFn) (ops : Array Oper) (base : Nat)
/-- An operation, its place, and what it did. -/
structure Did where
  i : Nat
  o : Oper
  e : Eff
def Runs : St → List Did → St → Prop
  | st, [], st' => st = st'
  | st, d :: T, st' => ∃ st1, stepOp X call ops base d.i d.o st = some (st1, d.e) ∧ Runs st1 T st'
def execL : List Nat → St → Option St
  | [], st => some st
  | i :: l, st => match ops[i]? with
    | none => execL l st
    | some o => nx (stepOp X call ops base i o st) fun r => execL l r.1
variable {X call ops base}
/-- An answer hangs on what it reads. -/
theorem upd_comm {α : Type} (f : Nat → α) {i j : Nat} (a b : α) (h : i ≠ j) : upd (upd f i a) j b = upd (upd f j b) i a := by
  funext k
  unfold upd
  by_cases h1 : k = i <;> by_cases h2 : k = j
  · exact absurd (h1.symm.trans h2) h
  · simp only [if_pos h1, if_neg h2]
  · simp only [if_neg h1, if_pos h2]
  · simp only [if_neg h1, if_neg h2]
theorem applyWr_other (h : Heap) (l : List (Nat × Option Obj)) (b : Nat) (hb : l.any (·.1 == b) = false) : applyWr h l b = h b :=
  applyWr_get h l b fun x hx he => by
    have := List.any_eq_false.1 hb x hx
    simp [he] at this
theorem applyWr_upd (h : Heap) (l : List (Nat × Option Obj)) (b : Nat) (o : Option Obj) (hb : l.any (·.1 == b) = false) : applyWr (upd h b o) l = upd (applyWr h l) b o := by
  induction l generalizing h with
  | nil => rfl
  | cons x xs ih =>
    obtain ⟨c, p⟩ := x
    simp only [List.any_cons, Bool.or_eq_false_iff, beq_eq_false_iff_ne] at hb
    rw [applyWr, applyWr, upd_comm _ _ _ (fun e => hb.1 e.symm), ih _ hb.2]
theorem applyWr_comm (h : Heap) (l l' : List (Nat × Option Obj)) (hd : ∀ x ∈ l, l'.any (·.1 == x.1) = false) : applyWr (applyWr h l) l' = applyWr (applyWr h l') l := by
  induction l generalizing h with
  | nil => rfl
  | cons x xs ih =>
    obtain ⟨c, p⟩ := x
    rw [applyWr, applyWr, ih _ fun y hy => hd y (by simp [hy]), applyWr_upd h l' c p (hd (c, p) (by simp))]
/-- What an operation's answer hangs on: the slots that it looks at, and the blocks that it reads. -/
def OnlyReads (env : Nat → AV) (h : Heap) (o : Op) (id next : Nat) (e : Eff) : Prop :=
  match e with
  | .loc d => ∀ env' h', (∀ x ∈ o.operands, evalA X env' x = evalA X env x) → (∀ b ∈ d.rd, h' b = h b) → ∀ next', evalOp X call env' h' id next' o = some (.loc d)
  | .glob .. => ∀ env', (∀ x ∈ o.operands, evalA X env' x = evalA X env x) → evalOp X call env' h id next o = some e
theorem cellsAt_local {h h' : Heap} {p : AV} {cs : List AV} {rd : List Nat} (hc : cellsAt h p = some (cs, rd)) (hh : ∀ b ∈ rd, h' b = h b) : cellsAt h' p = some (cs, rd) := by
  cases p with
  | ptr b off =>
    simp only [cellsAt] at hc ⊢
    split at hc
    · rename_i cs' g f hb
      simp only [Option.some.injEq, Prod.mk.injEq] at hc
      obtain ⟨rfl, rfl⟩ := hc
      simp only [hh b (by simp), hb]
    · simp at hc
  | _ => exact hc
theorem srcCells_local {h h' : Heap} {size : Nat} {p : AV} {cs : List AV} {n : Nat} {rd : List Nat} (hc : srcCells h size p = some (cs, n, rd)) (hh : ∀ b ∈ rd, h' b = h b) : srcCells h' size p = some (cs, n, rd) := by
  unfold srcCells at hc ⊢
  split at hc
  · exact hc
  · split at hc
    · rename_i hb
      split at hc
      · rename_i hcond
        simp only [Option.some.injEq, Prod.mk.injEq] at hc
        obtain ⟨rfl, rfl, rfl⟩ := hc
        simp only [hh _ (List.mem_singleton.2 rfl), hb, if_pos hcond]
      · simp at hc
    · simp at hc
  · exact hc
  · simp at hc
theorem snap_local {h h' : Heap} : ∀ (d : Nat) (a x : AV) (ids : List Nat), snap h d a = some (x, ids) → (∀ b ∈ ids, h' b = h b) → snap h' d a = some (x, ids) := by
  intro d
  induction d with
  | zero => intro a x ids hs; simp [snap] at hs
  | succ d ih =>
    intro a x ids hs hh
    have lst : ∀ (l xs : List AV) (ids : List Nat), snaps (snap h d) l = some (xs, ids) → (∀ b ∈ ids, h' b = h b) → snaps (snap h' d) l = some (xs, ids) := by
      intro l
      induction l with
      | nil => intro xs ids hs _; exact hs
      | cons y ys ihl =>
        intro xs ids hs hh
        obtain ⟨⟨x1, i1⟩, ha, hk⟩ := nx_eq_some.1 hs
        obtain ⟨⟨x2, i2⟩, hb, hk⟩ := mp_eq_some.1 hk
        simp only [Prod.mk.injEq] at hk
        obtain ⟨rfl, rfl⟩ := hk
        exact nx_eq_some.2 ⟨_, ih y x1 i1 ha fun b hb => hh b (by simp [hb]), mp_eq_some.2 ⟨_, ihl x2 i2 hb fun b hb => hh b (by simp [hb]), rfl⟩⟩
    cases a with
    | sl b off len cap sz =>
      simp only [snap] at hs ⊢
      split at hs
      · rename_i cs g f hb
        split at hs
        · rename_i hle
          obtain ⟨⟨xs, jds⟩, hx, hk⟩ := mp_eq_some.1 hs
          simp only [Prod.mk.injEq] at hk
          obtain ⟨rfl, rfl⟩ := hk
          rw [hh b (by simp), hb]
          simp only
          rw [if_pos hle]
          exact mp_eq_some.2 ⟨_, lst _ _ _ hx fun b hb => hh b (by simp [hb]), rfl⟩
        · simp at hs
      · simp at hs
    | ptr b off =>
      simp only [snap] at hs ⊢
      split at hs
      · rename_i cs g f hb
        obtain ⟨⟨xs, jds⟩, hx, hk⟩ := mp_eq_some.1 hs
        simp only [Prod.mk.injEq] at hk
        obtain ⟨rfl, rfl⟩ := hk
        rw [hh b (by simp), hb]
        exact mp_eq_some.2 ⟨_, lst _ _ _ hx fun b hb => hh b (by simp [hb]), rfl⟩
      · simp at hs
    | agg cs =>
      simp only [snap] at hs ⊢
      obtain ⟨⟨xs, jds⟩, hx, hk⟩ := mp_eq_some.1 hs
      simp only [Prod.mk.injEq] at hk
      obtain ⟨rfl, rfl⟩ := hk
      exact mp_eq_some.2 ⟨_, lst _ _ _ hx hh, rfl⟩
    | tuple cs =>
      simp only [snap] at hs ⊢
      obtain ⟨⟨xs, jds⟩, hx, hk⟩ := mp_eq_some.1 hs
      simp only [Prod.mk.injEq] at hk
      obtain ⟨rfl, rfl⟩ := hk
      exact mp_eq_some.2 ⟨_, lst _ _ _ hx hh, rfl⟩
    | func fn fi ca =>
      simp only [snap] at hs ⊢
      obtain ⟨⟨xs, i⟩, hx, hk⟩ := nx_eq_some.1 hs
      obtain ⟨⟨ys, j⟩, hy, hk⟩ := mp_eq_some.1 hk
      simp only [Prod.mk.injEq] at hk
      obtain ⟨rfl, rfl⟩ := hk
      exact nx_eq_some.2 ⟨_, lst _ _ _ hx fun b hb => hh b (by simp [hb]), mp_eq_some.2 ⟨_, lst _ _ _ hy fun b hb => hh b (by simp [hb]), rfl⟩⟩
    | iface t v =>
      simp only [snap] at hs ⊢
      obtain ⟨⟨y, i⟩, hx, hk⟩ := mp_eq_some.1 hs
      simp only [Prod.mk.injEq] at hk
      obtain ⟨rfl, rfl⟩ := hk
      exact mp_eq_some.2 ⟨_, ih _ _ _ hx hh, rfl⟩
    | _ => first | exact hs | (simp [snap] at hs; done)
theorem snaps_local {h h' : Heap} {d : Nat} : ∀ {l xs : List AV} {ids : List Nat}, snaps (snap h d) l = some (xs, ids) → (∀ b ∈ ids, h' b = h b) → snaps (snap h' d) l = some (xs, ids) := by
  intro l
  induction l with
  | nil => intro xs ids hs _; exact hs
  | cons y ys ihl =>
    intro xs ids hs hh
    obtain ⟨⟨x1, i1⟩, ha, hk⟩ := nx_eq_some.1 hs
    obtain ⟨⟨x2, i2⟩, hb, hk⟩ := mp_eq_some.1 hk
    simp only [Prod.mk.injEq] at hk
    obtain ⟨rfl, rfl⟩ := hk
    exact nx_eq_some.2 ⟨_, snap_local d y x1 i1 ha fun b hb => hh b (by simp [hb]), mp_eq_some.2 ⟨_, ihl hb fun b hb => hh b (by simp [hb]), rfl⟩⟩
/-- An answer of one operation, seen from another heap that agrees on what was read. -/
def Loc (h h' : Heap) (e e' : Eff) : Prop := match e with
  | .loc d => (∀ b ∈ d.rd, h' b = h b) → e' = .loc d
  | .glob .. => True
theorem evalA_congr {env env' : Nat → AV} (x : Operand) (h : ∀ t, x = .tmp t → env' t = env t) : evalA X env' x = evalA X env x := by
  cases x with
  | tmp t => simp only [evalA, h t rfl]
  | _ => rfl
theorem evalsA_congr {env env' : Nat → AV} : ∀ (l : List Operand), (∀ x ∈ l, evalA X env' x = evalA X env x) → evalsA X env' l = evalsA X env l := by
  intro l
  induction l with
  | nil => intro _; rfl
  | cons x xs ih => intro h; simp only [evalsA, h x (by simp), ih fun y hy => h y (by simp [hy])]
theorem partsA_congr {env env' : Nat → AV} : ∀ (l : List (Nat × Operand)), (∀ x ∈ l, evalA X env' x.2 = evalA X env x.2) → partsA X env' l = partsA X env l := by
  intro l
  induction l with
  | nil => intro _; rfl
  | cons x xs ih => intro h; obtain ⟨i, o⟩ := x; simp only [partsA, h (i, o) (by simp), ih fun y hy => h y (by simp [hy])]
theorem optA_congr {env env' : Nat → AV} (o : Option Operand) (h : ∀ x, o = some x → evalA X env' x = evalA X env x) : optA X env' o = optA X env o := by
  cases o with
  | none => rfl
  | some x => simp only [optA, h x rfl]
/-- The slots alone. -/
theorem evalOp_env {env env' : Nat → AV} {h : Heap} {id next : Nat} {o : Op} (he : ∀ x ∈ o.operands, evalA X env' x = evalA X env x) : evalOp X call env' h id next o = evalOp X call env h id next o := by
  have opts : ∀ (x : Operand) (l r m : Option Operand), (∀ y ∈ (#[x] ++ l.toArray ++ r.toArray ++ m.toArray : Array Operand), evalA X env' y = evalA X env y) → optA X env' l = optA X env l ∧ optA X env' r = optA X env r ∧ optA X env' m = optA X env m := by
    intro x l r m hh
    refine ⟨optA_congr l fun y hy => hh y ?_, optA_congr r fun y hy => hh y ?_, optA_congr m fun y hy => hh y ?_⟩ <;> subst hy <;> simp
  cases o with
  | move x => simp only [evalOp, he x (by simp [Op.operands])]
  | assign x => simp only [evalOp, he x (by simp [Op.operands])]
  | pick a b c => simp only [evalOp, he a (by simp [Op.operands]), he b (by simp [Op.operands]), he c (by simp [Op.operands])]
  | box t x => simp only [evalOp, he x (by simp [Op.operands])]
  | build t ps => simp only [evalOp, partsA_congr ps.toList fun x hx => he x.2 (by simp only [Op.operands, List.mem_toArray, List.mem_map]; exact ⟨x, hx, rfl⟩)]
  | buildSlice t n ps => simp only [evalOp, partsA_congr ps.toList fun x hx => he x.2 (by simp only [Op.operands, List.mem_toArray, List.mem_map]; exact ⟨x, hx, rfl⟩)]
  | load t x => simp only [evalOp, he x (by simp [Op.operands])]
  | store t x y => simp only [evalOp, he x (by simp [Op.operands]), he y (by simp [Op.operands])]
  | nilCheck x => simp only [evalOp, he x (by simp [Op.operands])]
  | binOp op t x y t' => simp only [evalOp, he x (by simp [Op.operands]), he y (by simp [Op.operands])]
  | unOp op t x => simp only [evalOp, he x (by simp [Op.operands])]
  | convert s d x => simp only [evalOp, he x (by simp [Op.operands])]
  | makeFunc fn f c => simp only [evalOp, evalsA_congr f.toList fun x hx => he x (by simp only [Op.operands, Array.mem_append]; exact .inl (Array.mem_toList_iff.1 hx)), evalsA_congr c.toList fun x hx => he x (by simp only [Op.operands, Array.mem_append]; exact .inr (Array.mem_toList_iff.1 hx))]
  | makeSlice t x y => simp only [evalOp, he x (by simp [Op.operands]), he y (by simp [Op.operands])]
  | slice t x l r m =>
    obtain ⟨h1, h2, h3⟩ := opts x l r m he
    simp only [evalOp, he x (by simp [Op.operands]), h1, h2, h3]
  | fieldAddr s x f => simp only [evalOp, he x (by simp [Op.operands])]
  | field s x f => simp only [evalOp, he x (by simp [Op.operands])]
  | indexAddr t x y => simp only [evalOp, he x (by simp [Op.operands]), he y (by simp [Op.operands])]
  | index t x y => simp only [evalOp, he x (by simp [Op.operands]), he y (by simp [Op.operands])]
  | extract x i => simp only [evalOp, he x (by simp [Op.operands])]
  | call c =>
    obtain ⟨cal, args, tys⟩ := c
    have ha : evalsA X env' args.toList = evalsA X env args.toList := evalsA_congr args.toList fun x hx => he x (by simp only [Op.operands, Call.operands, Array.mem_append]; exact .inr (Array.mem_toList_iff.1 hx))
    cases cal with
    | builtin b => simp only [evalOp, ha]
    | value f => simp only [evalOp, ha, he f (by simp [Op.operands, Call.operands])]
    | invoke r m => rfl
  | _ => rfl
theorem valE_rd {a : AV} {e : Eff} (h : valE a = some e) : e = .loc ⟨a, [], []⟩ := by
  simp only [valE, Option.some.injEq] at h; exact h.symm
/-- The blocks that were read alone, and not the first free number. -/
theorem evalOp_heap {env : Nat → AV} {h h' : Heap} {id next next' : Nat} {o : Op} {d : Delta} (hev : evalOp X call env h id next o = some (.loc d)) (hh : ∀ b ∈ d.rd, h' b = h b) : evalOp X call env h' id next' o = some (.loc d) := by
  cases o with
  | load t x =>
    obtain ⟨p, hp, hk⟩ := nx_eq_some.1 hev
    refine nx_eq_some.2 ⟨p, hp, ?_⟩
    unfold aLoad at hk ⊢
    split at hk
    · rename_i n cs rd hsh hca
      split at hk
      · rename_i hle
        simp only [Option.some.injEq, Eff.loc.injEq] at hk
        subst hk
        rw [cellsAt_local hca hh]
        simp only [hsh]
        rw [if_pos hle]
      · simp at hk
    · rename_i n c cs rd hsh hca
      simp only [Option.some.injEq, Eff.loc.injEq] at hk
      subst hk
      rw [cellsAt_local hca hh]
      simp only [hsh]
    · simp at hk
  | store t x y =>
    obtain ⟨p, hp, hk⟩ := nx_eq_some.1 hev
    obtain ⟨v, hv, hk⟩ := nx_eq_some.1 hk
    refine nx_eq_some.2 ⟨p, hp, nx_eq_some.2 ⟨v, hv, ?_⟩⟩
    unfold aStore at hk ⊢
    cases hsz : sizeA X t with
    | none => simp [hsz] at hk
    | some n =>
      cases p with
      | ptr b off =>
        simp only [hsz] at hk ⊢
        split at hk
        · rename_i cs g hb
          split at hk
          · rename_i hc
            simp only [Option.some.injEq, Eff.loc.injEq] at hk
            subst hk
            simp only [hh b (by simp), hb, if_pos hc]
          · simp at hk
        · simp at hk
      | _ => simp [hsz] at hk
  | call c =>
    obtain ⟨cal, args, tys⟩ := c
    cases cal with
    | builtin b =>
      obtain ⟨as, has, hk⟩ := nx_eq_some.1 hev
      refine nx_eq_some.2 ⟨as, has, ?_⟩
      unfold aBuiltin at hk ⊢
      split at hk
      · exact hk
      · -- append
        rename_i s x
        show aAppend X h' id tys s x = some (.loc d)
        unfold aAppend at hk ⊢
        split at hk
        case h_2 => simp at hk
        rename_i st xt hst hxt
        try simp only [hst, hxt]
        split at hk
        case h_2 => simp at hk
        rename_i elem xd hu hxu
        try simp only [hu, hxu]
        split at hk
        · simp at hk
        rename_i h1
        rw [if_neg h1]
        obtain ⟨⟨size, bytes⟩, hsb, hk⟩ := nx_eq_some.1 hk
        refine nx_eq_some.2 ⟨(size, bytes), hsb, ?_⟩
        simp only at hk ⊢
        split at hk
        · simp at hk
        rename_i h2
        rw [if_neg h2]
        obtain ⟨z, hz, hk⟩ := nx_eq_some.1 hk
        refine nx_eq_some.2 ⟨z, hz, ?_⟩
        split at hk
        · simp at hk
        rename_i h3
        rw [if_neg h3]
        obtain ⟨⟨xs, n, rd⟩, hsrc, hk⟩ := nx_eq_some.1 hk
        have hrd : ∀ b ∈ rd, b ∈ d.rd := by
          simp only at hk
          split at hk
          · split at hk
            · cases hk; exact fun b hb => hb
            · split at hk
              · cases hk; exact fun b hb => hb
              · simp at hk
          · split at hk
            · simp at hk
            · split at hk
              · split at hk
                · split at hk
                  · cases hk; exact fun b hb => by simp [hb]
                  · split at hk
                    · split at hk
                      · cases hk; exact fun b hb => by simp [hb]
                      · simp at hk
                    · split at hk
                      · cases hk; exact fun b hb => by simp [hb]
                      · simp at hk
                · split at hk
                  · cases hk; exact fun b hb => by simp [hb]
                  · split at hk
                    · cases hk; exact fun b hb => by simp [hb]
                    · simp at hk
              · simp at hk
          · simp at hk
        refine nx_eq_some.2 ⟨(xs, n, rd), srcCells_local hsrc fun b hb => hh b (hrd b hb), ?_⟩
        cases s with
        | sl b off len cap sz =>
          have hb : b ∈ d.rd := by
            simp only at hk
            split at hk
            · simp at hk
            · split at hk
              · split at hk
                · split at hk
                  · cases hk; simp
                  · split at hk
                    · split at hk
                      · cases hk; simp
                      · simp at hk
                    · split at hk
                      · cases hk; simp
                      · simp at hk
                · split at hk
                  · cases hk; simp
                  · split at hk
                    · cases hk; simp
                    · simp at hk
              · simp at hk
          simp only [hh b hb]
          exact hk
        | _ => exact hk
      · -- copy
        rename_i dd x
        show aCopy X h' tys dd x = some (.loc d)
        unfold aCopy at hk ⊢
        split at hk
        case h_2 => simp at hk
        rename_i st hst
        try simp only [hst]
        split at hk
        case h_2 => simp at hk
        rename_i elem hu
        try simp only [hu]
        obtain ⟨size, hsize, hk⟩ := nx_eq_some.1 hk
        refine nx_eq_some.2 ⟨size, hsize, ?_⟩
        obtain ⟨⟨xs, n, rd⟩, hsrc, hk⟩ := nx_eq_some.1 hk
        have hrd : ∀ b ∈ rd, b ∈ d.rd := by
          simp only at hk
          split at hk
          · split at hk
            · simp at hk
            · split at hk
              · split at hk
                · cases hk; exact fun b hb => by simp [hb]
                · simp at hk
              · simp at hk
          · split at hk
            · cases hk; exact fun b hb => hb
            · simp at hk
          · simp at hk
        refine nx_eq_some.2 ⟨(xs, n, rd), srcCells_local hsrc fun b hb => hh b (hrd b hb), ?_⟩
        cases dd with
        | sl b off len cap sz =>
          have hb : b ∈ d.rd := by
            simp only at hk
            split at hk
            · simp at hk
            · split at hk
              · split at hk
                · cases hk; simp
                · simp at hk
              · simp at hk
          simp only [hh b hb]
          exact hk
        | _ => exact hk
      all_goals exact hk
    | value f =>
      obtain ⟨fv, hf, hk⟩ := nx_eq_some.1 hev
      obtain ⟨as, has, hk⟩ := nx_eq_some.1 hk
      refine nx_eq_some.2 ⟨fv, hf, nx_eq_some.2 ⟨as, has, ?_⟩⟩
      cases fv with
      | func fn fi ca =>
        cases fn with
        | func fid =>
          simp only at hk ⊢
          unfold aCallFunc at hk ⊢
          split at hk
          · obtain ⟨x, _, hx⟩ := mp_eq_some.1 hk; simp at hx
          · rename_i hm
            rw [if_neg hm]
            split at hk
            · obtain ⟨x, _, hx⟩ := mp_eq_some.1 hk; simp at hx
            · rename_i xs ids hsn
              obtain ⟨r, hr, hk⟩ := nx_eq_some.1 hk
              obtain ⟨⟨v, wr⟩, hi, hk⟩ := mp_eq_some.1 hk
              simp only [Eff.loc.injEq] at hk
              subst hk
              rw [snaps_local hsn hh]
              refine nx_eq_some.2 ⟨r, hr, mp_eq_some.2 ⟨(v, wr), hi, ?_⟩⟩
              simp only [Eff.loc.injEq]
              congr 2
              split
              · rfl
              · exact List.map_congr_left fun b hb => by rw [hh b hb]
        | _ => simp at hk
      | _ => simp at hk
    | invoke r m => simp [evalOp] at hev
  | _ => exact hev
end Go.Proofs.YtjccikgdebgebaaGreatDoor.Abs
end
