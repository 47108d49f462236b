/-
  Operations that do not hang on each other may change places. No conditions. A region is sound, whatever order is drawn. No conditions. THE INTERPRETER IS SOUND: what it computes of a call, the machine's call does. Condition: the program follows the departure 'mixedOrders' (a closed fact of each program). Maps and the order of a range over one: what is left open there is taken as it comes. Rules for code whose outcome hangs on it. No conditions. Operations on maps, one by one. No conditions. Maps from ints to true, and a range over one, operation by operation. No conditions.
-/
import Derived.Test.YtjccikgdebgebaaGreatDoorQ13
import Derived.LoopN
import Derived.Test.YtjccikgdebgebaaGreatDoorQ02
import Derived.MapKept
import Derived.Maps.RangeRun
set_option linter.unusedSimpArgs false
set_option linter.unusedVariables false
section
namespace Go.Proofs.YtjccikgdebgebaaGreatDoor.Abs
open Go
variable {X : Ctx} {call : CallFn} {ops : Array Oper} {base : Nat}
theorem stepOp_some {i : Nat} {o : Oper} {st st1 : St} {e : Eff} : stepOp X call ops base i o st = some (st1, e) ↔
    guardedOp (wantedA ops st.env o) (evalOp X call st.env st.heap (base + 8 * i) st.next o.op) = some e ∧ st1 = Abs.after o st e := by
  rw [stepOp_eq]
  constructor
  · intro h
    obtain ⟨e', he, hk⟩ := mp_eq_some.1 h
    simp only [Prod.mk.injEq] at hk
    obtain ⟨rfl, rfl⟩ := hk
    exact ⟨he, rfl⟩
  · rintro ⟨h1, rfl⟩
    exact mp_eq_some.2 ⟨e, h1, rfl⟩
theorem putEnv_ne {env : Nat → AV} {d : Option Tmp} {v : AV} {t : Nat} (h : d ≠ some t) : putEnv env d v t = env t := by
  cases d with
  | none => rfl
  | some s => exact upd_ne _ _ fun he => h (by rw [he])
theorem putEnv_comm {env : Nat → AV} {d d' : Option Tmp} {v v' : AV} (h : ∀ t, d = some t → d' ≠ some t) : putEnv (putEnv env d v) d' v' = putEnv (putEnv env d' v') d v := by
  cases d with
  | none => rfl
  | some s =>
    cases d' with
    | none => rfl
    | some s' => exact upd_comm _ _ _ fun he => h s rfl (by rw [he])
theorem after_env (o : Oper) (st : St) (e : Eff) : ∃ v, (Abs.after o st e).env = putEnv st.env o.dst v := by
  cases e with
  | loc d => exact ⟨d.val, rfl⟩
  | glob v h n => exact ⟨v, rfl⟩
/-- The slots that an operation looks at are not turned. -/
theorem looks_same {x y : Oper} (h : ∀ d, x.dst = some d → d ∉ y.looksAt ops) {env : Nat → AV} {v : AV} :
    wantedA ops (putEnv env x.dst v) y = wantedA ops env y ∧ ∀ z ∈ y.op.operands, evalA X (putEnv env x.dst v) z = evalA X env z := by
  constructor
  · unfold wantedA
    cases hg : y.guard with
    | none => rfl
    | some g =>
      obtain ⟨j, want⟩ := g
      simp only
      cases hj : ops[j]? with
      | none => rfl
      | some o =>
        simp only
        cases hd : o.dst with
        | none => rfl
        | some t =>
          simp only
          rw [putEnv_ne (fun he => h t he ?_)]
          simp [Oper.looksAt, hg, hj, hd]
  · intro z hz
    refine evalA_congr z fun t ht => putEnv_ne fun he => h t he ?_
    subst ht
    simp only [Oper.looksAt, List.mem_append, List.mem_filterMap]
    exact .inl ⟨.tmp t, by simpa using hz, rfl⟩
theorem hits_false {d e : Delta} (h : d.hits e = false) : (∀ b ∈ e.rd, d.wr.any (·.1 == b) = false) ∧ ∀ x ∈ d.wr, e.wr.any (·.1 == x.1) = false := by
  unfold Delta.hits at h
  constructor
  · intro b hb
    rw [List.any_eq_false]
    intro x hx he
    have := List.any_eq_false.1 h x hx
    simp only [Bool.or_eq_true, List.contains_iff_mem, not_or] at this
    simp only [beq_iff_eq] at he
    subst he
    exact this.1 hb
  · intro x hx
    have := List.any_eq_false.1 h x hx
    simp only [Bool.or_eq_true, not_or, Bool.not_eq_true] at this
    exact this.2
/-- What a guarded operation answers, seen from elsewhere. -/
theorem guarded_move {o : Oper} {env env' : Nat → AV} {h h' : Heap} {id next next' : Nat} {e : Eff} (hg : guardedOp (wantedA ops env o) (evalOp X call env h id next o.op) = some e)
    (hw : wantedA ops env' o = wantedA ops env o) (he : ∀ z ∈ o.op.operands, evalA X env' z = evalA X env z) (hh : match e with | .loc d => ∀ b ∈ d.rd, h' b = h b | .glob .. => h' = h ∧ next' = next) :
    guardedOp (wantedA ops env' o) (evalOp X call env' h' id next' o.op) = some e := by
  rw [hw]
  cases hwa : wantedA ops env o with
  | none => rw [hwa] at hg; simp [guardedOp] at hg
  | some b =>
    rw [hwa] at hg
    cases b with
    | false => exact hg
    | true =>
      simp only [guardedOp] at hg ⊢
      rw [evalOp_env he]
      cases e with
      | loc d => exact evalOp_heap hg hh
      | glob v h2 n =>
        obtain ⟨rfl, rfl⟩ := hh
        exact hg
theorem swap {i j : Nat} {a b : Oper} {st st1 st2 : St} {e1 e2 : Eff} (h1 : stepOp X call ops base i a st = some (st1, e1)) (h2 : stepOp X call ops base j b st1 = some (st2, e2))
    (hap : Oper.apart ops a b = true) (hd : e1.disj e2 = true) : ∃ st1', stepOp X call ops base j b st = some (st1', e2) ∧ stepOp X call ops base i a st1' = some (st2, e1) := by
  obtain ⟨p1, p2, p3⟩ := Oper.apart_spec hap
  obtain ⟨g1, rfl⟩ := stepOp_some.1 h1
  obtain ⟨g2, rfl⟩ := stepOp_some.1 h2
  obtain ⟨v1, hv1⟩ := after_env a st e1
  obtain ⟨q1, q2⟩ := looks_same (X := X) (env := st.env) (v := v1) p1
  obtain ⟨v2, hv2⟩ := after_env b st e2
  obtain ⟨r1, r2⟩ := looks_same (X := X) (env := st.env) (v := v2) p3
  rw [hv1] at g2
  refine ⟨Abs.after b st e2, stepOp_some.2 ⟨guarded_move g2 q1.symm (fun z hz => (q2 z hz).symm) ?_, rfl⟩, stepOp_some.2 ⟨?_, ?_⟩⟩
  · -- the heap of b
    cases e1 with
    | loc d =>
      cases e2 with
      | loc d' =>
        simp only [Eff.disj, Bool.and_eq_true, Bool.not_eq_true'] at hd
        intro x hx
        exact (applyWr_other _ _ _ ((hits_false hd.1).1 x hx)).symm
      | glob v h n =>
        simp only [Eff.disj, Bool.and_eq_true, List.isEmpty_iff] at hd
        simp only [Abs.after, hd.2, applyWr, and_self]
    | glob v h n =>
      cases e2 with
      | loc d' =>
        simp only [Eff.disj, Bool.and_eq_true, List.isEmpty_iff] at hd
        intro x hx
        rw [hd.1] at hx
        simp at hx
      | glob v' h' n' => simp [Eff.disj] at hd
  · rw [hv2]
    refine guarded_move g1 r1 r2 ?_
    cases e1 with
    | loc d =>
      cases e2 with
      | loc d' =>
        simp only [Eff.disj, Bool.and_eq_true, Bool.not_eq_true'] at hd
        intro x hx
        exact applyWr_other _ _ _ ((hits_false hd.2).1 x hx)
      | glob v h n =>
        simp only [Eff.disj, Bool.and_eq_true, List.isEmpty_iff] at hd
        intro x hx
        rw [hd.1] at hx
        simp at hx
    | glob v h n =>
      cases e2 with
      | loc d' =>
        simp only [Eff.disj, Bool.and_eq_true, List.isEmpty_iff] at hd
        simp only [Abs.after, hd.2, applyWr, and_self]
      | glob v' h' n' => simp [Eff.disj] at hd
  · -- the same state
    cases e1 with
    | loc d =>
      cases e2 with
      | loc d' =>
        simp only [Eff.disj, Bool.and_eq_true, Bool.not_eq_true'] at hd
        simp only [Abs.after]
        rw [putEnv_comm p2, applyWr_comm _ _ _ (hits_false hd.1).2]
      | glob v h n =>
        simp only [Abs.after]
        simp only [Eff.disj, Bool.and_eq_true, List.isEmpty_iff] at hd
        rw [putEnv_comm p2, hd.2]
        rfl
    | glob v h n =>
      cases e2 with
      | loc d' =>
        simp only [Eff.disj, Bool.and_eq_true, List.isEmpty_iff] at hd
        simp only [Abs.after]
        rw [putEnv_comm p2, hd.2]
        rfl
      | glob v' h' n' => simp [Eff.disj] at hd
/-- May the two change places? -/
def Indep (ops : Array Oper) (a x : Did) : Prop := Oper.apart ops a.o x.o = true ∧ a.e.disj x.e = true
theorem move_front {x : Did} : ∀ (A B : List Did) (st st' : St), Runs X call ops base st (A ++ x :: B) st' → (∀ a ∈ A, Indep ops a x) → Runs X call ops base st (x :: (A ++ B)) st' := by
  intro A
  induction A with
  | nil => intro B st st' h _; exact h
  | cons a A ih =>
    intro B st st' h hi
    obtain ⟨st1, h1, h2⟩ := h
    obtain ⟨st2, h3, h4⟩ := ih B st1 st' h2 fun b hb => hi b (by simp [hb])
    obtain ⟨hap, hd⟩ := hi a (by simp)
    obtain ⟨st1', k1, k2⟩ := swap h1 h3 hap hd
    exact ⟨st1', k1, st2, k2, h4⟩
theorem runs_text : ∀ (l : List Oper) (i : Nat) (st st' : St) (T : List (Oper × Eff)), runTextE X call ops base l i st = some (st', T) → Runs X call ops base st ((T.zipIdx i).map fun x => ⟨x.2, x.1.1, x.1.2⟩) st' ∧ T.map (·.1) = l := by
  intro l
  induction l with
  | nil =>
    intro i st st' T h
    simp only [runTextE, Option.some.injEq, Prod.mk.injEq] at h
    obtain ⟨rfl, rfl⟩ := h
    exact ⟨rfl, rfl⟩
  | cons o os ih =>
    intro i st st' T h
    obtain ⟨⟨st1, e⟩, h1, hk⟩ := nx_eq_some.1 h
    obtain ⟨⟨st2, T'⟩, h2, hk⟩ := mp_eq_some.1 hk
    simp only [Prod.mk.injEq] at hk
    obtain ⟨rfl, rfl⟩ := hk
    obtain ⟨k1, k2⟩ := ih (i + 1) st1 st2 T' h2
    exact ⟨⟨st1, h1, k1⟩, by simp [k2]⟩
/-- An order that keeps the edges comes to the same. -/
theorem reorder : ∀ (l : List Nat) (T : List Did) (st st' : St), Runs X call ops base st T st' → (∀ d ∈ T, ops[d.i]? = some d.o) → T.Pairwise (fun a x => edgeOn x.o a.i = true ∨ Indep ops a x) →
    (T.map (·.i)).Perm l → (∀ (p : List Nat) (i : Nat) (q : List Nat), l = p ++ i :: q → ∀ o, ops[i]? = some o → ∀ k ∈ q, edgeOn o k = false) → execL X call ops base l st = some st' := by
  intro l
  induction l with
  | nil =>
    intro T st st' hr _ _ hp _
    have : T = [] := by simpa using hp.eq_nil
    subst this
    simp only [Runs] at hr
    subst hr
    rfl
  | cons i l ih =>
    intro T st st' hr ho hpw hp hres
    have hmem : i ∈ T.map (·.i) := hp.symm.subset (by simp)
    obtain ⟨x, hx, rfl⟩ := List.mem_map.1 hmem
    obtain ⟨A, B, rfl⟩ := List.append_of_mem hx
    have hox := ho x (by simp)
    have hp' : ((A ++ B).map (·.i)).Perm l := by
      have h1 : ((A ++ x :: B).map (·.i)).Perm (x.i :: (A ++ B).map (·.i)) := by
        rw [List.map_append, List.map_cons, List.map_append]
        exact List.perm_middle
      exact (List.perm_cons x.i).1 (h1.symm.trans hp)
    have hind : ∀ a ∈ A, Indep ops a x := by
      intro a ha
      have := (List.pairwise_append.1 hpw).2.2 a ha x (by simp)
      rcases this with he | hi
      · have hin : a.i ∈ l := hp'.subset (List.mem_map.2 ⟨a, by simp [ha], rfl⟩)
        have := hres [] x.i l rfl x.o hox a.i hin
        rw [this] at he
        simp at he
      · exact hi
    obtain ⟨st1, h1, h2⟩ := move_front A B st st' hr hind
    rw [execL, hox]
    refine nx_eq_some.2 ⟨(st1, x.e), h1, ih (A ++ B) st1 st' h2 (fun d hd => ho d ?_) ?_ hp' fun p i q hl => hres (x.i :: p) i q (by rw [hl]; rfl)⟩
    · rcases List.mem_append.1 hd with hd | hd <;> simp [hd]
    · exact hpw.sublist (List.Sublist.append_left (List.sublist_cons_self x B) A)
end Go.Proofs.YtjccikgdebgebaaGreatDoor.Abs
end
section
namespace Go.Proofs.YtjccikgdebgebaaGreatDoor.Abs
open Go
variable {X : Ctx} {call : CallFn} {ops : Array Oper}
/-! ### The drawn orders -/
def lin (ops : Array Oper) (fuel t : Nat) (listed : Array Bool) : List Nat := Region.linearise.go .any ops fuel t listed []
theorem lin_succ (ops : Array Oper) (fuel t : Nat) (listed : Array Bool) : lin ops (fuel + 1) t listed =
    match (Region.ready .any ops listed)[t % (Region.ready .any ops listed).length]? with
    | some i => i :: lin ops fuel (t / (Region.ready .any ops listed).length) (listed.setIfInBounds i true)
    | none => [] := by
  unfold lin
  simp only [Region.linearise.go]
  show (match (Region.ready .any ops listed)[t % (Region.ready .any ops listed).length]? with
    | some i => Region.linearise.go .any ops fuel (t / (Region.ready .any ops listed).length) (listed.setIfInBounds i true) [i]
    | none => _) = _
  split
  · rw [linearise_go_acc]; rfl
  · rfl
theorem mem_ready {listed : Array Bool} {i : Nat} : i ∈ Region.ready .any ops listed ↔ ∃ o, ops[i]? = some o ∧ listed.getD i true = false ∧ ∀ e ∈ o.after, Region.binds .any e = true → listed.getD e.on false = true := by
  unfold Region.ready
  simp only [List.mem_filter, List.mem_range, Bool.and_eq_true, Bool.not_eq_true']
  constructor
  · rintro ⟨hlt, h1, h2⟩
    refine ⟨ops[i], Array.getElem?_eq_getElem hlt, h1, fun e he hb => ?_⟩
    rw [Array.getElem?_eq_getElem hlt] at h2
    simp only [Option.map_some, Option.getD_some] at h2
    have := Array.all_eq_true_iff_forall_mem.1 h2 e he
    simpa [hb] using this
  · rintro ⟨o, ho, h1, h2⟩
    have hlt : i < ops.size := (Array.getElem?_eq_some_iff.1 ho).1
    refine ⟨hlt, h1, ?_⟩
    rw [ho]
    simp only [Option.map_some, Option.getD_some]
    refine Array.all_eq_true_iff_forall_mem.2 fun e he => ?_
    cases hb : Region.binds .any e with
    | false => rfl
    | true => simpa using h2 e he hb
/-- How many are not yet listed. -/
def openN (n : Nat) (listed : Array Bool) : List Nat := (List.range n).filter fun i => !listed.getD i true
theorem mem_openN {n : Nat} {listed : Array Bool} {i : Nat} : i ∈ openN n listed ↔ i < n ∧ listed.getD i true = false := by
  simp [openN]
theorem getD_set {listed : Array Bool} {i j : Nat} (hi : i < listed.size) : (listed.setIfInBounds i true).getD j true = if j = i then true else listed.getD j true := by
  simp only [Array.getD_eq_getD_getElem?, Array.getElem?_setIfInBounds]
  by_cases h : i = j
  · subst h; simp [hi]
  · rw [if_neg h, if_neg fun e => h e.symm]
theorem lin_facts (hedge : ∀ (i : Nat) (o : Oper), ops[i]? = some o → ∀ e ∈ o.after, Region.binds .any e = true → e.on < i) : ∀ (fuel t : Nat) (listed : Array Bool), listed.size = ops.size → (openN ops.size listed).length = fuel →
    (lin ops fuel t listed).Nodup ∧ (∀ i, i ∈ lin ops fuel t listed ↔ i ∈ openN ops.size listed) ∧
    ∀ (p : List Nat) (i : Nat) (q : List Nat), lin ops fuel t listed = p ++ i :: q → ∀ o, ops[i]? = some o → ∀ k ∈ q, edgeOn o k = false := by
  intro fuel
  induction fuel with
  | zero =>
    intro t listed hsz hlen
    have hnil : openN ops.size listed = [] := List.length_eq_zero_iff.1 hlen
    have hl : lin ops 0 t listed = [] := rfl
    rw [hl, hnil]
    exact ⟨List.nodup_nil, fun i => Iff.rfl, fun p i q h => by simp at h⟩
  | succ fuel ih =>
    intro t listed hsz hlen
    -- there is a ready one
    have hne : Region.ready .any ops listed ≠ [] := by
      intro hnil
      have hopen : ∀ n i, i ≤ n → i ∉ openN ops.size listed := by
        intro n
        induction n with
        | zero =>
          intro i hi hmem
          obtain ⟨hlt, hl⟩ := mem_openN.1 hmem
          have : i ∈ Region.ready .any ops listed := mem_ready.2 ⟨ops[i], Array.getElem?_eq_getElem hlt, hl, fun e he hb => by
            have := hedge i _ (Array.getElem?_eq_getElem hlt) e he hb; omega⟩
          rw [hnil] at this; simp at this
        | succ n ihn =>
          intro i hi hmem
          obtain ⟨hlt, hl⟩ := mem_openN.1 hmem
          have : i ∈ Region.ready .any ops listed := mem_ready.2 ⟨ops[i], Array.getElem?_eq_getElem hlt, hl, fun e he hb => by
            have hon := hedge i _ (Array.getElem?_eq_getElem hlt) e he hb
            have hno := ihn e.on (by omega)
            rw [mem_openN] at hno
            have h2 : listed.getD e.on true = true := by
              cases hh : listed.getD e.on true with
              | true => rfl
              | false => exact absurd ⟨by omega, hh⟩ hno
            have hlt' : e.on < listed.size := by omega
            simp only [Array.getD_eq_getD_getElem?, Array.getElem?_eq_getElem hlt', Option.getD_some] at h2 ⊢
            exact h2⟩
          rw [hnil] at this; simp at this
      have : openN ops.size listed = [] := List.eq_nil_iff_forall_not_mem.2 fun i => hopen i i (Nat.le_refl _)
      rw [this] at hlen
      simp at hlen
    obtain ⟨i, hi⟩ : ∃ i, (Region.ready .any ops listed)[t % (Region.ready .any ops listed).length]? = some i := by
      have hpos : 0 < (Region.ready .any ops listed).length := List.length_pos_iff.2 hne
      exact ⟨_, List.getElem?_eq_getElem (Nat.mod_lt _ hpos)⟩
    have hir := List.mem_of_getElem? hi
    obtain ⟨o, ho, hl, hall⟩ := mem_ready.1 hir
    have hilt : i < ops.size := (Array.getElem?_eq_some_iff.1 ho).1
    rw [lin_succ, hi]
    simp only
    have hmemi : i ∈ openN ops.size listed := mem_openN.2 ⟨hilt, hl⟩
    have hopen' : ∀ j, j ∈ openN ops.size (listed.setIfInBounds i true) ↔ j ∈ openN ops.size listed ∧ j ≠ i := by
      intro j
      rw [mem_openN, mem_openN, getD_set (by omega)]
      by_cases hji : j = i
      · simp [hji]
      · simp [hji]
    have hnd : ∀ l : Array Bool, (openN ops.size l).Nodup := fun l => List.Pairwise.filter _ List.nodup_range
    have hlen' : (openN ops.size (listed.setIfInBounds i true)).length = fuel := by
      have hperm : (openN ops.size listed).Perm (i :: openN ops.size (listed.setIfInBounds i true)) := by
        rw [List.perm_ext_iff_of_nodup (hnd _) (List.nodup_cons.2 ⟨fun h => ((hopen' i).1 h).2 rfl, hnd _⟩)]
        intro j
        rw [List.mem_cons, hopen']
        by_cases hji : j = i
        · subst hji; simp [hmemi]
        · simp [hji]
      have := hperm.length_eq
      rw [hlen] at this
      simp at this
      omega
    obtain ⟨k1, k2, k3⟩ := ih (t / (Region.ready .any ops listed).length) (listed.setIfInBounds i true) (by simpa using hsz) hlen'
    refine ⟨List.nodup_cons.2 ⟨fun h => ((hopen' i).1 ((k2 i).1 h)).2 rfl, k1⟩, fun j => ?_, fun p j q hpq o' ho' k hk => ?_⟩
    · rw [List.mem_cons, k2, hopen']
      by_cases hji : j = i
      · subst hji; simp [hmemi]
      · simp [hji]
    · cases p with
      | nil =>
        simp only [List.nil_append, List.cons.injEq] at hpq
        obtain ⟨rfl, rfl⟩ := hpq
        rw [ho] at ho'
        cases ho'
        obtain ⟨hko, hki⟩ := (hopen' k).1 ((k2 k).1 hk)
        obtain ⟨hklt, hkl⟩ := mem_openN.1 hko
        cases he : edgeOn o k with
        | false => rfl
        | true =>
          unfold edgeOn at he
          rw [← Array.any_toList] at he
          obtain ⟨e, hem, heq⟩ := List.any_eq_true.1 he
          have hem := Array.mem_toList_iff.1 hem
          simp only [Bool.and_eq_true, beq_iff_eq] at heq
          have := hall e hem heq.2
          rw [heq.1] at this
          have hlt' : k < listed.size := by omega
          simp only [Array.getD_eq_getD_getElem?, Array.getElem?_eq_getElem hlt', Option.getD_some] at this hkl
          rw [this] at hkl
          simp at hkl
      | cons x p =>
        simp only [List.cons_append, List.cons.injEq] at hpq
        exact k3 p j q hpq.2 o' ho' k hk
theorem lin_all (hedge : ∀ (i : Nat) (o : Oper), ops[i]? = some o → ∀ e ∈ o.after, Region.binds .any e = true → e.on < i) (t : Nat) :
    (List.range ops.size).Perm (Region.linearise .any ops t) ∧ ∀ (p : List Nat) (i : Nat) (q : List Nat), Region.linearise .any ops t = p ++ i :: q → ∀ o, ops[i]? = some o → ∀ k ∈ q, edgeOn o k = false := by
  have hop : openN ops.size (Array.replicate ops.size false) = List.range ops.size := by
    unfold openN
    rw [List.filter_eq_self]
    intro i hi
    simp at hi
    simp [Array.getD_eq_getD_getElem?, hi]
  obtain ⟨h1, h2, h3⟩ := lin_facts hedge ops.size t (Array.replicate ops.size false) (by simp) (by rw [hop]; simp)
  refine ⟨?_, h3⟩
  rw [hop] at h2
  exact (List.perm_ext_iff_of_nodup List.nodup_range h1).2 fun i => (h2 i).symm
/-! ### A region -/
/-- The interpreter's state, beside the machine's. -/
structure StRel (X : Ctx) (base nt : Nat) (W : Nat → Prop) (μ : Mu) (st : St) (a : Act) (w : World) : Prop where
  sim : Sim X base W μ st.heap w
  env : ∀ t, Rep w W μ (a.tmps.getD t undef) (st.env t)
  nt : a.tmps.size = nt
  defers : a.defers = []
  free : ∀ b, st.next ≤ b → μ b = none
/-- What a part of a body may have named. -/
def Named (μ μ' : Mu) (lo hi : Nat) : Prop := lo ≤ hi ∧ ∀ b, μ' b ≠ none → μ b ≠ none ∨ (lo ≤ b ∧ b < hi)
theorem Named.trans {μ μ1 μ2 : Mu} {a b c : Nat} (h : Named μ μ1 a b) (k : Named μ1 μ2 b c) : Named μ μ2 a c :=
  ⟨Nat.le_trans h.1 k.1, fun x hx => (k.2 x hx).elim (fun hx => (h.2 x hx).imp (fun y => y) fun y => ⟨y.1, Nat.lt_of_lt_of_le y.2 k.1⟩) fun hx => .inr ⟨Nat.le_trans h.1 hx.1, hx.2⟩⟩
theorem Named.refl (μ : Mu) (n : Nat) : Named μ μ n n := ⟨Nat.le_refl _, fun _ h => .inl h⟩
theorem wanted_sound {base : Nat} {W : Nat → Prop} {μ : Mu} {w : World} {a : Act} {env : Nat → AV} (henv : ∀ t, Rep w W μ (a.tmps.getD t undef) (env t)) {o : Oper} {b : Bool} (hw : wantedA ops env o = some b) :
    Region.wanted o (yielded ops a.tmps) = b := by
  unfold wantedA at hw
  unfold Region.wanted
  cases hg : o.guard with
  | none => rw [hg] at hw; simp only [Option.some.injEq] at hw; exact hw
  | some g =>
    obtain ⟨j, want⟩ := g
    rw [hg] at hw
    simp only at hw ⊢
    unfold yielded
    cases hj : ops[j]? with
    | none => rw [hj] at hw; simp only [Option.some.injEq] at hw; subst hw; rfl
    | some p =>
      rw [hj] at hw
      simp only at hw
      cases hd : p.dst with
      | none => rw [hd] at hw; simp only [Option.some.injEq] at hw; subst hw; simp [hd]
      | some t =>
        rw [hd] at hw
        simp only at hw
        simp only [Option.bind_some, hd]
        have hr := henv t
        simp only [Array.getD_eq_getD_getElem?] at hr
        cases ht : a.tmps[t]? with
        | none =>
          rw [ht] at hr
          simp only [Option.getD_none, undef] at hr
          generalize env t = x at hr hw
          cases hr with
          | tuple _ vs as h1 _ =>
            cases as with
            | nil => simp only [Option.some.injEq] at hw; subst hw; rfl
            | cons y ys => simp at h1
        | some v =>
          rw [ht] at hr
          simp only [Option.getD_some] at hr
          generalize env t = x at hr hw
          cases hr with
          | bool _ p => simp only [Option.some.injEq] at hw; subst hw; cases p <;> cases want <;> rfl
          | tuple _ vs as h1 _ =>
            cases as with
            | nil => simp only [Option.some.injEq] at hw; subst hw; rfl
            | cons y ys => simp at hw
          | _ => simp at hw
theorem putRep {base : Nat} {w w' : World} {W W' : Nat → Prop} {μ μ' : Mu} (hst : Step base w W μ w' W' μ') {a : Act} {env : Nat → AV} (henv : ∀ t, Rep w W μ (a.tmps.getD t undef) (env t)) {dst : Option Tmp} (hd : ∀ t, dst = some t → t < a.tmps.size) {v : Value} {x : AV} (hx : Rep w' W' μ' v x) :
    ∀ t, Rep w' W' μ' ((a.put dst v).tmps.getD t undef) (putEnv env dst x t) := by
  intro t
  cases dst with
  | none => exact (henv t).step hst
  | some d =>
    simp only [Act.put, putEnv, upd, Array.getD_eq_getD_getElem?, Array.getElem?_setIfInBounds]
    by_cases htd : t = d
    · subst htd
      rw [if_pos rfl, if_pos rfl, if_pos (hd t rfl)]
      exact hx
    · rw [if_neg (fun e => htd e.symm), if_neg htd]
      have := (henv t).step hst
      simpa [Array.getD_eq_getD_getElem?] using this
theorem put_size (a : Act) (d : Option Tmp) (v : Value) : (a.put d v).tmps.size = a.tmps.size ∧ (a.put d v).defers = a.defers := by
  cases d <;> simp [Act.put]
/-- Operations in some order. -/
theorem exec_sound {base nt : Nat} (hcs : CallSound X call) (hdst : ∀ (i : Nat) (o : Oper), ops[i]? = some o → ∀ t, o.dst = some t → t < nt) {b0 : Nat} : ∀ (l : List Nat), l.Nodup → (∀ i ∈ l, i < ops.size) →
    ∀ (st st' : St) (a : Act) (w : World) (W : Nat → Prop) (μ : Mu), execL X call ops b0 l st = some st' → StRel X base nt W μ st a w → b0 + 8 * ops.size ≤ st.next → (∀ i ∈ l, ∀ k, k < 8 → μ (b0 + 8 * i + k) = none) →
    ∀ (Q : Exit → Act → World → Prop), (∀ a' w' W' μ', Step base w W μ w' W' μ' → StRel X base nt W' μ' st' a' w' → st.next ≤ st'.next → (∀ b, μ' b ≠ none → μ b ≠ none ∨ (∃ i ∈ l, b0 + 8 * i ≤ b ∧ b < b0 + 8 * i + 8) ∨ (st.next ≤ b ∧ b < st'.next)) → Q .normal a' w') → wpOps X.P ops Q l a w := by
  intro l
  induction l with
  | nil =>
    intro _ _ st st' a w W μ he hr _ _ Q hQ
    simp only [execL, Option.some.injEq] at he
    subst he
    exact hQ a w W μ (Step.refl _ _ _ _) hr (Nat.le_refl _) fun b hb => .inl hb
  | cons i l ih =>
    intro hnd hlt st st' a w W μ he hr hnext hfree Q hQ
    have hilt := hlt i (by simp)
    have ho : ops[i]? = some ops[i] := Array.getElem?_eq_getElem hilt
    generalize ops[i] = o at ho
    obtain ⟨hni, hnd'⟩ := List.nodup_cons.1 hnd
    rw [execL, ho] at he
    obtain ⟨⟨st1, e⟩, h1, h2⟩ := nx_eq_some.1 he
    simp only at h2
    obtain ⟨hg, hst1⟩ := stepOp_some.1 h1
    simp only [wpOps, ho]
    have hd : ∀ t, o.dst = some t → t < a.tmps.size := fun t ht => by rw [hr.nt]; exact hdst i o ho t ht
    -- the rest, from a state that fits
    have rest : ∀ (v : Value) (w1 : World) (W1 : Nat → Prop) (μ1 : Mu), Step base w W μ w1 W1 μ1 → StRel X base nt W1 μ1 st1 (a.put o.dst v) w1 → st.next ≤ st1.next →
        (∀ b, μ1 b ≠ none → μ b ≠ none ∨ (b0 + 8 * i ≤ b ∧ b < b0 + 8 * i + 8) ∨ (st.next ≤ b ∧ b < st1.next)) → wpOps X.P ops Q l (a.put o.dst v) w1 := by
      intro v w1 W1 μ1 s1 r1 hn1 hnm
      refine ih hnd' (fun j hj => hlt j (by simp [hj])) st1 st' _ w1 W1 μ1 h2 r1 (by omega) (fun j hj k hk => ?_) Q fun a' w' W' μ' s2 r2 hn2 hnm2 => ?_
      · cases hm : μ1 (b0 + 8 * j + k) with
        | none => rfl
        | some m =>
          have hji : j ≠ i := fun e => by subst e; exact hni hj
          have hjlt := hlt j (by simp [hj])
          rcases hnm (b0 + 8 * j + k) (by simp [hm]) with h | h | h
          · exact absurd (hfree j (by simp [hj]) k hk) h
          · omega
          · omega
      · refine hQ a' w' W' μ' (s1.trans s2) r2 (by omega) fun b hb => ?_
        rcases hnm2 b hb with h | ⟨j, hj, h⟩ | h
        · rcases hnm b h with h | h | h
          · exact .inl h
          · exact .inr (.inl ⟨i, by simp, h⟩)
          · exact .inr (.inr ⟨h.1, by omega⟩)
        · exact .inr (.inl ⟨j, by simp [hj], h⟩)
        · exact .inr (.inr ⟨by omega, h.2⟩)
    cases hw : wantedA ops st.env o with
    | none => rw [hw] at hg; simp [guardedOp] at hg
    | some b =>
      have hwb := wanted_sound (base := base) hr.env hw
      rw [hw] at hg
      cases b with
      | false =>
        simp only [hwb, Bool.false_eq_true, if_false]
        simp only [guardedOp, Option.some.injEq] at hg
        subst hg
        subst hst1
        have hput := putRep (Step.refl base w W μ) hr.env hd (v := undef) (x := .tuple []) (.tuple _ #[] [] rfl (by simp))
        exact rest undef w W μ (Step.refl _ _ _ _) ⟨hr.sim, hput, by rw [(put_size a o.dst undef).1]; exact hr.nt, by rw [(put_size a o.dst undef).2]; exact hr.defers, hr.free⟩ (Nat.le_refl _) (fun b hb => .inl hb)
      | true =>
        simp only [hwb, if_true]
        left
        simp only [guardedOp] at hg
        have hru := evalOp_sound hcs hr.sim hr.env (fun k hk => hfree i (by simp) k hk) hr.free o hg
        have fin : ∀ (v : Value) (w1 : World), EffOut X base W μ st.heap w (b0 + 8 * i) st.next e v w1 → wpOps X.P ops Q l (a.put o.dst v) w1 := by
          intro v w1 ho
          subst hst1
          cases e with
          | loc d =>
            obtain ⟨W1, μ1, s1, m1, r1, n1⟩ := ho
            refine rest v w1 W1 μ1 s1 ⟨m1, putRep s1 hr.env hd r1, by rw [(put_size a o.dst v).1]; exact hr.nt, by rw [(put_size a o.dst v).2]; exact hr.defers, fun b hb => ?_⟩ (Nat.le_refl _) (fun b hb => (n1 b hb).imp (fun h => h) .inl)
            cases hm : μ1 b with
            | none => rfl
            | some m =>
              have hb' : st.next ≤ b := hb
              rcases n1 b (by simp [hm]) with h | h
              · exact absurd (hr.free b hb') h
              · omega
          | glob x h2 n2 =>
            obtain ⟨hnn, W1, μ1, s1, m1, r1, n1⟩ := ho
            refine rest v w1 W1 μ1 s1 ⟨m1, putRep s1 hr.env hd r1, by rw [(put_size a o.dst v).1]; exact hr.nt, by rw [(put_size a o.dst v).2]; exact hr.defers, fun b hb => ?_⟩ hnn (fun b hb => (n1 b hb).imp (fun h => h) .inr)
            cases hm : μ1 b with
            | none => rfl
            | some m =>
              have hb' : n2 ≤ b := hb
              rcases n1 b (by simp [hm]) with h | h
              · exact absurd (hr.free b (by omega)) h
              · omega
        show o.upon X.P a _ Q ((execOp a.eval o).run X.P w)
        rcases hru with ⟨v, w1, hrun, ho⟩ | ⟨w1, hrun, ho⟩ | ⟨f, args, hrun, hcalls⟩
        · rw [hrun]; exact fin v w1 ho
        · rw [hrun]; exact fin undef w1 ho
        · rw [hrun]
          refine Calls.mono hcalls ?_
          rintro en w1 ⟨u, rfl, ho⟩
          exact fin u w1 ho
theorem runText_exec (ops : Array Oper) (b0 : Nat) : ∀ (l : List Oper) (i : Nat) (st : St), (∀ k, k < l.length → ops[i + k]? = l[k]?) → runText X call ops b0 l i st = execL X call ops b0 (List.range' i l.length) st := by
  intro l
  induction l with
  | nil => intro i st _; rfl
  | cons o os ih =>
    intro i st h
    have h0 := h 0 (by simp)
    simp only [Nat.add_zero, List.getElem?_cons_zero] at h0
    rw [List.length_cons, List.range'_succ, execL, h0]
    simp only [runText]
    congr 1
    funext r
    exact ih (i + 1) r.1 fun k hk => by
      have := h (k + 1) (by simp; omega)
      rw [show i + 1 + k = i + (k + 1) by omega, this]; simp
theorem regionOk_facts {nt : Nat} {draw : Bool} (hok : regionOk nt ops draw = true) : (∀ (i : Nat) (o : Oper), ops[i]? = some o → ∀ t, o.dst = some t → t < nt) ∧
    (draw = true → (∀ (i : Nat) (o : Oper), ops[i]? = some o → ∀ e ∈ o.after, Region.binds .any e = true → e.on < i) ∧ ∀ (i j : Nat) (x o : Oper), i < j → ops[i]? = some x → ops[j]? = some o → edgeOn o i = true ∨ Oper.apart ops x o = true) := by
  unfold regionOk at hok
  simp only [Bool.and_eq_true, Bool.or_eq_true, Bool.not_eq_true'] at hok
  obtain ⟨h1, h2⟩ := hok
  constructor
  · intro i o ho t ht
    have := Array.all_eq_true_iff_forall_mem.1 h1 o (Array.mem_of_getElem? ho)
    rw [ht] at this
    simpa using this
  · intro hd
    have h2 := h2.resolve_left (by simp [hd])
    have key : ∀ j o, ops[j]? = some o → (o.after.all (fun e => !Region.binds .any e || decide (e.on < j)) = true) ∧ ((ops.toList.take j).zipIdx.all fun x => edgeOn o x.2 || Oper.apart ops x.1 o) = true := by
      intro j o ho
      have hm : (o, j) ∈ ops.zipIdx := by
        rw [Array.mem_iff_getElem?]
        exact ⟨j, by rw [Array.getElem?_zipIdx, ho]; simp⟩
      have := Array.all_eq_true_iff_forall_mem.1 h2 (o, j) hm
      simpa only [Bool.and_eq_true] using this
    refine ⟨fun i o ho e he hb => ?_, fun i j x o hij hx ho => ?_⟩
    · have := Array.all_eq_true_iff_forall_mem.1 (key i o ho).1 e he
      simpa [hb] using this
    · have hm : (x, i) ∈ (ops.toList.take j).zipIdx := by
        rw [List.mem_iff_getElem?]
        exact ⟨i, by rw [List.getElem?_zipIdx, List.getElem?_take, if_pos hij]; simp [hx]⟩
      have := List.all_eq_true.1 (key j o ho).2 (x, i) hm
      simpa using this
theorem okPairs_facts : ∀ (T : List (Oper × Eff)) (i : Nat), okPairs i T = true → (∀ k k' : Nat, ∀ x y, k < k' → T[k]? = some x → T[k']? = some y → edgeOn y.1 (i + k) = true ∨ x.2.disj y.2 = true) := by
  intro T
  induction T with
  | nil => intro i _ k k' x y _ hx; simp at hx
  | cons z T ih =>
    intro i hok k k' x y hlt hx hy
    obtain ⟨o, e⟩ := z
    simp only [okPairs, Bool.and_eq_true] at hok
    cases k' with
    | zero => omega
    | succ k' =>
      simp only [List.getElem?_cons_succ] at hy
      cases k with
      | zero =>
        simp only [List.getElem?_cons_zero, Option.some.injEq] at hx
        subst hx
        have hw : ∀ (l : List (Oper × Eff)), okWith i e l = true → ∀ y ∈ l, edgeOn y.1 i = true ∨ e.disj y.2 = true := by
          intro l
          induction l with
          | nil => simp
          | cons a as iha =>
            intro h y hy
            simp only [okWith, Bool.and_eq_true, Bool.or_eq_true] at h
            rcases List.mem_cons.1 hy with rfl | hy
            · exact h.1.symm
            · exact iha h.2 y hy
        exact hw T hok.1 y (List.mem_of_getElem? hy)
      | succ k =>
        simp only [List.getElem?_cons_succ] at hx
        have := ih (i + 1) hok.2 k k' x y (by omega) hx hy
        rwa [show i + 1 + k = i + (k + 1) by omega] at this
theorem region_sound {base nt : Nat} (hmix : X.P.follows .mixedOrders = true) (hcs : CallSound X call) {id : Nat} {draw : Bool} (hok : regionOk nt ops draw = true) {st st' : St} (hrun : runRegion X call ops draw st = some st')
    {a : Act} {w : World} {W : Nat → Prop} {μ : Mu} (hr : StRel X base nt W μ st a w) {Q : Exit → Act → World → Prop}
    (hQ : ∀ a' w' W' μ', Step base w W μ w' W' μ' → StRel X base nt W' μ' st' a' w' → Named μ μ' st.next st'.next → Q .normal a' w') : (Code.region id ops draw).wp X.P Q a w := by
  obtain ⟨hdst, hdraw⟩ := regionOk_facts hok
  have fin : ∀ (l : List Nat), (List.range ops.size).Perm l → ∀ (w0 : World), Step base w W μ w0 W μ → StRel X base nt W μ { st with next := st.next + 8 * ops.size } a w0 →
      execL X call ops st.next l { st with next := st.next + 8 * ops.size } = some st' → wpOps X.P ops Q l a w0 := by
    intro l hp w0 hs0 hr0 he
    refine exec_sound hcs hdst l (hp.nodup_iff.1 List.nodup_range) (fun i hi => by simpa using hp.symm.subset hi) _ st' a w0 W μ he hr0 (Nat.le_refl _) (fun i _ k _ => hr.free _ (by omega)) Q fun a' w' W' μ' s1 r1 hn hnm => ?_
    refine hQ a' w' W' μ' (hs0.trans s1) r1 ⟨?_, fun b hb => ?_⟩
    · have : st.next + 8 * ops.size ≤ st'.next := hn
      omega
    · have hn' : st.next + 8 * ops.size ≤ st'.next := hn
      rcases hnm b hb with h | ⟨i, hi, h⟩ | h
      · exact .inl h
      · have : i < ops.size := by simpa using hp.symm.subset hi
        right; omega
      · have h1 : st.next + 8 * ops.size ≤ b := h.1
        right; exact ⟨by omega, h.2⟩
  have hr' : ∀ w0 : World, Sim X base W μ st.heap w0 → (∀ t, Rep w0 W μ (a.tmps.getD t undef) (st.env t)) → StRel X base nt W μ { st with next := st.next + 8 * ops.size } a w0 := fun w0 h1 h2 =>
    ⟨h1, h2, hr.nt, hr.defers, fun b hb => hr.free b (by have : st.next + 8 * ops.size ≤ b := hb; omega)⟩
  unfold runRegion at hrun
  cases draw with
  | false =>
    simp only [Bool.false_eq_true, if_false] at hrun
    refine wp_region (fin _ (List.Perm.refl _) w (Step.refl _ _ _ _) (hr' w hr.sim hr.env) ?_)
    rw [runText_exec ops st.next ops.toList 0 _ (fun k hk => by simp)] at hrun
    rw [List.range_eq_range']
    simpa using hrun
  | true =>
    simp only [if_true] at hrun
    obtain ⟨⟨st2, T⟩, h1, hk⟩ := nx_eq_some.1 hrun
    simp only at hk
    split at hk
    · rename_i hpairs
      simp only [Option.some.injEq] at hk
      subst hk
      obtain ⟨hedge, hapart⟩ := hdraw rfl
      obtain ⟨hruns, hmap⟩ := runs_text _ _ _ _ _ h1
      have hlen : T.length = ops.size := by have := congrArg List.length hmap; simpa using this
      have hTo : ∀ (k : Nat) (x : Oper × Eff), T[k]? = some x → ops[k]? = some x.1 := by
        intro k x hx
        have : (T.map (·.1))[k]? = some x.1 := by rw [List.getElem?_map, hx]; rfl
        rw [hmap] at this
        simpa using this
      refine wp_region_draw fun t => ?_
      simp only [Region.schedule, hmix, Bool.true_or, if_true]
      obtain ⟨hp, hres⟩ := lin_all hedge t
      have hd := step_drawn w W μ base
      refine fin _ hp _ hd (hr' _ hr.sim.drawn fun t => (hr.env t).step hd) ?_
      refine reorder _ _ _ _ hruns ?_ ?_ ?_ hres
      · intro d hd
        obtain ⟨x, hx, rfl⟩ := List.mem_map.1 hd
        obtain ⟨k, hk⟩ := List.mem_iff_getElem?.1 hx
        rw [List.getElem?_zipIdx] at hk
        obtain ⟨y, hy, rfl⟩ := Option.map_eq_some_iff.1 hk
        simpa using hTo k y hy
      · rw [List.pairwise_map, List.pairwise_iff_getElem]
        intro k k' hk hk' hlt
        simp only [List.length_zipIdx] at hk hk'
        simp only [List.getElem_zipIdx, Nat.zero_add]
        have e1 := List.getElem?_eq_getElem hk
        have e2 := List.getElem?_eq_getElem hk'
        rcases okPairs_facts T 0 hpairs k k' _ _ hlt e1 e2 with h | h
        · left; simpa using h
        · rcases hapart k k' _ _ hlt (hTo k _ e1) (hTo k' _ e2) with h' | h'
          · exact .inl h'
          · exact .inr ⟨h', h⟩
      · have : (T.zipIdx.map fun x => (⟨x.2, x.1.1, x.1.2⟩ : Did)).map (·.i) = List.range ops.size := by
          rw [List.map_map]
          have : ((fun d : Did => d.i) ∘ fun x : (Oper × Eff) × Nat => (⟨x.2, x.1.1, x.1.2⟩ : Did)) = Prod.snd := rfl
          rw [this, ← hlen]
          apply List.ext_getElem?
          intro k
          rw [List.getElem?_map, List.getElem?_zipIdx]
          by_cases hk : k < T.length
          · rw [List.getElem?_eq_getElem hk, List.getElem?_range hk]; simp
          · rw [List.getElem?_eq_none (by omega), List.getElem?_eq_none (by simp; omega)]; rfl
        rw [this]
        exact hp
    · simp at hk
end Go.Proofs.YtjccikgdebgebaaGreatDoor.Abs
end
section
namespace Go.Proofs.YtjccikgdebgebaaGreatDoor.Abs
open Go
variable {X : Ctx}
def exitOf : Ex → Exit
  | .normal => .normal
  | .exit i => .exit i
  | .ret => .ret
def CSound (X : Ctx) (nt : Nat) (c : Code) (f : St → Option (Ex × St)) : Prop := ∀ (st : St) (ex : Ex) (st' : St), f st = some (ex, st') → ∀ (base : Nat) (W : Nat → Prop) (μ : Mu) (a : Act) (w : World), StRel X base nt W μ st a w →
  ∀ Q : Exit → Act → World → Prop, (∀ a' w' W' μ', Step base w W μ w' W' μ' → StRel X base nt W' μ' st' a' w' → Named μ μ' st.next st'.next → Q (exitOf ex) a' w') → c.wp X.P Q a w
theorem exits_then {Q : Exit → Act → World → Prop} {K : Act → World → Prop} {ex : Ex} (hne : ex ≠ .normal) {a : Act} {w : World} (h : Q (exitOf ex) a w) : Exit.then K Q (exitOf ex) a w := by
  cases ex with
  | normal => exact absurd rfl hne
  | exit i => exact h
  | ret => exact h
theorem runWith_sound (hmix : X.P.follows .mixedOrders = true) {call : CallFn} {lp : Code → St → Option (Ex × St)} {nt : Nat} (hcs : CallSound X call) (hlp : ∀ b, codeOk nt b = true → CSound X nt (.loop b) (lp b)) :
    ∀ c, codeOk nt c = true → CSound X nt c (runWith X call lp c) := by
  intro c
  induction c with
  | skip =>
    intro _ st ex st' h base W μ a w hr Q hQ
    simp only [runWith, Option.some.injEq, Prod.mk.injEq] at h
    obtain ⟨rfl, rfl⟩ := h
    exact wp_skip (hQ a w W μ (Step.refl _ _ _ _) hr (Named.refl _ _))
  | label l =>
    intro _ st ex st' h base W μ a w hr Q hQ
    simp only [runWith, Option.some.injEq, Prod.mk.injEq] at h
    obtain ⟨rfl, rfl⟩ := h
    exact wp_label (hQ a w W μ (Step.refl _ _ _ _) hr (Named.refl _ _))
  | exit i =>
    intro _ st ex st' h base W μ a w hr Q hQ
    simp only [runWith, Option.some.injEq, Prod.mk.injEq] at h
    obtain ⟨rfl, rfl⟩ := h
    exact wp_exit (hQ a w W μ (Step.refl _ _ _ _) hr (Named.refl _ _))
  | ret =>
    intro _ st ex st' h base W μ a w hr Q hQ
    simp only [runWith, Option.some.injEq, Prod.mk.injEq] at h
    obtain ⟨rfl, rfl⟩ := h
    exact wp_ret (hQ a w W μ (Step.refl _ _ _ _) hr (Named.refl _ _))
  | region i ops draw =>
    intro hok st ex st' h base W μ a w hr Q hQ
    obtain ⟨st1, h1, hk⟩ := mp_eq_some.1 h
    simp only [Prod.mk.injEq] at hk
    obtain ⟨rfl, rfl⟩ := hk
    exact region_sound hmix hcs hok h1 hr hQ
  | seq x y ihx ihy =>
    intro hok st ex st' h base W μ a w hr Q hQ
    simp only [codeOk, Bool.and_eq_true] at hok
    obtain ⟨⟨e, st1⟩, h1, hk⟩ := nx_eq_some.1 h
    refine wp_seq (ihx hok.1 st e st1 h1 base W μ a w hr _ fun a1 w1 W1 μ1 s1 r1 n1 => ?_)
    cases e with
    | normal =>
      exact ihy hok.2 st1 ex st' hk base W1 μ1 a1 w1 r1 Q fun a2 w2 W2 μ2 s2 r2 n2 => hQ a2 w2 W2 μ2 (s1.trans s2) r2 (n1.trans n2)
    | exit i =>
      simp only [Option.some.injEq, Prod.mk.injEq] at hk
      obtain ⟨rfl, rfl⟩ := hk
      exact hQ a1 w1 W1 μ1 s1 r1 n1
    | ret =>
      simp only [Option.some.injEq, Prod.mk.injEq] at hk
      obtain ⟨rfl, rfl⟩ := hk
      exact hQ a1 w1 W1 μ1 s1 r1 n1
  | cond c x y ihx ihy =>
    intro hok st ex st' h base W μ a w hr Q hQ
    simp only [codeOk, Bool.and_eq_true] at hok
    obtain ⟨v, hv, hk⟩ := nx_eq_some.1 h
    have hrep := evalA_sound hr.sim hr.env c v hv
    generalize hax : a.eval c = vx at hrep
    cases hrep with
    | bool _ t =>
      cases t with
      | true => exact wp_cond_true hax (ihx hok.1 st ex st' (by simpa using hk) base W μ a w hr Q hQ)
      | false => exact wp_cond_false hax (ihy hok.2 st ex st' (by simpa using hk) base W μ a w hr Q hQ)
    | _ => simp at hk
  | block i b ih =>
    intro hok st ex st' h base W μ a w hr Q hQ
    obtain ⟨⟨e, st1⟩, h1, hk⟩ := mp_eq_some.1 h
    refine wp_block (ih hok st e st1 h1 base W μ a w hr _ fun a1 w1 W1 μ1 s1 r1 n1 => ?_)
    cases e with
    | normal =>
      simp only [Prod.mk.injEq] at hk
      obtain ⟨rfl, rfl⟩ := hk
      exact hQ a1 w1 W1 μ1 s1 r1 n1
    | exit j =>
      simp only at hk
      show (if j = i then Q .normal a1 w1 else Q (.exit j) a1 w1)
      split
      · rename_i hji
        rw [if_pos hji] at hk
        simp only [Prod.mk.injEq] at hk
        obtain ⟨rfl, rfl⟩ := hk
        exact hQ a1 w1 W1 μ1 s1 r1 n1
      · rename_i hji
        rw [if_neg hji] at hk
        simp only [Prod.mk.injEq] at hk
        obtain ⟨rfl, rfl⟩ := hk
        exact hQ a1 w1 W1 μ1 s1 r1 n1
    | ret =>
      simp only [Prod.mk.injEq] at hk
      obtain ⟨rfl, rfl⟩ := hk
      exact hQ a1 w1 W1 μ1 s1 r1 n1
  | scope b ih =>
    intro hok st ex st' h base W μ a w hr Q hQ
    refine wp_scope_straight (ih hok st ex st' h base W μ a w hr _ fun a1 w1 W1 μ1 s1 r1 n1 => ?_)
    have := hQ a1 w1 W1 μ1 s1 r1 n1
    cases ex <;> exact this
  | loop b ih =>
    intro hok st ex st' h
    exact hlp b hok st ex st' h
  | rangeFunc f ps x b _ _ => intro _ st ex st' h; simp [runWith] at h
  | goto l => intro _ st ex st' h; simp [runWith] at h
  | refuse y => intro _ st ex st' h; simp [runWith] at h
/-- One result. -/
def resOf (a : Act) : ResultVar → Sem Value
  | .tmp t => pure (a.tmps.getD t undef)
  | .cell x t => do loadVar t (← asAddr (a.tmps.getD x undef))
theorem loadRes_sound {base nt : Nat} {W : Nat → Prop} {μ : Mu} {st : St} {a : Act} {w : World} (hr : StRel X base nt W μ st a w) {r : ResultVar} {v : AV} (h : loadRes X st r = some v) :
    ∃ u, (resOf a r).run X.P w = .ok u w ∧ Rep w W μ u v := by
  cases r with
  | tmp t =>
    simp only [loadRes, Option.some.injEq] at h
    subst h
    exact ⟨_, rfl, hr.env t⟩
  | cell x t =>
    obtain ⟨e, he, hk⟩ := nx_eq_some.1 h
    have hx := hr.env x
    obtain ⟨d, u, rfl, _, hrun, hrep⟩ := load_sound hr.sim hx he
    simp only [Option.some.injEq] at hk
    subst hk
    refine ⟨u, ?_, hrep⟩
    show Sem.run X.P (do let q ← asAddr (a.tmps.getD x undef); loadVar t q) w = _
    generalize a.tmps.getD x undef = p at hx hrun ⊢
    generalize st.env x = y at hx he
    have hcs : ∃ cs, cellsAt st.heap y = some cs := by
      unfold aLoad at he
      split at he
      · rename_i hc; exact ⟨_, hc⟩
      · rename_i hc; exact ⟨_, hc⟩
      · simp at he
    obtain ⟨cs, hcs⟩ := hcs
    obtain ⟨B, o, rfl, _⟩ := cellsAt_sound hr.sim hx hcs
    exact hrun
theorem loadRess_sound {base nt : Nat} {W : Nat → Prop} {μ : Mu} {st : St} {a : Act} {w : World} (hr : StRel X base nt W μ st a w) : ∀ {l : List ResultVar} {vs : List AV}, loadRess X st l = some vs →
    ∃ us : List Value, (l.mapM (resOf a)).run X.P w = .ok us w ∧ us.length = vs.length ∧ ∀ (i : Nat) (u : Value) (v : AV), us[i]? = some u → vs[i]? = some v → Rep w W μ u v := by
  intro l
  induction l with
  | nil => intro vs h; simp only [loadRess, Option.some.injEq] at h; subst h; exact ⟨[], rfl, rfl, by simp⟩
  | cons r rs ih =>
    intro vs h
    obtain ⟨v, hv, hk⟩ := nx_eq_some.1 h
    obtain ⟨ws, hw, rfl⟩ := mp_eq_some.1 hk
    obtain ⟨u, hu, hrep⟩ := loadRes_sound hr hv
    obtain ⟨us, h1, h2, h3⟩ := ih hw
    refine ⟨u :: us, ?_, by simp [h2], fun i x y hx hy => ?_⟩
    · simp only [List.mapM_cons, Sem.run_bind, Result.andThen, Sem.run_pure, hu, h1]
    · cases i with
      | zero => simp at hx hy; subst hx; subst hy; exact hrep
      | succ i => exact h3 i x y (by simpa using hx) (by simpa using hy)
theorem results_eq (fn : Func) (a : Act) : results fn a.tmps = (do let vs ← fn.results.mapM (resOf a); pure (if h : vs.size = 1 then vs[0] else .tuple vs)) := by
  unfold results
  congr 1
theorem results_sound {base nt : Nat} {W : Nat → Prop} {μ : Mu} {st : St} {a : Act} {w : World} (hr : StRel X base nt W μ st a w) {fn : Func} {v : AV} (h : resultsA X fn st = some v) :
    ∃ u, (results fn a.tmps).run X.P w = .ok u w ∧ Rep w W μ u v := by
  obtain ⟨vs, hvs, hk⟩ := mp_eq_some.1 h
  obtain ⟨us, h1, h2, h3⟩ := loadRess_sound hr hvs
  have hrun : (results fn a.tmps).run X.P w = .ok (if h : us.toArray.size = 1 then us.toArray[0] else .tuple us.toArray) w := by
    rw [results_eq, Array.mapM_eq_mapM_toList]
    simp only [Sem.run_bind, Sem.run_map, Result.andThen]
    rw [h1]
    simp only [Sem.run_pure]
  refine ⟨_, hrun, ?_⟩
  cases vs with
  | nil =>
    have : us = [] := by simpa using h2
    subst this
    subst hk
    exact .tuple _ _ _ rfl (by simp)
  | cons x xs =>
    cases xs with
    | nil =>
      cases us with
      | nil => simp at h2
      | cons u us =>
        have : us = [] := by simpa using h2
        subst this
        subst hk
        exact h3 0 u x (by simp) (by simp)
    | cons y ys =>
      subst hk
      have : ¬ us.toArray.size = 1 := by simp [h2]
      rw [dif_neg this]
      exact .tuple _ _ _ (by simpa using h2) fun i v a hv ha => h3 i v a (by simpa using hv) ha
theorem callWith_sound (hsp : SpecSound X) {rn : Code → St → Option (Ex × St)} (hcode : ∀ (nt : Nat) (c : Code), codeOk nt c = true → CSound X nt c (rn c)) : CallSound X (callWith X rn) := by
  refine ⟨hsp, ?_⟩
  intro f args h next v h' next' hc
  unfold callWith at hc
  split at hc
  · simp at hc
  rename_i fn hf
  split at hc
  · simp at hc
  rename_i c hb
  split at hc
  · rename_i hok
    simp only [Bool.and_eq_true] at hok
    obtain ⟨hok, hlen⟩ := hok
    have hok' := hok
    unfold funcOk at hok'
    rw [hb] at hok'
    simp only [Bool.and_eq_true, decide_eq_true_eq] at hok'
    obtain ⟨⟨hcode', _⟩, hnt⟩ := hok'
    obtain ⟨⟨ex, st⟩, hrun, hk⟩ := nx_eq_some.1 hc
    have hres : (ex = .normal ∨ ex = .ret) ∧ ∃ r, resultsA X fn st = some r ∧ v = r ∧ h' = st.heap ∧ next' = st.next := by
      cases ex with
      | normal =>
        obtain ⟨r, hr, hk⟩ := mp_eq_some.1 hk
        simp only [Prod.mk.injEq] at hk
        exact ⟨.inl rfl, r, hr, hk.1.symm, hk.2.1.symm, hk.2.2.symm⟩
      | ret =>
        obtain ⟨r, hr, hk⟩ := mp_eq_some.1 hk
        simp only [Prod.mk.injEq] at hk
        exact ⟨.inr rfl, r, hr, hk.1.symm, hk.2.1.symm, hk.2.2.symm⟩
      | exit i => simp at hk
    obtain ⟨hex, r, hr, rfl, rfl, rfl⟩ := hres
    have hsz : args.length = fn.params.size + fn.nfree := by simpa using hlen
    have hcs := hcode fn.ntmps c hcode' _ ex st hrun
    have main : ∀ (base : Nat) (W : Nat → Prop) (μ : Mu) (w : World) (vals : Array Value), Sim X base W μ h w → (∀ b, next ≤ b → μ b = none) → ArgsRep w W μ vals args →
        StRel X base fn.ntmps W μ ⟨argEnv args, h, next⟩ { tmps := vals ++ Array.replicate (fn.ntmps - vals.size) undef, defers := [] } w := by
      intro base W μ w vals hs hfree ha
      refine ⟨hs, fun t => ?_, by simp [ha.1]; omega, rfl, hfree⟩
      simp only [argEnv, Array.getD_eq_getD_getElem?, List.getD_eq_getElem?_getD]
      by_cases ht : t < vals.size
      · rw [Array.getElem?_append_left ht, Array.getElem?_eq_getElem ht, List.getElem?_eq_getElem (by rw [← ha.1]; exact ht)]
        exact ha.2 t _ _ (Array.getElem?_eq_getElem ht) (List.getElem?_eq_getElem (by rw [← ha.1]; exact ht))
      · rw [Array.getElem?_append_right (by omega), List.getElem?_eq_none (by rw [← ha.1]; omega), Array.getElem?_replicate]
        split <;> exact .tuple _ #[] [] rfl (by simp)
    refine ⟨⟨fn, hf, hok⟩, fun base W μ w vals hs hfree ha => ?_⟩
    · refine calls_of_wp hf hb (hcs base W μ _ w (main base W μ w vals hs hfree ha) _ fun a' w' W' μ' s1 r1 n1 => ?_)
      obtain ⟨u, hu, hrep⟩ := results_sound r1 hr
      rcases hex with rfl | rfl
      · exact ⟨r1.defers, u, hu, u, W', μ', rfl, s1, r1.sim, hrep, n1.1, n1.2⟩
      · exact ⟨r1.defers, u, hu, u, W', μ', rfl, s1, r1.sim, hrep, n1.1, n1.2⟩
  · simp at hc
/-- Both, at any bound on the rounds. -/
theorem run_sound (hmix : X.P.follows .mixedOrders = true) (hsp : SpecSound X) : ∀ n : Nat, ∀ (nt : Nat) (c : Code), codeOk nt c = true → CSound X nt c (run X n c) := by
  have loops : ∀ n : Nat, (∀ (nt : Nat) (c : Code), codeOk nt c = true → CSound X nt c (run X n c)) → (∀ (nt : Nat) (b : Code), codeOk nt b = true → ∀ (st : St) (ex : Ex) (st' : St), run X n (.loop b) st = some (ex, st') →
      ∀ (base : Nat) (W : Nat → Prop) (μ : Mu) (a : Act) (w : World), StRel X base nt W μ st a w → ∀ Q : Exit → Act → World → Prop, (∀ a' w' W' μ', Step base w W μ w' W' μ' → StRel X base nt W' μ' st' a' w' → Named μ μ' st.next st'.next → Q (exitOf ex) a' w') → Code.rounds X.P b Q n a w) →
      ∀ (nt : Nat) (b : Code), codeOk nt b = true → ∀ (st : St) (ex : Ex) (st' : St), lpN (run X n) b st = some (ex, st') →
      ∀ (base : Nat) (W : Nat → Prop) (μ : Mu) (a : Act) (w : World), StRel X base nt W μ st a w → ∀ Q : Exit → Act → World → Prop, (∀ a' w' W' μ', Step base w W μ w' W' μ' → StRel X base nt W' μ' st' a' w' → Named μ μ' st.next st'.next → Q (exitOf ex) a' w') → Code.rounds X.P b Q (n + 1) a w := by
    intro n hc hl nt b hok st ex st' h base W μ a w hr Q hQ
    rw [rounds_succ]
    obtain ⟨⟨e, st1⟩, h1, hk⟩ := nx_eq_some.1 h
    refine hc nt b hok st e st1 h1 base W μ a w hr _ fun a1 w1 W1 μ1 s1 r1 n1 => ?_
    cases e with
    | normal => exact hl nt b hok st1 ex st' hk base W1 μ1 a1 w1 r1 Q fun a2 w2 W2 μ2 s2 r2 n2 => hQ a2 w2 W2 μ2 (s1.trans s2) r2 (n1.trans n2)
    | exit i =>
      simp only [Option.some.injEq, Prod.mk.injEq] at hk
      obtain ⟨rfl, rfl⟩ := hk
      exact hQ a1 w1 W1 μ1 s1 r1 n1
    | ret =>
      simp only [Option.some.injEq, Prod.mk.injEq] at hk
      obtain ⟨rfl, rfl⟩ := hk
      exact hQ a1 w1 W1 μ1 s1 r1 n1
  have both : ∀ n : Nat, (∀ (nt : Nat) (c : Code), codeOk nt c = true → CSound X nt c (run X n c)) ∧ (∀ (nt : Nat) (b : Code), codeOk nt b = true → ∀ (st : St) (ex : Ex) (st' : St), run X n (.loop b) st = some (ex, st') →
      ∀ (base : Nat) (W : Nat → Prop) (μ : Mu) (a : Act) (w : World), StRel X base nt W μ st a w → ∀ Q : Exit → Act → World → Prop, (∀ a' w' W' μ', Step base w W μ w' W' μ' → StRel X base nt W' μ' st' a' w' → Named μ μ' st.next st'.next → Q (exitOf ex) a' w') → Code.rounds X.P b Q n a w) := by
    intro n
    induction n with
    | zero => exact ⟨fun nt c _ st ex st' h => by simp [run] at h, fun nt b _ st ex st' h => by simp [run] at h⟩
    | succ n ih =>
      have hl := loops n ih.1 ih.2
      refine ⟨fun nt c hok => ?_, fun nt b hok st ex st' h => hl nt b hok st ex st' h⟩
      exact runWith_sound hmix (callWith_sound hsp ih.1) (fun b hok st ex st' h base W μ a w hr Q hQ => wp_loop_rounds (n + 1) (hl nt b hok st ex st' h base W μ a w hr Q hQ)) c hok
  exact fun n => (both n).1
theorem callI_sound (hmix : X.P.follows .mixedOrders = true) (hsp : SpecSound X) : CallSound X (callI X) := by
  refine ⟨hsp, ?_⟩
  intro f args h next v h' next' hc
  obtain ⟨c, st, x, hx, hk⟩ := callWith_uses X hc
  obtain ⟨n, hn⟩ := (D_some X).1 hx
  exact (callWith_sound hsp (run_sound hmix hsp n)).2 f args h next v h' next' (hk _ hn)
/-- The arguments of a call, immutable, and the package-level variables. -/
structure Starts (X : Ctx) (w : World) (vals : Array Value) (args : List AV) : Prop where
  glob : ∀ g cs, X.G g = some cs → g < w.heap.size ∧ ∃ us : Nat → Value, ∀ (i : Nat) (a : AV), cs[i]? = some a → w.cell? ⟨g, i, none⟩ = some (us i) ∧ Rep w (fun _ => False) noMu (us i) a ∧ a.isCell = true
  args : ArgsRep w (fun _ => False) noMu vals args
/-- ████ What the interpreter computes, the machine's call does; of what was there nothing is turned. ████ -/
theorem sound (hmix : X.P.follows .mixedOrders = true) (hsp : SpecSound X) {f : FuncId} (hns : (X.mode f).isSpec = false) {args : List AV} {r : AV} (hm : M X f args = some r) (hs : r.noRef = true) {w : World} {vals : Array Value} (hst : Starts X w vals args) :
    Calls X.P f vals w fun e w' => ∃ u, e = .returned u ∧ Rep w' (fun _ => False) noMu u r ∧ RowKit.Below w.heap.size w w' := by
  rw [M_def X hns] at hm
  obtain ⟨⟨v, h2, n2⟩, hc, hk⟩ := nx_eq_some.1 hm
  obtain ⟨_, hcall⟩ := (callI_sound hmix hsp).2 f args emptyHeap 0 v h2 n2 hc
  have hsim : Sim X w.heap.size (fun _ => False) noMu emptyHeap w :=
    { obj := fun b o hb => by simp [emptyHeap] at hb, inj := fun b b' B o o' hb => by simp [emptyHeap] at hb, glob := fun g cs hg => ⟨(hst.glob g cs hg).1, fun h => h, (hst.glob g cs hg).2⟩, wlt := fun _ h => h.elim, ble := Nat.le_refl _ }
  refine (hcall w.heap.size (fun _ => False) noMu w vals hsim (fun _ _ => rfl) hst.args).mono ?_
  rintro e w' ⟨u, W2, μ2, rfl, p1, p2, p3, _⟩
  have hmd : (∃ x ids, snap h2 depthA v = some (x, ids) ∧ r = x.weak) ∨ (∃ x, resultTop h2 depthA v = some x ∧ r = x.weak) := by
    simp only at hk
    split at hk
    · obtain ⟨⟨x, jds⟩, h1, h2⟩ := mp_eq_some.1 hk; exact .inl ⟨x, jds, h1, h2.symm⟩
    · obtain ⟨x, h1, h2⟩ := mp_eq_some.1 hk; exact .inr ⟨x, h1, h2.symm⟩
    · simp at hk
  have hinst : instantiate 0 r = some (r, []) := by
    have one : ∀ (a : AV) (j : Nat), a.noRef = true → inst1 0 j a = some (a, [], j) := by
      intro a j ha
      cases a <;> first
        | (simp [AV.noRef] at ha; done)
        | rfl
    have many : ∀ (l : List AV) (j : Nat), AV.noRef.go l = true → insts 0 j l = some (l, []) := by
      intro l
      induction l with
      | nil => intro j _; rfl
      | cons a as ih =>
        intro j hl
        simp only [AV.noRef.go, Bool.and_eq_true] at hl
        simp [insts, one a j hl.1, ih j hl.2, nx, mp]
    cases r <;> first
      | (simp [AV.noRef] at hs; done)
      | (simp only [instantiate, many _ 0 hs, mp]; done)
      | (simp only [instantiate, one _ 0 hs, mp]; done)
  obtain ⟨W3, μ', _, _, q3, _⟩ := pure_out (base := w.heap.size) (h := emptyHeap) hsim p1 p2 p3 (id := 0) (fun _ _ => rfl) hinst hmd
  exact ⟨u, rfl, q3.scalar hs _, ⟨p1.os, p1.tape, p1.output, p1.size, fun k hk => p1.same k (by exact hk) (.inl hk)⟩⟩
end Go.Proofs.YtjccikgdebgebaaGreatDoor.Abs
end
section
namespace Go.Proofs.YtjccikgdebgebaaGreatDoor.Abs
open Go
variable {X : Ctx}
/-- What was there before a call stays. -/
structure Frame (base : Nat) (w : World) (W : Nat → Prop) (w' : World) (W' : Nat → Prop) : Prop where
  os : w'.os = w.os
  tape : w'.tape = w.tape
  output : w'.output = w.output
  size : w.heap.size ≤ w'.heap.size
  same : ∀ B, B < base → w'.heap[B]? = w.heap[B]?
  iff : ∀ B, B < base → (W' B ↔ W B)
  drawn : w.drawn ≤ w'.drawn
theorem Frame.refl (base : Nat) (w : World) (W : Nat → Prop) : Frame base w W w W := ⟨rfl, rfl, rfl, Nat.le_refl _, fun _ _ => rfl, fun _ _ => Iff.rfl, Nat.le_refl _⟩
theorem Frame.trans {base : Nat} {w w1 w2 : World} {W W1 W2 : Nat → Prop} (h : Frame base w W w1 W1) (k : Frame base w1 W1 w2 W2) : Frame base w W w2 W2 :=
  ⟨k.os.trans h.os, k.tape.trans h.tape, k.output.trans h.output, Nat.le_trans h.size k.size, fun B hB => (k.same B hB).trans (h.same B hB), fun B hB => (k.iff B hB).trans (h.iff B hB), Nat.le_trans h.drawn k.drawn⟩
theorem Frame.ofStep {base : Nat} {w w' : World} {W W' : Nat → Prop} {μ μ' : Mu} (hb : base ≤ w.heap.size) (h : Step base w W μ w' W' μ') : Frame base w W w' W' :=
  ⟨h.os, h.tape, h.output, h.size, fun B hB => h.same B (Nat.lt_of_lt_of_le hB hb) (.inl hB), fun B hB => ⟨h.wsub B (Nat.lt_of_lt_of_le hB hb), h.wsup B hB⟩, h.drawn⟩
/-- Blocks beside the abstract heap, told by what the machine has there. -/
abbrev XH := Nat → Option Go.Obj
def XRel (x : XH) (base : Nat) (W : Nat → Prop) (w : World) : Prop := ∀ B o, x B = some o → base ≤ B ∧ ¬ W B ∧ w.heap[B]? = some o
theorem XRel.step {x : XH} {base : Nat} {w w' : World} {W W' : Nat → Prop} {μ μ' : Mu} (h : XRel x base W w) (hs : Step base w W μ w' W' μ') : XRel x base W' w' := by
  intro B o hx
  obtain ⟨h1, h2, h3⟩ := h B o hx
  have hlt := heap_lt h3
  exact ⟨h1, fun hW => h2 (hs.wsub B hlt hW), by rw [hs.same B hlt (.inr h2)]; exact h3⟩
/-! ### Rows of cells that stay -/
structure SameCells (w w1 : World) : Prop where
  size : w.heap.size ≤ w1.heap.size
  cells : ∀ (B : Nat) (arr : Array Value) (e : TypeId) (f : Nat × Nat), w.heap[B]? = some (Go.Obj.cells arr e f) → w1.heap[B]? = some (Go.Obj.cells arr e f)
theorem SameCells.cell {w w1 : World} (h : SameCells w w1) {B i : Nat} {u : Value} (hc : w.cell? ⟨B, i, none⟩ = some u) : w1.cell? ⟨B, i, none⟩ = some u := by
  unfold World.cell? at hc ⊢
  cases hb : w.heap[B]? with
  | none => simp [hb] at hc
  | some o =>
    cases o with
    | cells arr e f => rw [h.cells B arr e f hb]; simpa [hb] using hc
    | _ => simp [hb] at hc
theorem Rep.world {w w1 : World} {W : Nat → Prop} {μ : Mu} {v : Value} {a : AV} (hs : SameCells w w1) (h : Rep w W μ v a) : Rep w1 W μ v a := by
  induction h with
  | bool μ b => exact .bool μ b
  | int μ k n => exact .int μ k n
  | str μ s => exact .str μ s
  | nilptr μ => exact .nilptr μ
  | nilmap μ => exact .nilmap μ
  | extm μ m => exact .extm μ m
  | extp μ p => exact .extp μ p
  | nilfunc μ => exact .nilfunc μ
  | niliface μ => exact .niliface μ
  | ro0 μ a c full h => exact .ro0 μ a c full h
  | ro μ B o len cap cs full us hB hW hl hf hc _ hi ih => exact .ro μ B o len cap cs full us (Nat.lt_of_lt_of_le hB hs.size) hW hl hf (fun i a ha => hs.cell (hc i a ha)) (fun i a ha => ih i a ha) hi
  | rptr μ B o cs us hB hW hc _ hi ih => exact .rptr μ B o cs us (Nat.lt_of_lt_of_le hB hs.size) hW (fun i a ha => hs.cell (hc i a ha)) (fun i a ha => ih i a ha) hi
  | sl μ b B o off len c cap sz hm hl hk hsh =>
    obtain ⟨arr, e, f, ha, hle⟩ := hsh
    exact .sl μ b B o off len c cap sz hm hl hk ⟨arr, e, f, hs.cells _ _ _ _ ha, hle⟩
  | ptr μ b B o off hm => exact .ptr μ b B o off hm
  | func μ fn f c f' c' h1 h2 _ _ ihf ihc => exact .func μ fn f c f' c' h1 h2 (fun i v a hv ha => ihf i v a hv ha) (fun i v a hv ha => ihc i v a hv ha)
  | iface μ t v a _ ih => exact .iface μ t v a ih
  | agg μ vs as h1 _ hi ih => exact .agg μ vs as h1 (fun i v a hv ha => ih i v a hv ha) hi
  | tuple μ vs as h1 _ ih => exact .tuple μ vs as h1 (fun i v a hv ha => ih i v a hv ha)
theorem Sim.world {base : Nat} {w w1 : World} {W : Nat → Prop} {μ : Mu} {h : Heap} (hs : SameCells w w1) (k : Sim X base W μ h w) : Sim X base W μ h w1 where
  obj b o hb := by
    cases o with
    | cells cs g f =>
      obtain ⟨B, o, arr, e, h1, h2, h3, h4, h5, h6, h7⟩ := k.obj b _ hb
      exact ⟨B, o, arr, e, h1, h2, h3, h4, hs.cells _ _ _ _ h5, h6, fun i a ha => by
        obtain ⟨u, u1, u2, u3⟩ := h7 i a ha
        exact ⟨u, u1, u2.world hs, u3⟩⟩
  inj := k.inj
  glob g cs hg := by
    obtain ⟨h1, h2, us, h3⟩ := k.glob g cs hg
    exact ⟨h1, h2, us, fun i a ha => ⟨hs.cell (h3 i a ha).1, (h3 i a ha).2.1.world hs, (h3 i a ha).2.2⟩⟩
  wlt B hB := Nat.lt_of_lt_of_le (k.wlt B hB) hs.size
  ble := Nat.le_trans k.ble hs.size
/-! ### Code -/
/-- Whatever is left open: the code comes to an outcome that fits. -/
def NW (X : Ctx) (nt : Nat) (c : Code) (st : St) (x : XH) (Φ : Ex → St → XH → Prop) : Prop := ∀ (base : Nat) (W : Nat → Prop) (μ : Mu) (a : Act) (w : World), StRel X base nt W μ st a w → XRel x base W w →
  ∀ Q : Exit → Act → World → Prop, (∀ ex st' x' a' w' W' μ', Φ ex st' x' → Frame base w W w' W' → StRel X base nt W' μ' st' a' w' → XRel x' base W' w' → Q (exitOf ex) a' w') → c.wp X.P Q a w
theorem NW_det (hmix : X.P.follows .mixedOrders = true) (hsp : SpecSound X) {nt : Nat} {c : Code} (hok : codeOk nt c = true) {st : St} {x : XH} {Φ : Ex → St → XH → Prop} {Ψ : Ex → St → Prop} (h : @W X ⟨c⟩ st Ψ) (hi : ∀ e s, Ψ e s → Φ e s x) : NW X nt c st x Φ := by
  obtain ⟨e, s, h1, h2⟩ := h
  have h1 : D X c st = some (e, s) := h1
  obtain ⟨n, hn⟩ := (D_some X).1 h1
  intro base W μ a w hr hx Q hQ
  exact run_sound hmix hsp n nt c hok st e s hn base W μ a w hr Q fun a' w' W' μ' s1 r1 _ => hQ e s x a' w' W' μ' (hi e s h2) (.ofStep hr.sim.ble s1) r1 (hx.step s1)
theorem NW_seq {nt : Nat} {b c : Code} {st : St} {x : XH} {Φ : Ex → St → XH → Prop} (h : NW X nt b st x fun e s x' => match e with | .normal => NW X nt c s x' Φ | e => Φ e s x') : NW X nt (.seq b c) st x Φ := by
  intro base W μ a w hr hx Q hQ
  refine wp_seq (h base W μ a w hr hx _ fun e s x' a' w' W' μ' hp f1 r1 x1 => ?_)
  cases e with
  | normal => exact hp base W' μ' a' w' r1 x1 Q fun ex st' x'' a'' w'' W'' μ'' k1 k2 k3 k4 => hQ ex st' x'' a'' w'' W'' μ'' k1 (f1.trans k2) k3 k4
  | exit i => exact hQ _ s x' a' w' W' μ' hp f1 r1 x1
  | ret => exact hQ _ s x' a' w' W' μ' hp f1 r1 x1
theorem NW_block {nt i : Nat} {b : Code} {st : St} {x : XH} {Φ : Ex → St → XH → Prop} (h : NW X nt b st x fun e s x' => match e with | .exit j => if j = i then Φ .normal s x' else Φ (.exit j) s x' | e => Φ e s x') : NW X nt (.block i b) st x Φ := by
  intro base W μ a w hr hx Q hQ
  refine wp_block (h base W μ a w hr hx _ fun e s x' a' w' W' μ' hp f1 r1 x1 => ?_)
  cases e with
  | normal => exact hQ .normal s x' a' w' W' μ' hp f1 r1 x1
  | ret => exact hQ .ret s x' a' w' W' μ' hp f1 r1 x1
  | exit j =>
    show (if j = i then Q .normal a' w' else Q (.exit j) a' w')
    simp only at hp
    split
    · rename_i hji; rw [if_pos hji] at hp; exact hQ .normal s x' a' w' W' μ' hp f1 r1 x1
    · rename_i hji; rw [if_neg hji] at hp; exact hQ (.exit j) s x' a' w' W' μ' hp f1 r1 x1
theorem NW_scope {nt : Nat} {b : Code} {st : St} {x : XH} {Φ : Ex → St → XH → Prop} (h : NW X nt b st x Φ) : NW X nt (.scope b) st x Φ := by
  intro base W μ a w hr hx Q hQ
  refine wp_scope_straight (h base W μ a w hr hx _ fun e s x' a' w' W' μ' hp f1 r1 x1 => ?_)
  have := hQ e s x' a' w' W' μ' hp f1 r1 x1
  cases e <;> exact this
theorem NW_cond {nt : Nat} {v : Operand} {b c : Code} {st : St} {x : XH} {Φ : Ex → St → XH → Prop} (t : Bool) (hv : evalA X st.env v = some (.bool t)) (h1 : t = true → NW X nt b st x Φ) (h2 : t = false → NW X nt c st x Φ) : NW X nt (.cond v b c) st x Φ := by
  intro base W μ a w hr hx Q hQ
  have hrep := evalA_sound hr.sim hr.env v _ hv
  generalize hax : a.eval v = vx at hrep
  cases hrep
  cases t with
  | true => exact wp_cond_true hax (h1 rfl base W μ a w hr hx Q hQ)
  | false => exact wp_cond_false hax (h2 rfl base W μ a w hr hx Q hQ)
theorem NW_mono {nt : Nat} {c : Code} {st : St} {x : XH} {Φ Ψ : Ex → St → XH → Prop} (h : NW X nt c st x Φ) (hi : ∀ e s x', Φ e s x' → Ψ e s x') : NW X nt c st x Ψ :=
  fun base W μ a w hr hx Q hQ => h base W μ a w hr hx Q fun ex st' x' a' w' W' μ' k => hQ ex st' x' a' w' W' μ' (hi _ _ _ k)
/-- A loop, with an invariant and a measure. -/
theorem NW_loop {α : Type} {nt : Nat} {b : Code} {Φ : Ex → St → XH → Prop} (I : α → St → XH → Prop) (m : α → Nat)
    (step : ∀ g s x, I g s x → NW X nt b s x fun e s' x' => match e with | .normal => ∃ g', I g' s' x' ∧ m g' < m g | e => Φ e s' x') : ∀ g s x, I g s x → NW X nt (.loop b) s x Φ := by
  have key : ∀ n g s x, m g < n → I g s x → ∀ (base : Nat) (W : Nat → Prop) (μ : Mu) (a : Act) (w : World), StRel X base nt W μ s a w → XRel x base W w →
      ∀ Q : Exit → Act → World → Prop, (∀ ex st' x' a' w' W' μ', Φ ex st' x' → Frame base w W w' W' → StRel X base nt W' μ' st' a' w' → XRel x' base W' w' → Q (exitOf ex) a' w') → Code.rounds X.P b Q n a w := by
    intro n
    induction n with
    | zero => intro g s x h; omega
    | succ n ih =>
      intro g s x hm hI base W μ a w hr hx Q hQ
      rw [rounds_succ]
      refine step g s x hI base W μ a w hr hx _ fun e s' x' a' w' W' μ' hp f1 r1 x1 => ?_
      cases e with
      | normal =>
        obtain ⟨g', k1, k2⟩ := hp
        exact ih g' s' x' (by omega) k1 base W' μ' a' w' r1 x1 Q fun ex st' x'' a'' w'' W'' μ'' j1 j2 j3 j4 => hQ ex st' x'' a'' w'' W'' μ'' j1 (f1.trans j2) j3 j4
      | exit i => exact hQ (.exit i) s' x' a' w' W' μ' hp f1 r1 x1
      | ret => exact hQ .ret s' x' a' w' W' μ' hp f1 r1 x1
  intro g s x hI base W μ a w hr hx Q hQ
  exact wp_loop_rounds (m g + 1) (key (m g + 1) g s x (by omega) hI base W μ a w hr hx Q hQ)
end Go.Proofs.YtjccikgdebgebaaGreatDoor.Abs
end
section
namespace Go.Proofs.YtjccikgdebgebaaGreatDoor.Abs
open Go
variable {X : Ctx} {ops : Array Oper}
/-- A part of a region, whatever is left open. -/
def NO (X : Ctx) (nt : Nat) (ops : Array Oper) (b0 : Nat) (l : List Nat) (st : St) (x : XH) (Φ : St → XH → Prop) : Prop := ∀ (base : Nat) (W : Nat → Prop) (μ : Mu) (a : Act) (w : World), StRel X base nt W μ st a w → XRel x base W w →
  b0 + 8 * ops.size ≤ st.next → (∀ i ∈ l, i < ops.size) → (∀ i ∈ l, ∀ k, k < 8 → μ (b0 + 8 * i + k) = none) →
  ∀ Q : Exit → Act → World → Prop, (∀ st' x' a' w' W' μ', Φ st' x' → Frame base w W w' W' → StRel X base nt W' μ' st' a' w' → XRel x' base W' w' → Q .normal a' w') → wpOps X.P ops Q l a w
theorem NW_region {nt id : Nat} {st : St} {x : XH} {Φ : Ex → St → XH → Prop} (h : NO X nt ops st.next (List.range ops.size) { st with next := st.next + 8 * ops.size } x fun s x' => Φ .normal s x') : NW X nt (.region id ops false) st x Φ := by
  intro base W μ a w hr hx Q hQ
  refine wp_region (h base W μ a w ⟨hr.sim, hr.env, hr.nt, hr.defers, fun b hb => hr.free b (by have : st.next + 8 * ops.size ≤ b := hb; omega)⟩ hx (Nat.le_refl _) (fun i hi => by simpa using hi) (fun i _ k _ => hr.free _ (by omega)) Q fun st' x' a' w' W' μ' k1 k2 k3 k4 => hQ .normal st' x' a' w' W' μ' k1 k2 k3 k4)
theorem NO_nil {nt b0 : Nat} {st : St} {x : XH} {Φ : St → XH → Prop} (h : Φ st x) : NO X nt ops b0 [] st x Φ :=
  fun base W μ a w hr hx _ _ _ Q hQ => hQ st x a w W μ h (.refl base w W) hr hx
/-- One operation that the interpreter knows. -/
theorem NO_det (hmix : X.P.follows .mixedOrders = true) (hsp : SpecSound X) {nt b0 i : Nat} {l : List Nat} {o : Oper} (ho : ops[i]? = some o) (hil : i ∉ l) (hdt : ∀ t, o.dst = some t → t < nt) {st st1 : St} {e : Eff} {x : XH} {Φ : St → XH → Prop}
    (h1 : stepOp X (callI X) ops b0 i o st = some (st1, e)) (h : NO X nt ops b0 l st1 x Φ) : NO X nt ops b0 (i :: l) st x Φ := by
  intro base W μ a w hr hx hnext hlt hfree Q hQ
  have hcs := callI_sound hmix hsp
  obtain ⟨hg, hst1⟩ := stepOp_some.1 h1
  simp only [wpOps, ho]
  have hd : ∀ t, o.dst = some t → t < a.tmps.size := fun t ht => by rw [hr.nt]; exact hdt t ht
  have rest : ∀ (v : Value) (w1 : World) (W1 : Nat → Prop) (μ1 : Mu), Step base w W μ w1 W1 μ1 → StRel X base nt W1 μ1 st1 (a.put o.dst v) w1 → st.next ≤ st1.next →
      (∀ b, μ1 b ≠ none → μ b ≠ none ∨ (b0 + 8 * i ≤ b ∧ b < b0 + 8 * i + 8) ∨ (st.next ≤ b ∧ b < st1.next)) → wpOps X.P ops Q l (a.put o.dst v) w1 := by
    intro v w1 W1 μ1 s1 r1 hn1 hnm
    refine h base W1 μ1 _ w1 r1 (hx.step s1) (by omega) (fun j hj => hlt j (by simp [hj])) (fun j hj k hk => ?_) Q fun st' x' a' w' W' μ' k1 k2 k3 k4 => hQ st' x' a' w' W' μ' k1 ((Frame.ofStep hr.sim.ble s1).trans k2) k3 k4
    cases hm : μ1 (b0 + 8 * j + k) with
    | none => rfl
    | some m =>
      have hji : j ≠ i := fun e => by subst e; exact hil hj
      have hfj := hfree j (by simp [hj]) k hk
      rcases hnm (b0 + 8 * j + k) (by simp [hm]) with h | h | h
      · exact absurd hfj h
      · omega
      · have := hlt j (by simp [hj]); omega
  cases hw : wantedA ops st.env o with
  | none => rw [hw] at hg; simp [guardedOp] at hg
  | some b =>
    have hwb := wanted_sound (base := base) hr.env hw
    rw [hw] at hg
    cases b with
    | false =>
      simp only [hwb, Bool.false_eq_true, if_false]
      simp only [guardedOp, Option.some.injEq] at hg
      subst hg
      subst hst1
      have hput := putRep (Step.refl base w W μ) hr.env hd (v := undef) (x := .tuple []) (.tuple _ #[] [] rfl (by simp))
      exact rest undef w W μ (Step.refl _ _ _ _) ⟨hr.sim, hput, by rw [(put_size a o.dst undef).1]; exact hr.nt, by rw [(put_size a o.dst undef).2]; exact hr.defers, hr.free⟩ (Nat.le_refl _) (fun b hb => .inl hb)
    | true =>
      simp only [hwb, if_true]
      left
      simp only [guardedOp] at hg
      have hru := evalOp_sound hcs hr.sim hr.env (fun k hk => hfree i (by simp) k hk) hr.free o hg
      have fin : ∀ (v : Value) (w1 : World), EffOut X base W μ st.heap w (b0 + 8 * i) st.next e v w1 → wpOps X.P ops Q l (a.put o.dst v) w1 := by
        intro v w1 ho
        subst hst1
        cases e with
        | loc d =>
          obtain ⟨W1, μ1, s1, m1, r1, n1⟩ := ho
          refine rest v w1 W1 μ1 s1 ⟨m1, putRep s1 hr.env hd r1, by rw [(put_size a o.dst v).1]; exact hr.nt, by rw [(put_size a o.dst v).2]; exact hr.defers, fun b hb => ?_⟩ (Nat.le_refl _) (fun b hb => (n1 b hb).imp (fun h => h) .inl)
          cases hm : μ1 b with
          | none => rfl
          | some m =>
            have hb' : st.next ≤ b := hb
            rcases n1 b (by simp [hm]) with h | h
            · exact absurd (hr.free b hb') h
            · exfalso
              have hi : i < ops.size := (Array.getElem?_eq_some_iff.1 ‹ops[i]? = some o›).1
              omega
        | glob x h2 n2 =>
          obtain ⟨hnn, W1, μ1, s1, m1, r1, n1⟩ := ho
          refine rest v w1 W1 μ1 s1 ⟨m1, putRep s1 hr.env hd r1, by rw [(put_size a o.dst v).1]; exact hr.nt, by rw [(put_size a o.dst v).2]; exact hr.defers, fun b hb => ?_⟩ hnn (fun b hb => (n1 b hb).imp (fun h => h) .inr)
          cases hm : μ1 b with
          | none => rfl
          | some m =>
            have hb' : n2 ≤ b := hb
            rcases n1 b (by simp [hm]) with h | h
            · exact absurd (hr.free b (by omega)) h
            · omega
      show o.upon X.P a _ Q ((execOp a.eval o).run X.P w)
      rcases hru with ⟨v, w1, hrun, ho⟩ | ⟨w1, hrun, ho⟩ | ⟨f, args, hrun, hcalls⟩
      · rw [hrun]; exact fin v w1 ho
      · rw [hrun]; exact fin undef w1 ho
      · rw [hrun]
        refine Calls.mono hcalls ?_
        rintro en w1 ⟨u, rfl, ho⟩
        exact fin u w1 ho
/-- One operation that is told by the machine: its value (or none), the world behind it. -/
theorem NO_op {nt b0 i : Nat} {l : List Nat} {o : Oper} (ho : ops[i]? = some o) (hg : o.guard = none) (hdt : ∀ t, o.dst = some t → t < nt) {st : St} {x : XH} {Φ : St → XH → Prop} (R : AV → XH → Prop)
    (hrun : ∀ (base : Nat) (W : Nat → Prop) (μ : Mu) (a : Act) (w : World), StRel X base nt W μ st a w → XRel x base W w → ∃ v w1 y x1, ((execOp a.eval o).run X.P w = .ok (.value v) w1 ∨ (execOp a.eval o).run X.P w = .ok .skip w1 ∧ v = undef) ∧
      R y x1 ∧ Rep w1 W μ v y ∧ SameCells w w1 ∧ Frame base w W w1 W ∧ XRel x1 base W w1)
    (h : ∀ y x1, R y x1 → NO X nt ops b0 l { st with env := putEnv st.env o.dst y } x1 Φ) : NO X nt ops b0 (i :: l) st x Φ := by
  intro base W μ a w hr hx hnext hlt hfree Q hQ
  obtain ⟨v, w1, y, x1, hv, hR, hrep, hsc, hfr, hx1⟩ := hrun base W μ a w hr hx
  simp only [wpOps, ho]
  have hwb : Region.wanted o (yielded ops a.tmps) = true := by unfold Region.wanted; rw [hg]
  simp only [hwb, if_true]
  left
  have hd : ∀ t, o.dst = some t → t < a.tmps.size := fun t ht => by rw [hr.nt]; exact hdt t ht
  have henv : ∀ t, Rep w1 W μ (a.tmps.getD t undef) (st.env t) := fun t => (hr.env t).world hsc
  have hput := putRep (Step.refl base w1 W μ) henv hd hrep
  have fin : wpOps X.P ops Q l (a.put o.dst v) w1 :=
    h y x1 hR base W μ _ w1 ⟨hr.sim.world hsc, hput, by rw [(put_size a o.dst v).1]; exact hr.nt, by rw [(put_size a o.dst v).2]; exact hr.defers, hr.free⟩ hx1 hnext (fun j hj => hlt j (by simp [hj])) (fun j hj k hk => hfree j (by simp [hj]) k hk) Q
      fun st' x' a' w' W' μ' k1 k2 k3 k4 => hQ st' x' a' w' W' μ' k1 (hfr.trans k2) k3 k4
  show o.upon X.P a _ Q ((execOp a.eval o).run X.P w)
  rcases hv with hv | ⟨hv, rfl⟩
  · rw [hv]; exact fin
  · rw [hv]; exact fin
end Go.Proofs.YtjccikgdebgebaaGreatDoor.Abs
end
section
namespace Go.Proofs.YtjccikgdebgebaaGreatDoor.Abs
open Go
open Go.ChangeMaps (setBlock)
open Go.MapKept
variable {X : Ctx} {ops : Array Oper}
/-- The entries of a set of ints: each with the time of its birth. -/
def mEs (ks : List (Int × Nat)) : Array MapEntry := (ks.map fun p => ({ key := .int .i64 p.1, val := .bool true, born := p.2 } : MapEntry)).toArray
theorem mEs_mem {ks : List (Int × Nat)} {e : MapEntry} : e ∈ (mEs ks).toList ↔ ∃ p ∈ ks, e = { key := .int .i64 p.1, val := .bool true, born := p.2 } := by
  simp only [mEs, List.mem_map]
  constructor
  · rintro ⟨p, hp, rfl⟩; exact ⟨p, hp, rfl⟩
  · rintro ⟨p, hp, rfl⟩; exact ⟨p, hp, rfl⟩
def xput (x : XH) (B : Nat) (o : Go.Obj) : XH := fun C => if C = B then some o else x C
theorem xput_same (x : XH) (B : Nat) (o : Go.Obj) : xput x B o B = some o := if_pos rfl
theorem xput_ne (x : XH) (B C : Nat) (o : Go.Obj) (h : C ≠ B) : xput x B o C = x C := if_neg h
theorem SameCells.alloc (w : World) (o : Go.Obj) : SameCells w (w.alloc o) := ⟨by show w.heap.size ≤ (w.heap.push o).size; simp, fun B arr e f h => by
  have hlt : B < w.heap.size := heap_lt h
  rw [(heap_alloc w o).2 B hlt]; exact h⟩
theorem Frame.alloc {base : Nat} {w : World} {W : Nat → Prop} (hb : base ≤ w.heap.size) (o : Go.Obj) : Frame base w W (w.alloc o) W :=
  ⟨rfl, rfl, rfl, by show w.heap.size ≤ (w.heap.push o).size; simp, fun B hB => (heap_alloc w o).2 B (by omega), fun _ _ => Iff.rfl, Nat.le_refl _⟩
theorem XRel.alloc {x : XH} {base : Nat} {w : World} {W : Nat → Prop} (h : XRel x base W w) (hb : base ≤ w.heap.size) (hW : ∀ B, W B → B < w.heap.size) (o : Go.Obj) : XRel (xput x w.heap.size o) base W (w.alloc o) := by
  intro B o' hx
  by_cases hB : B = w.heap.size
  · subst hB
    rw [xput_same] at hx
    obtain rfl := Option.some.inj hx
    exact ⟨hb, fun h => absurd (hW _ h) (by omega), (heap_alloc w _).1⟩
  · rw [xput_ne _ _ _ _ hB] at hx
    obtain ⟨h1, h2, h3⟩ := h B o' hx
    exact ⟨h1, h2, by rw [(heap_alloc w o).2 B (heap_lt h3)]; exact h3⟩
theorem XRel.fresh {x : XH} {base : Nat} {w : World} {W : Nat → Prop} (h : XRel x base W w) : x w.heap.size = none := by
  cases hx : x w.heap.size with
  | none => rfl
  | some o => have := heap_lt (h _ _ hx).2.2; omega
/-- A block beside the heap is put anew. -/
theorem set_all {x : XH} {base r : Nat} {w w1 : World} {W : Nat → Prop} {o o' : Go.Obj} (h : XRel x base W w) (hr : x r = some o) (hnc : ∀ arr e f, o ≠ .cells arr e f) (hw1 : w1 = w ∨ w1 = w.drew) :
    SameCells w (setBlock w1 r o') ∧ Frame base w W (setBlock w1 r o') W ∧ XRel (xput x r o') base W (setBlock w1 r o') := by
  obtain ⟨h1, h2, h3⟩ := h r o hr
  have hh : (setBlock w1 r o').heap = w.heap.setIfInBounds r o' := by rcases hw1 with rfl | rfl <;> rfl
  have hs := heap_set (o' := o') h3
  refine ⟨⟨by rw [hh]; simp, fun B arr e f hB => ?_⟩, ⟨?_, ?_, ?_, by rw [hh]; simp, fun B hB => ?_, fun _ _ => Iff.rfl, by rcases hw1 with rfl | rfl <;> first | exact Nat.le_refl _ | exact Nat.le_succ _⟩, fun B o2 hx => ?_⟩
  · have hne : B ≠ r := by rintro rfl; rw [h3] at hB; exact hnc _ _ _ (Option.some.inj hB)
    rw [hh, hs.2 B hne]; exact hB
  · rcases hw1 with rfl | rfl <;> rfl
  · rcases hw1 with rfl | rfl <;> rfl
  · rcases hw1 with rfl | rfl <;> rfl
  · rw [hh, hs.2 B (by omega)]
  · by_cases hB : B = r
    · subst hB
      rw [xput_same] at hx
      obtain rfl := Option.some.inj hx
      exact ⟨h1, h2, by rw [hh]; exact hs.1⟩
    · rw [xput_ne _ _ _ _ hB] at hx
      obtain ⟨k1, k2, k3⟩ := h B o2 hx
      exact ⟨k1, k2, by rw [hh, hs.2 B hB]; exact k3⟩
theorem ext_map {w : World} {W : Nat → Prop} {μ : Mu} {v : Value} {m : Option Nat} (h : Rep w W μ v (.ext (.map m))) : v = .map m := by cases h; rfl
theorem ext_ptr {w : World} {W : Nat → Prop} {μ : Mu} {v : Value} {m : Option Addr} (h : Rep w W μ v (.ext (.pointer m))) : v = .pointer m := by cases h; rfl
theorem rep_int {w : World} {W : Nat → Prop} {μ : Mu} {v : Value} {k : IntKind} {n : Int} (h : Rep w W μ v (.int k n)) : v = .int k n := by cases h; rfl
theorem NO_makeMap {nt b0 i ty t : Nat} {l : List Nat} {o : Oper} (ho : ops[i]? = some o) (hop : o.op = .makeMap ty none) (hg : o.guard = none) (hdst : o.dst = some t) (ht : t < nt) {st : St} {x : XH} {Φ : St → XH → Prop}
    (h : ∀ B, x B = none → NO X nt ops b0 l { st with env := upd st.env t (.ext (.map (some B))) } (xput x B (.map #[] 0)) Φ) : NO X nt ops b0 (i :: l) st x Φ := by
  refine NO_op ho hg (fun t' h' => by rw [hdst] at h'; obtain rfl := Option.some.inj h'; exact ht) (fun y x1 => ∃ B, x B = none ∧ y = .ext (.map (some B)) ∧ x1 = xput x B (.map #[] 0)) ?_ ?_
  · intro base W μ a w hr hx
    refine ⟨.map (some w.heap.size), w.alloc (.map #[] 0), _, _, .inl ?_, ⟨w.heap.size, hx.fresh, rfl, rfl⟩, .extm _ _, .alloc _ _, .alloc hr.sim.ble _, hx.alloc hr.sim.ble hr.sim.wlt _⟩
    unfold execOp
    rw [hop]
    rfl
  · rintro y x1 ⟨B, hB, rfl, rfl⟩
    rw [hdst]; exact h B hB
theorem NO_range {nt b0 i ty t t0 bm clock : Nat} {kt et : TypeId} {es : Array MapEntry} {l : List Nat} {o : Oper} (ho : ops[i]? = some o) (hop : o.op = .range ty (.tmp t0)) (hg : o.guard = none) (hdst : o.dst = some t) (ht : t < nt) {st : St} {x : XH} {Φ : St → XH → Prop}
    (hu : X.P.underlying ty = some (.map kt et)) (hm : st.env t0 = .ext (.map (some bm))) (hb : x bm = some (.map es clock))
    (h : ∀ r, x r = none → NO X nt ops b0 l { st with env := upd st.env t (.ext (.pointer (some ⟨r, 0, none⟩))) } (xput x r (.mapIter (some bm) clock #[] clock)) Φ) : NO X nt ops b0 (i :: l) st x Φ := by
  refine NO_op ho hg (fun t' h' => by rw [hdst] at h'; obtain rfl := Option.some.inj h'; exact ht) (fun y x1 => ∃ r, x r = none ∧ y = .ext (.pointer (some ⟨r, 0, none⟩)) ∧ x1 = xput x r (.mapIter (some bm) clock #[] clock)) ?_ ?_
  · intro base W μ a w hr hx
    refine ⟨.pointer (some ⟨w.heap.size, 0, none⟩), w.alloc (.mapIter (some bm) clock #[] clock), _, _, .inl ?_, ⟨w.heap.size, hx.fresh, rfl, rfl⟩, .extp _ _, .alloc _ _, .alloc hr.sim.ble _, hx.alloc hr.sim.ble hr.sim.wlt _⟩
    have hv : a.eval (.tmp t0) = .map (some bm) := ext_map (hm ▸ hr.env t0)
    unfold execOp
    rw [hop]
    simp only [hv]
    simp only [Instr.range, Sem.run_bind, run_underlying hu, Result.andThen, getObj, Sem.run, (hx bm _ hb).2.2]
    rfl
  · rintro y x1 ⟨r, hB, rfl, rfl⟩
    rw [hdst]; exact h r hB
theorem NO_next {nt b0 i t t0 bm r since c0 clock : Nat} {seen : Array Nat} {ks : List (Int × Nat)} {l : List Nat} {o : Oper} (ho : ops[i]? = some o) (hop : o.op = .next (.tmp t0) false) (hg : o.guard = none) (hdst : o.dst = some t) (ht : t < nt) {st : St} {x : XH} {Φ : St → XH → Prop}
    (hm : st.env t0 = .ext (.pointer (some ⟨r, 0, none⟩))) (hb : x bm = some (.map (mEs ks) clock)) (hi : x r = some (.mapIter (some bm) since seen c0)) (hold : ∀ p ∈ ks, p.2 < since) (hsc : since ≤ c0)
    (h1 : (∀ p ∈ ks, p.2 ∈ seen) → NO X nt ops b0 l { st with env := upd st.env t (.tuple [.bool false]) } x Φ)
    (h2 : ∀ p ∈ ks, p.2 ∉ seen → NO X nt ops b0 l { st with env := upd st.env t (.tuple [.bool true, .int .i64 p.1, .bool true]) } (xput x r (.mapIter (some bm) since (seen.push p.2) clock)) Φ) : NO X nt ops b0 (i :: l) st x Φ := by
  refine NO_op ho hg (fun t' h' => by rw [hdst] at h'; obtain rfl := Option.some.inj h'; exact ht)
    (fun y x1 => ((∀ p ∈ ks, p.2 ∈ seen) ∧ y = .tuple [.bool false] ∧ x1 = x) ∨ ∃ p ∈ ks, p.2 ∉ seen ∧ y = .tuple [.bool true, .int .i64 p.1, .bool true] ∧ x1 = xput x r (.mapIter (some bm) since (seen.push p.2) clock)) ?_ ?_
  · intro base W μ a w hr hx
    have hv : a.eval (.tmp t0) = .pointer (some ⟨r, 0, none⟩) := ext_ptr (hm ▸ hr.env t0)
    have hleft : ∀ e, e ∈ (leftOf (mEs ks) seen).toList ↔ ∃ p ∈ ks, p.2 ∉ seen ∧ e = { key := .int .i64 p.1, val := .bool true, born := p.2 } := by
      intro e
      unfold leftOf
      simp only [Array.mem_toList_iff, Array.mem_filter, Bool.not_eq_true', Array.contains_eq_mem, decide_eq_false_iff_not]
      rw [← Array.mem_toList_iff, mEs_mem]
      constructor
      · rintro ⟨⟨p, hp, rfl⟩, hs⟩; exact ⟨p, hp, hs, rfl⟩
      · rintro ⟨p, hp, hs, rfl⟩; exact ⟨⟨p, hp, rfl⟩, hs⟩
    rcases run_next_at (P := X.P) w o.type r bm since c0 seen (mEs ks) clock (hx r _ hi).2.2 (hx bm _ hb).2.2 (fun e he => by obtain ⟨p, hp, rfl⟩ := mEs_mem.1 he; exact hold p hp) hsc with ⟨hz, hrun⟩ | ⟨e, he, w1, hw1, hrun⟩
    · refine ⟨.tuple #[.bool false], w, .tuple [.bool false], x, .inl ?_, .inl ⟨fun p hp => ?_, rfl, rfl⟩, .tuple _ _ _ rfl ?_, ⟨Nat.le_refl _, fun _ _ _ _ h => h⟩, .refl _ _ _, hx⟩
      · unfold execOp
        rw [hop]
        simp only [hv]
        simp only [Sem.run_bind, hrun, Result.andThen]
        rfl
      · refine Classical.byContradiction fun hns => ?_
        have := (hleft _).2 ⟨p, hp, hns, rfl⟩
        rw [Array.mem_toList_iff, Array.eq_empty_of_size_eq_zero hz] at this
        simp at this
      · intro i v a hv ha
        match i with
        | 0 => simp at hv ha; subst hv; subst ha; exact .bool _ _
        | i + 1 => simp at hv
    · obtain ⟨p, hp, hns, rfl⟩ := (hleft e).1 he
      obtain ⟨k1, k2, k3⟩ := set_all (o' := .mapIter (some bm) since (seen.push p.2) clock) hx hi (by simp) hw1
      refine ⟨.tuple #[.bool true, .int .i64 p.1, .bool true], _, .tuple [.bool true, .int .i64 p.1, .bool true], _, .inl ?_, .inr ⟨p, hp, hns, rfl, rfl⟩, .tuple _ _ _ rfl ?_, k1, k2, k3⟩
      · unfold execOp
        rw [hop]
        simp only [hv]
        simp only [Sem.run_bind, hrun, Result.andThen]
        rfl
      · intro i v a hv ha
        match i with
        | 0 => simp at hv ha; subst hv; subst ha; exact .bool _ _
        | 1 => simp at hv ha; subst hv; subst ha; exact .int _ _ _
        | 2 => simp at hv ha; subst hv; subst ha; exact .bool _ _
        | i + 3 => simp at hv
  · rintro y x1 (⟨hp, rfl, rfl⟩ | ⟨p, hp, hns, rfl, rfl⟩)
    · rw [hdst]; exact h1 hp
    · rw [hdst]; exact h2 p hp hns
theorem NO_entry {nt b0 i t t0 bm r since clock : Nat} {seen : Array Nat} {ks : List (Int × Nat)} {p : Int × Nat} {l : List Nat} {o : Oper} (ho : ops[i]? = some o) (hop : o.op = .entry (.tmp t0)) (hg : o.guard = none) (hdst : o.dst = some t) (ht : t < nt) {st : St} {x : XH} {Φ : St → XH → Prop}
    (hm : st.env t0 = .ext (.pointer (some ⟨r, 0, none⟩))) (hb : x bm = some (.map (mEs ks) clock)) (hi : x r = some (.mapIter (some bm) since (seen.push p.2) clock)) (hp : p ∈ ks) (hn : (ks.map (·.2)).Nodup)
    (h : NO X nt ops b0 l { st with env := upd st.env t (.tuple [.int .i64 p.1, .bool true]) } x Φ) : NO X nt ops b0 (i :: l) st x Φ := by
  refine NO_op ho hg (fun t' h' => by rw [hdst] at h'; obtain rfl := Option.some.inj h'; exact ht) (fun y x1 => y = .tuple [.int .i64 p.1, .bool true] ∧ x1 = x) ?_ ?_
  · intro base W μ a w hr hx
    have hv : a.eval (.tmp t0) = .pointer (some ⟨r, 0, none⟩) := ext_ptr (hm ▸ hr.env t0)
    have hrun := run_entry_at (P := X.P) w r bm since seen (mEs ks) clock { key := .int .i64 p.1, val := .bool true, born := p.2 } (hx r _ hi).2.2 (hx bm _ hb).2.2 (mEs_mem.2 ⟨p, hp, rfl⟩) (by simp only [mEs, List.map_map]; exact hn)
    refine ⟨.tuple #[.int .i64 p.1, .bool true], w, _, x, .inl ?_, ⟨rfl, rfl⟩, .tuple _ _ _ rfl ?_, ⟨Nat.le_refl _, fun _ _ _ _ h => h⟩, .refl _ _ _, hx⟩
    · unfold execOp
      rw [hop]
      simp only [hv]
      simp only [Sem.run_bind, hrun, Result.andThen]
      rfl
    · intro i v a hv ha
      match i with
      | 0 => simp at hv ha; subst hv; subst ha; exact .int _ _ _
      | 1 => simp at hv ha; subst hv; subst ha; exact .bool _ _
      | i + 2 => simp at hv
  · rintro y x1 ⟨rfl, rfl⟩
    rw [hdst]; exact h
theorem NO_update {nt b0 i ty tm tk bm clock : Nat} {kt et : TypeId} {n : Int} {ks : List (Int × Nat)} {l : List Nat} {o : Oper} (ho : ops[i]? = some o) (hop : o.op = .mapUpdate ty (.tmp tm) (.tmp tk) (.const (.bool true))) (hg : o.guard = none) (hdst : o.dst = none) {st : St} {x : XH} {Φ : St → XH → Prop}
    (hu : X.P.underlying ty = some (.map kt et)) (hk : X.P.underlying kt = some (.int .i64)) (hm : st.env tm = .ext (.map (some bm))) (hn : st.env tk = .int .i64 n) (hb : x bm = some (.map (mEs ks) clock)) (hnew : ∀ p ∈ ks, p.1 ≠ n)
    (h : NO X nt ops b0 l st (xput x bm (.map (mEs (ks ++ [(n, clock)])) (clock + 1))) Φ) : NO X nt ops b0 (i :: l) st x Φ := by
  refine NO_op ho hg (fun t' h' => by rw [hdst] at h'; simp at h') (fun y x1 => x1 = xput x bm (.map (mEs (ks ++ [(n, clock)])) (clock + 1))) ?_ ?_
  · intro base W μ a w hr hx
    have hv : a.eval (.tmp tm) = .map (some bm) := ext_map (hm ▸ hr.env tm)
    have hv2 : a.eval (.tmp tk) = .int .i64 n := rep_int (hn ▸ hr.env tk)
    have hv3 : a.eval (.const (.bool true)) = .bool true := rfl
    obtain ⟨k1, k2, k3⟩ := set_all (w1 := w) (o' := .map (mEs (ks ++ [(n, clock)])) (clock + 1)) hx hb (by simp) (.inl rfl)
    refine ⟨undef, _, .tuple [], _, .inr ⟨?_, rfl⟩, rfl, .tuple _ #[] [] rfl (by simp), k1, k2, k3⟩
    have hkey : IsKey (.int .i64) (.int .i64 n) := by simp [IsKey]
    have hf : Instr.findNow (.int .i64) (.int .i64 n) (mEs ks).toList 0 = some none := by
      rcases findNow_spec hkey (mEs ks).toList 0 (fun e he => by obtain ⟨p, hp, rfl⟩ := mEs_mem.1 he; simp [IsKey]) with ⟨h, _⟩ | ⟨j, e, _, h2, h3⟩
      · exact h
      · obtain ⟨p, hp, rfl⟩ := mEs_mem.1 (List.mem_of_getElem? h2)
        exact absurd (by simpa using h3) (hnew p hp)
    have hbb := (hx bm _ hb).2.2
    have hpush : (mEs ks).push { key := .int .i64 n, val := .bool true, born := clock } = mEs (ks ++ [(n, clock)]) := by
      simp [mEs]
    unfold execOp
    rw [hop]
    simp only [hv, hv2, hv3]
    simp only [Instr.mapUpdate, Sem.run_bind, run_underlying hu, Result.andThen, run_getObj_map (hb := hbb), run_checkKey (hd := hk) (hk := hkey), run_findKey (hd := hk) (h := hf), hpush, run_setObj_map (hb := hbb)]
    rfl
  · rintro y x1 rfl
    rw [hdst]; exact h
end Go.Proofs.YtjccikgdebgebaaGreatDoor.Abs
end
