/-
  One operation of the interpreter is sound. No conditions. The order in which a region's operations run does not matter to the interpreter. No conditions. Operations that do not hang on each other may change places. No conditions. A region is sound, whatever order is drawn. No conditions.
-/
import Derived.Test.YtenhjccadhlgoaaGreatQ14
import Derived.Orders
set_option linter.unusedSimpArgs false
set_option linter.unusedVariables false
set_option maxRecDepth 100000
set_option maxHeartbeats 16000000
namespace Go.Proofs.YtenhjccadhlgoaaGreat.Abs
open Go
section
variable {X : Ctx} {base : Nat} {W : Nat → Prop} {μ : Mu} {h : Heap} {w : World}
theorem len_two {l : List Value} (h : l.length = 2) : ∃ v u, l = [v, u] := by
 match l, h with
 | [v, u], _ => exact ⟨v, u, rfl⟩
theorem len_three {l : List Value} (h : l.length = 3) : ∃ v u t, l = [v, u, t] := by
 match l, h with
 | [v, u, t], _ => exact ⟨v, u, t, rfl⟩
def EffOut (X : Ctx) (base : Nat) (W : Nat → Prop) (μ : Mu) (h : Heap) (w : World) (id next : Nat) : Eff → Value → World → Prop
 | .loc d, v, w' => Out X base W μ h w id d v w'
 | .glob a h' n', v, w' => next ≤ n' ∧ ∃ W' μ', Step base w W μ w' W' μ' ∧ Sim X base W' μ' h' w' ∧ Rep w' W' μ' v a ∧ ∀ b, μ' b ≠ none → μ b ≠ none ∨ (next ≤ b ∧ b < n')
theorem Sim.noHeap (hs : Sim X base W μ h w) {W1 : Nat → Prop} (hsub : ∀ B, W1 B → W B) : Sim X w.heap.size W1 noMu emptyHeap w where
 obj b o hb := by simp [emptyHeap] at hb
 inj b b' B o o' hb := by simp [emptyHeap] at hb
 glob g cs hg := by
  obtain ⟨h1, h2, us, h3⟩ := hs.glob g cs hg
  refine ⟨Nat.lt_of_lt_of_le h1 hs.ble, fun hW => h2 (hsub _ hW), us, fun i a ha => ?_⟩
  obtain ⟨k1, k2, k3⟩ := h3 i a ha
  exact ⟨k1, k2.step (Step.shrink w noMu hsub), k3⟩
 wlt B hB := hs.wlt B (hsub B hB)
 ble := Nat.le_refl _
theorem callFunc_runs {f : FuncId} {fn : Func} (hf : X.P.funcs[f]? = some fn) (hok : funcOk fn = true) (vals : Array Value) (w : World) : (callFunc f vals).run X.P w = .ok (.enter f vals) w := by
 unfold funcOk at hok
 simp only [Bool.and_eq_true] at hok
 have h1 : (fn.name == "runtime.NumGoroutine") = false := by
  have := hok.1.2
  simpa [bne] using this
 have h2 : fn.body.isNone = false := by
  cases hb : fn.body with
  | none => rw [hb] at hok; simp at hok
  | some c => rfl
 simp only [callFunc, Sem.run_bind, run_program, Result.andThen, hf, h1, h2, Bool.false_eq_true, if_false, Sem.run_pure]
theorem snaps_args (hs : Sim X base W μ h w) {d : Nat} {args xs : List AV} {ids : List Nat} (hx : snaps (snap h d) args = some (xs, ids)) {vals : Array Value} (ha : ArgsRep w W μ vals args) : ArgsRep w (lessW W μ ids) noMu vals (weaks xs) := by
 obtain ⟨l1, g1⟩ := snaps_get hx
 refine ⟨by rw [weaks_length, ← l1]; exact ha.1, fun i v a hv haa => ?_⟩
 rw [weaks_get] at haa
 obtain ⟨x, hxi, rfl⟩ := Option.map_eq_some_iff.1 haa
 have hi : i < args.length := by
  have : i < xs.length := by
   rcases Nat.lt_or_ge i xs.length with hl | hl
   ·exact hl
   ·simp [List.getElem?_eq_none hl] at hxi
  omega
 obtain ⟨x', ids', hx', hf, hsub⟩ := g1 i _ (List.getElem?_eq_getElem hi)
 rw [hx'] at hxi; cases hxi
 exact (snap_sound hs d v _ _ ids' hf (ha.2 i v _ hv (List.getElem?_eq_getElem hi)) (lessW W μ ids) (fun B hB => hB.1) fun b hb B o hm hB => hB.2 b (hsub b hb) o hm).weak
theorem noRef_get : ∀ (l : List AV), AV.noRef.go l = true → ∀ (i : Nat) (a : AV), l[i]? = some a → a.noRef = true := by
 intro l
 induction l with
 | nil => simp
 | cons x xs ih =>
  intro hl i a ha
  simp only [AV.noRef.go, Bool.and_eq_true] at hl
  cases i with
  | zero => simp at ha; subst ha; exact hl.1
  | succ i => exact ih hl.2 i a (by simpa using ha)
theorem aCallFunc_sound {call : CallFn} (hcs : CallSound X call) (hs : Sim X base W μ h w) {id next : Nat} (hid : ∀ k, k < 8 → μ (id + k) = none) (hnext : ∀ b, next ≤ b → μ b = none) {f : FuncId} {args : List AV} {vals : Array Value} (ha : ArgsRep w W μ vals args)
  {e : Eff} (hev : aCallFunc X call h id next f args = some e) :
  (callFunc f vals).run X.P w = .ok (.enter f vals) w ∧ Calls X.P f vals w fun en w' => ∃ u, en = .returned u ∧ EffOut X base W μ h w id next e u w' := by
 have glob : (mp (call f args h next) fun (v, h', n') => Eff.glob v h' n') = some e → (callFunc f vals).run X.P w = .ok (.enter f vals) w ∧ Calls X.P f vals w fun en w' => ∃ u, en = .returned u ∧ EffOut X base W μ h w id next e u w' := by
  intro hg
  obtain ⟨⟨v, h', n'⟩, hc, hk⟩ := mp_eq_some.1 hg
  subst hk
  obtain ⟨⟨fn, hf, hok⟩, hcall⟩ := hcs.2 f args h next v h' n' hc
  refine ⟨callFunc_runs hf hok vals w, (hcall base W μ w vals hs hnext ha).mono ?_⟩
  rintro en w' ⟨u, W', μ', rfl, p1, p2, p3, hnn, p4⟩
  exact ⟨u, rfl, hnn, W', μ', p1, p2, p3, p4⟩
 unfold aCallFunc at hev
 split at hev
 ·exact glob hev
 rename_i hmode
 split at hev
 ·exact glob hev
 ·rename_i xs ids hx
  obtain ⟨r, hr, hk⟩ := nx_eq_some.1 hev
  obtain ⟨⟨v', wr⟩, hi, hk⟩ := mp_eq_some.1 hk
  subst hk
  have hlive := snaps_live hx
  obtain ⟨f1, f2⟩ := hs.freeze ids hlive
  have both : (∃ fn, X.P.funcs[f]? = some fn ∧ funcOk fn = true) ∧ Calls X.P f vals w fun e w' => ∃ u v h2 W2 μ2, e = .returned u ∧ Step w.heap.size w (lessW W μ ids) noMu w' W2 μ2 ∧ Sim X w.heap.size W2 μ2 h2 w' ∧ Rep w' W2 μ2 u v ∧
    ((∃ x ids, snap h2 depthA v = some (x, ids) ∧ r = x.weak) ∨ (∃ x, resultTop h2 depthA v = some x ∧ r = x.weak)) := by
   unfold pureCall at hr
   split at hr
   ·rename_i g hg
    obtain ⟨k1, k2⟩ := hcs.1 f g hg (weaks xs) r hr
    exact ⟨k1, k2 (lessW W μ ids) w vals (hs.noHeap fun B hB => hB.1) (snaps_args hs hx ha)⟩
   ·obtain ⟨⟨v, h2, n2⟩, hc, hk⟩ := nx_eq_some.1 hr
    obtain ⟨hfn, hcall⟩ := hcs.2 f (weaks xs) emptyHeap 0 v h2 n2 hc
    refine ⟨hfn, (hcall w.heap.size (lessW W μ ids) noMu w vals (hs.noHeap fun B hB => hB.1) (fun _ _ => rfl) (snaps_args hs hx ha)).mono ?_⟩
    rintro en w' ⟨u, W2, μ2, rfl, p1, p2, p3, _⟩
    refine ⟨u, v, h2, W2, μ2, rfl, p1, p2, p3, ?_⟩
    simp only at hk
    split at hk
    ·obtain ⟨⟨x, jds⟩, h1, h2⟩ := mp_eq_some.1 hk; exact .inl ⟨x, jds, h1, h2.symm⟩
    ·obtain ⟨x, h1, h2⟩ := mp_eq_some.1 hk; exact .inr ⟨x, h1, h2.symm⟩
    ·simp at hk
  obtain ⟨⟨fn, hf, hok⟩, hcall⟩ := both
  refine ⟨callFunc_runs hf hok vals w, hcall.mono ?_⟩
  rintro en w' ⟨u, v, h2, W2, μ2, rfl, p1, p2, p3, hm⟩
  refine ⟨u, rfl, ?_⟩
  obtain ⟨W3, μ', q1, q2, q3, q4⟩ := pure_out f2 p1 p2 p3 hid hi hm
  show Out X base W μ h w id _ u w'
  have hold : ∀ B, B < w.heap.size → w'.heap[B]? = w.heap[B]? := fun B hB => p1.same B hB (.inl hB)
  by_cases hn : r.noRef = true
  ·have hsc : r.scal = true := by cases r <;> first | exact hn | (simp [AV.noRef] at hn; done)
   obtain ⟨rfl, rfl⟩ := inst_noRef hn hi
   obtain ⟨b1, b2⟩ := hs.behind (W1 := W) (W3 := W) (w' := w') (W2 := W) (μ2 := noMu)
    {os := p1.os, tape := p1.tape, output := p1.output, size := p1.size, same := fun B hB _ => p1.same B hB (.inl hB), wsub := fun _ _ h => h, wsup := fun _ _ h => h,
     shape := fun B arr e f ha => ⟨arr, by rw [p1.same B (heap_lt ha) (.inl (heap_lt ha))]; exact ha, rfl⟩, mu := fun _ _ h => h, drawn := p1.drawn } (fun _ _ => Iff.rfl) (fun B hB => Nat.lt_of_lt_of_le (hs.wlt B hB) p1.size)
   exact ⟨W, μ, b1, by simpa [hsc, applyWr] using b2, q3.scalar hn μ, fun b hb => .inl hb⟩
  ·by_cases hsc : r.scal = true
   ·cases r with
    | fresh cs len sz =>
     have hcs : AV.noRef.go cs = true := hsc
     have hst : ∀ W4 : Nat → Prop, (∀ B, W4 B ↔ W B ∨ W3 B) → Step base w W μ w' W4 μ' := fun W4 h4 =>
      {os := p1.os, tape := p1.tape, output := p1.output, size := p1.size, same := fun B hB _ => hold B hB
       wsub := fun B hB h => (h4 B).1 h |>.elim (fun h => h) fun h3 => (q1.wsub B hB h3).1
       wsup := fun B _ h => (h4 B).2 (.inl h)
       shape := fun B arr e f ha => ⟨arr, by rw [hold B (heap_lt ha)]; exact ha, rfl⟩, mu := q1.mu, drawn := p1.drawn }
     by_cases h00 : cs = [] ∧ len = 0 ∧ sz = 0
     ·obtain ⟨rfl, rfl, rfl⟩ := h00
      simp only [instantiate, inst1, mp_some, Option.some.injEq, Prod.mk.injEq] at hi
      obtain ⟨rfl, rfl⟩ := hi
      obtain ⟨b1, b2⟩ := hs.behind (W1 := W) (W3 := W) (w' := w') (W2 := W) (μ2 := noMu)
       {os := p1.os, tape := p1.tape, output := p1.output, size := p1.size, same := fun B hB _ => hold B hB, wsub := fun _ _ h => h, wsup := fun _ _ h => h,
        shape := fun B arr e f ha => ⟨arr, by rw [hold B (heap_lt ha)]; exact ha, rfl⟩, mu := fun _ _ h => h, drawn := p1.drawn } (fun _ _ => Iff.rfl) (fun B hB => Nat.lt_of_lt_of_le (hs.wlt B hB) p1.size)
      have q5 : Rep w' W μ u (.ro [] 0 true) := by
       cases q3 with
       | ro0 _ a c full h => exact .ro0 _ a c true h
       | ro _ B o len cap cs full us hB hW hl hf hc hr hi => exact .ro0 _ _ _ true fun _ => hf rfl
      exact ⟨W, μ, b1, by simpa [hsc, applyWr] using b2, q5, fun b hb => .inl hb⟩
     ·have hi' : v' = .sl (id + 0) 0 len none sz ∧ wr = [(id + 0, some (.cells cs true false))] := by
       have h1 : inst1 id 0 (.fresh cs len sz) = some (.sl (id + 0) 0 len none sz, [(id + 0, some (.cells cs true false))], 0 + 1) := by
        unfold inst1
        split
        ·rename_i heq
         simp only [AV.fresh.injEq] at heq
         exact absurd heq h00
        ·rename_i heq
         simp only [AV.fresh.injEq] at heq
         obtain ⟨rfl, rfl, rfl⟩ := heq
         rfl
        ·rename_i hne
         exact absurd rfl (hne _ _ _)
       simp only [instantiate, h1, mp_some, Option.some.injEq, Prod.mk.injEq] at hi
       exact ⟨hi.1.symm, hi.2.symm⟩
      obtain ⟨rfl, rfl⟩ := hi'
      have st := hst (fun B => W B ∨ W3 B) fun _ => Iff.rfl
      have hwr : applyWr h ([] ++ [(id + 0, some (Obj.cells cs true false))]) = upd h (id + 0) (some (.cells cs true false)) := rfl
      have hwr3 : ∀ h0 : Heap, applyWr h0 [(id + 0, some (Obj.cells cs true false))] = upd h0 (id + 0) (some (.cells cs true false)) := fun _ => rfl
      have hne : ∀ b, upd h (id + 0) (some (Obj.cells cs true false)) b ≠ none → applyWr (applyWr h (ids.map fun b => (b, frozenObj (h b)))) [(id + 0, some (Obj.cells cs true false))] b ≠ none := by
       intro b hb
       rw [hwr3]
       by_cases hbi : b = id + 0
       ·rw [hbi, upd_eq]; simp
       ·rw [upd_ne _ _ hbi] at hb ⊢
        rw [freeze_get h ids h b fun _ => .inl rfl]
        split
        ·exact frozenObj_ne.2 hb
        ·exact hb
      refine ⟨fun B => W B ∨ W3 B, μ', st, ?_, ?_, q4⟩
      ·rw [if_pos hsc, hwr]
       refine ⟨fun b o hb => ?_, fun b b' B o o' hb hb' => q2.inj b b' B o o' (hne b hb) (hne b' hb'), hs.keepGlob st, fun B hB => hB.elim (fun h => Nat.lt_of_lt_of_le (hs.wlt B h) p1.size) (q2.wlt B), Nat.le_trans hs.ble p1.size⟩
       by_cases hbi : b = id + 0
       ·rw [hbi, upd_eq] at hb
        simp only [Option.some.injEq] at hb
        subst hb
        rw [hbi]
        obtain ⟨B, o, arr, e, hm, hB, h1, h2, harr, hle, hc⟩ := q2.obj (id + 0) (.cells cs true false) (by rw [hwr3, upd_eq])
        refine ⟨B, o, arr, e, hm, hB, fun hf => .inr (h1 hf), by simp, harr, hle, fun i a ha => ?_⟩
        obtain ⟨x, hx, hr, hcell⟩ := hc i a ha
        exact ⟨x, hx, hr.scalar (noRef_get cs hcs i a ha) _, hcell⟩
       ·rw [upd_ne _ _ hbi] at hb
        refine (hs.obj b o hb).keep st fun B o' hm => ?_
        obtain ⟨B', o2, hm', hlt, _⟩ := hs.lives (show h b ≠ none by rw [hb]; simp)
        rw [hm] at hm'
        simp only [Option.some.injEq, MB.at.injEq] at hm'
        obtain ⟨rfl, rfl⟩ := hm'
        exact ⟨hold B hlt, fun hW => st.wsub B hlt hW, fun hW => .inl hW⟩
      ·cases q3 with
       | sl _ b B o off len c cap sz hm hl hk hsh => exact .sl _ _ _ _ _ _ _ _ _ hm hl hk hsh
    | _ => exact absurd hsc hn
   ·refine ⟨W3, μ', f1.trans q1, ?_, q3, q4⟩
    simp only [if_neg hsc, applyWr_append, freeze_some]
    exact q2
theorem evalA_sound (hs : Sim X base W μ h w) {a : Act} {env : Nat → AV} (henv : ∀ t, Rep w W μ (a.tmps.getD t undef) (env t)) : ∀ (x : Operand) (r : AV), evalA X env x = some r → Rep w W μ (a.eval x) r := by
 intro x r hx
 cases x with
 | tmp t => simp only [evalA, Option.some.injEq] at hx; subst hx; exact henv t
 | const v => exact rep_const w W μ v r hx
 | global g =>
  obtain ⟨cs, hg, rfl⟩ := mp_eq_some.1 hx
  obtain ⟨h1, h2, us, h3⟩ := hs.glob g cs hg
  exact .rptr μ g 0 cs us (Nat.lt_of_lt_of_le h1 hs.ble) h2 (fun i a ha => by rw [Nat.zero_add]; exact (h3 i a ha).1) (fun i a ha => (h3 i a ha).2.1) (fun i a ha => (h3 i a ha).2.2)
 | func f => simp only [evalA, Option.some.injEq] at hx; subst hx; exact .func μ _ #[] #[] [] [] rfl rfl (by simp) (by simp)
theorem evalsA_sound {ρ : Operand → Value} {env : Nat → AV} (hρ : ∀ x a, evalA X env x = some a → Rep w W μ (ρ x) a) : ∀ (l : List Operand) (as : List AV), evalsA X env l = some as →
  (l.map ρ).length = as.length ∧ ∀ (i : Nat) (v : Value) (a : AV), (l.map ρ)[i]? = some v → as[i]? = some a → Rep w W μ v a := by
 intro l
 induction l with
 | nil => intro as h; simp [evalsA] at h; subst h; simp
 | cons x xs ih =>
  intro as h
  obtain ⟨a, ha, hk⟩ := nx_eq_some.1 h
  obtain ⟨bs, hb, rfl⟩ := mp_eq_some.1 hk
  obtain ⟨h1, h2⟩ := ih bs hb
  refine ⟨by simpa using h1, fun i v c hv hc => ?_⟩
  cases i with
  | zero => simp at hv hc; subst hv; subst hc; exact hρ x a ha
  | succ i => exact h2 i v c (by simpa using hv) (by simpa using hc)
theorem optA_sound {ρ : Operand → Value} {env : Nat → AV} (hρ : ∀ x a, evalA X env x = some a → Rep w W μ (ρ x) a) {o : Option Operand} {r : Option AV} (h : optA X env o = some r) : OptRep w W μ (o.map ρ) r := by
 cases o with
 | none => simp only [optA, Option.some.injEq] at h; subst h; rfl
 | some x =>
  obtain ⟨a, ha, rfl⟩ := mp_eq_some.1 h
  exact ⟨ρ x, rfl, hρ x a ha⟩
def RunsTo (P : Program) (s : Sem Next) (w : World) (R : Value → World → Prop) : Prop :=
 (∃ v w', s.run P w = .ok (.value v) w' ∧ R v w') ∨ (∃ w', s.run P w = .ok .skip w' ∧ R undef w') ∨ ∃ f args, s.run P w = .ok (.enter f args) w ∧ Calls P f args w fun en w' => ∃ u, en = .returned u ∧ R u w'
theorem RunsTo.value {P : Program} {s : Sem Value} {R : Value → World → Prop} {v : Value} {w' : World} (h : s.run P w = .ok v w') (hr : R v w') : RunsTo P (do pure (.value (← s))) w R :=
 .inl ⟨v, w', by simp only [Sem.run_bind, h, Result.andThen, Sem.run_pure], hr⟩
theorem RunsTo.skip {P : Program} {s : Sem Unit} {R : Value → World → Prop} {w' : World} (h : s.run P w = .ok () w') (hr : R undef w') : RunsTo P (do s; pure .skip) w R :=
 .inr (.inl ⟨w', by simp only [Sem.run_bind, h, Result.andThen, Sem.run_pure], hr⟩)
theorem RunsTo.pure1 {s : Sem Value} {e : Eff} {id next : Nat} (hs : Sim X base W μ h w) (hp : Pure1 X W μ w s e) : RunsTo X.P (do pure (.value (← s))) w (EffOut X base W μ h w id next e) := by
 obtain ⟨d, v, rfl, hwr, hrun, hr⟩ := hp
 refine .value hrun ⟨W, μ, Step.refl _ _ _ _, ?_, hr, fun b hb => .inl hb⟩
 rw [hwr]; exact hs
theorem RunsTo.valE {s : Sem Value} {e : Eff} {id next : Nat} (hs : Sim X base W μ h w) {v : Value} {a : AV} (he : valE a = some e) (hr : s.run X.P w = .ok v w) (hrep : Rep w W μ v a) : RunsTo X.P (do pure (.value (← s))) w (EffOut X base W μ h w id next e) :=
 .pure1 hs (Pure1.mk he hr hrep)
theorem evalOp_sound {call : CallFn} (hcs : CallSound X call) (hs : Sim X base W μ h w) {a : Act} {env : Nat → AV} (henv : ∀ t, Rep w W μ (a.tmps.getD t undef) (env t)) {id next : Nat} (hid : ∀ k, k < 8 → μ (id + k) = none) (hnext : ∀ b, next ≤ b → μ b = none)
  (o : Oper) {e : Eff} (hev : evalOp X call env h id next o.op = some e) : RunsTo X.P (execOp a.eval o) w (EffOut X base W μ h w id next e) := by
 have hρ := evalA_sound hs henv
 have hid0 : μ id = none := by simpa using hid 0 (by omega)
 obtain ⟨dst, op, ty, pos, aft, gd⟩ := o
 have ex2 : ∀ {s : Sem Value}, (∃ d v w', e = .loc d ∧ s.run X.P w = .ok v w' ∧ Out X base W μ h w id d v w') → RunsTo X.P (do pure (.value (← s))) w (EffOut X base W μ h w id next e) := by
  rintro s ⟨d, v, w', rfl, hrun, ho⟩
  exact .value hrun ho
 unfold evalOp at hev
 simp only at hev
 split at hev
 ·obtain ⟨x, hx, hk⟩ := nx_eq_some.1 hev
  exact RunsTo.valE (s := pure _) hs hk rfl (hρ _ _ hx)
 ·obtain ⟨x, hx, hk⟩ := nx_eq_some.1 hev
  exact RunsTo.valE (s := pure _) hs hk rfl (hρ _ _ hx)
 ·
  rename_i c p q
  obtain ⟨cv, hc, hk1⟩ := nx_eq_some.1 hev
  obtain ⟨pv, hp, hk2⟩ := nx_eq_some.1 hk1
  obtain ⟨qv, hq, hk⟩ := nx_eq_some.1 hk2
  clear hev hk1 hk2
  have rc := hρ _ _ hc
  generalize hax : a.eval c = vx at rc
  cases rc with
  | bool _ t =>
   simp only [valE, Option.some.injEq] at hk
   subst hk
   refine .inl ⟨if t then a.eval p else a.eval q, w, ?_, ?_⟩
   ·simp only [execOp, hax, asBool, Sem.run_bind, Sem.run_pure, Result.andThen]
   ·refine Out.same hs ?_
    cases t
    ·exact hρ _ _ hq
    ·exact hρ _ _ hp
  | _ => simp at hk
 ·exact ex2 (alloc_sound hs hid0 hev)
 ·obtain ⟨x, hx, hk⟩ := nx_eq_some.1 hev
  exact ex2 (box_sound hs hid0 (hρ _ _ hx) hk)
 ·obtain ⟨ps, hps, hk⟩ := nx_eq_some.1 hev
  exact RunsTo.pure1 hs (build_sound hρ hps hk)
 ·obtain ⟨ps, hps, hk⟩ := nx_eq_some.1 hev
  exact ex2 (buildSlice_sound hs hid0 hρ hps hk)
 ·obtain ⟨x, hx, hk⟩ := nx_eq_some.1 hev
  exact RunsTo.pure1 hs (load_sound hs (hρ _ _ hx) hk)
 ·obtain ⟨p, hp, hk⟩ := nx_eq_some.1 hev
  obtain ⟨v, hv, hk⟩ := nx_eq_some.1 hk
  obtain ⟨d, w', rfl, hrun, ho⟩ := store_sound hs (hρ _ _ hp) (hρ _ _ hv) hk id
  exact .skip hrun ho
 ·
  rename_i x
  obtain ⟨r, hr, hk⟩ := nx_eq_some.1 hev
  have rr := hρ _ _ hr
  split at hk
  ·rename_i b off
   generalize hax : a.eval x = vx at rr
   cases rr with
   | ptr _ _ B o _ hm =>
    refine .inl ⟨_, w, by simp only [execOp, hax]; rfl, ?_⟩
    simp only [valE, Option.some.injEq] at hk
    subst hk
    exact Out.same hs (.ptr _ b B o off hm)
  ·rename_i cs
   generalize hax : a.eval x = vx at rr
   cases rr with
   | rptr _ B o _ us hB hW hc hr hi =>
    refine .inl ⟨_, w, by simp only [execOp, hax]; rfl, ?_⟩
    simp only [valE, Option.some.injEq] at hk
    subst hk
    exact Out.same hs (.rptr _ B o cs us hB hW hc hr hi)
  ·rename_i f fi ca
   generalize hax : a.eval x = vx at rr
   cases rr with
   | func _ _ fa ca' _ _ h1 h2 hf hc =>
    refine .inl ⟨_, w, by simp only [execOp, hax]; rfl, ?_⟩
    simp only [valE, Option.some.injEq] at hk
    subst hk
    exact Out.same hs (.func _ _ fa ca' fi ca h1 h2 hf hc)
  ·simp at hk
 ·
  obtain ⟨p, hp, hk⟩ := nx_eq_some.1 hev
  obtain ⟨q, hq, hk⟩ := nx_eq_some.1 hk
  obtain ⟨r, hr, hk⟩ := nx_eq_some.1 hk
  obtain ⟨v, hv, hrep⟩ := binOp_sound (hρ _ _ hp) (hρ _ _ hq) hr
  exact RunsTo.valE hs hk hv hrep
 ·obtain ⟨p, hp, hk⟩ := nx_eq_some.1 hev
  obtain ⟨r, hr, hk⟩ := nx_eq_some.1 hk
  obtain ⟨v, hv, hrep⟩ := unOp_sound (hρ _ _ hp) hr
  exact RunsTo.valE hs hk hv hrep
 ·obtain ⟨p, hp, hk⟩ := nx_eq_some.1 hev
  exact RunsTo.pure1 hs (conv_sound hs (hρ _ _ hp) hk)
 ·
  rename_i fn first captured
  obtain ⟨p, hp, hk⟩ := nx_eq_some.1 hev
  obtain ⟨q, hq, hk⟩ := nx_eq_some.1 hk
  obtain ⟨p1, p2⟩ := evalsA_sound hρ _ _ hp
  obtain ⟨q1, q2⟩ := evalsA_sound hρ _ _ hq
  refine RunsTo.valE (s := Instr.makeFunc fn (first.map a.eval) (captured.map a.eval)) hs hk rfl (.func _ fn _ _ p q (by simpa using p1) (by simpa using q1) (fun i v b hv hb => p2 i v b ?_ hb) (fun i v b hv hb => q2 i v b ?_ hb))
  ·simpa using hv
  ·simpa using hv
 ·
  obtain ⟨p, hp, hk⟩ := nx_eq_some.1 hev
  obtain ⟨q, hq, hk⟩ := nx_eq_some.1 hk
  exact ex2 (makeSlice_sound hs hid0 (hρ _ _ hp) (hρ _ _ hq) hk)
 ·
  obtain ⟨x, hx, hk⟩ := nx_eq_some.1 hev
  obtain ⟨lo, hlo, hk⟩ := nx_eq_some.1 hk
  obtain ⟨hi, hhi, hk⟩ := nx_eq_some.1 hk
  obtain ⟨mx, hmx, hk⟩ := nx_eq_some.1 hk
  split at hk
  ·simp at hk
  ·rename_i hcond
   unfold slcX at hk
   split at hk
   ·exact RunsTo.pure1 hs (sliceP_sound hs (hρ _ _ hx) (optA_sound hρ hlo) (optA_sound hρ hhi) (optA_sound hρ hmx) hk)
   ·exact RunsTo.pure1 hs (slice_sound (hρ _ _ hx) (optA_sound hρ hlo) (optA_sound hρ hhi) (optA_sound hρ hmx) (fun hm hn => hcond ⟨by cases mx <;> simp at hm ⊢, by subst hn; rfl⟩) hk)
 ·obtain ⟨x, hx, hk⟩ := nx_eq_some.1 hev
  exact RunsTo.pure1 hs (fieldAddr_sound (hρ _ _ hx) hk)
 ·obtain ⟨x, hx, hk⟩ := nx_eq_some.1 hev
  exact RunsTo.pure1 hs (field_sound (hρ _ _ hx) hk)
 ·obtain ⟨x, hx, hk⟩ := nx_eq_some.1 hev
  obtain ⟨i, hi, hk⟩ := nx_eq_some.1 hk
  exact RunsTo.pure1 hs (indexAddr_sound (hρ _ _ hx) (hρ _ _ hi) hk)
 ·obtain ⟨x, hx, hk⟩ := nx_eq_some.1 hev
  obtain ⟨i, hi, hk⟩ := nx_eq_some.1 hk
  exact RunsTo.pure1 hs (index_sound (hρ _ _ hx) (hρ _ _ hi) hk)
 ·
  rename_i t ix
  obtain ⟨r, hr, hk⟩ := nx_eq_some.1 hev
  have rr := hρ _ _ hr
  split at hk
  ·rename_i vs
   obtain ⟨y, hy, hk⟩ := nx_eq_some.1 hk
   generalize hax : a.eval t = vx at rr
   cases rr with
   | tuple _ us _ h1 hel =>
    have hlt : ix < vs.length := by
     rcases Nat.lt_or_ge ix vs.length with hl | hl
     ·exact hl
     ·simp [List.getElem?_eq_none hl] at hy
    have hu : us[ix]? = some us[ix] := Array.getElem?_eq_getElem (by omega)
    have : RunsTo X.P (do pure (.value (← Instr.extract (.tuple us) ix))) w (EffOut X base W μ h w id next e) := RunsTo.valE hs hk (by simp only [Instr.extract, hu, Sem.run_pure]) (hel ix _ y hu hy)
    simpa only [execOp, hax] using this
  ·simp at hk
 ·
  rename_i b args argTypes
  obtain ⟨as, has, hk⟩ := nx_eq_some.1 hev
  obtain ⟨l1, l2⟩ := evalsA_sound hρ _ _ has
  have hargs : ∀ (n : Nat), as.length = n → (args.map a.eval).size = n := fun n hn => by simpa [hn] using l1
  have conv : ∀ {s : Sem Value} , (builtin b argTypes ty (args.map fun | .const _ => true | _ => false) (args.map a.eval)) = (do pure (.value (← s))) → RunsTo X.P (do pure (.value (← s))) w (EffOut X base W μ h w id next e) → RunsTo X.P (execOp a.eval ⟨dst, .call ⟨.builtin b, args, argTypes⟩, ty, pos, aft, gd⟩) w (EffOut X base W μ h w id next e) := by
   intro s hb hr
   have : execOp a.eval ⟨dst, .call ⟨.builtin b, args, argTypes⟩, ty, pos, aft, gd⟩ = builtin b argTypes ty (args.map fun | .const _ => true | _ => false) (args.map a.eval) := rfl
   rw [this, hb]
   exact hr
  clear hev
  have arr : ∀ (l : List Value), (args.map a.eval).toList = l → args.map a.eval = l.toArray := fun l hl => by rw [← hl]
  unfold aBuiltin at hk
  split at hk
  ·
   rename_i x
   obtain ⟨t, ht, hk⟩ := nx_eq_some.1 hk
   obtain ⟨r, hr, hk⟩ := nx_eq_some.1 hk
   obtain ⟨v, hv⟩ : ∃ v, (args.map a.eval).toList = [v] := List.length_eq_one_iff.1 (by simpa using l1)
   have hx := l2 0 v x (by rw [← Array.toList_map, hv]; rfl) (by simp)
   obtain ⟨u, hu, hrep⟩ := len_sound hx hr argTypes ht ty
   refine conv (s := Builtin.len_ argTypes ty #[v]) ?_ (RunsTo.valE hs hk hu hrep)
   rw [arr _ hv]; rfl
  ·
   rename_i s x
   obtain ⟨v, u, hv⟩ : ∃ v u, (args.map a.eval).toList = [v, u] := len_two (by simpa using l1)
   have h0 := l2 0 v s (by rw [← Array.toList_map, hv]; rfl) (by simp)
   have h1 := l2 1 u x (by rw [← Array.toList_map, hv]; rfl) (by simp)
   refine conv (s := Builtin.append_ argTypes ty #[v, u]) ?_ (ex2 (append_sound hs hid0 h0 h1 hk ty))
   rw [arr _ hv]; rfl
  ·
   rename_i d x
   obtain ⟨v, u, hv⟩ : ∃ v u, (args.map a.eval).toList = [v, u] := len_two (by simpa using l1)
   have h0 := l2 0 v d (by rw [← Array.toList_map, hv]; rfl) (by simp)
   have h1 := l2 1 u x (by rw [← Array.toList_map, hv]; rfl) (by simp)
   refine conv (s := Builtin.copy_ argTypes ty #[v, u]) ?_ (ex2 (copy_sound hs h0 h1 hk id ty))
   rw [arr _ hv]; rfl
  ·
   rename_i x y
   obtain ⟨r, hr, hk⟩ := nx_eq_some.1 hk
   obtain ⟨v, u, hv⟩ : ∃ v u, (args.map a.eval).toList = [v, u] := len_two (by simpa using l1)
   have h0 := l2 0 v x (by rw [← Array.toList_map, hv]; rfl) (by simp)
   have h1 := l2 1 u y (by rw [← Array.toList_map, hv]; rfl) (by simp)
   obtain ⟨m, hm, hrep⟩ := min2_sound (X := X) h0 h1 hr
   refine conv (s := Builtin.min_ argTypes ty #[v, u]) ?_ (RunsTo.valE hs hk (by show (List.foldlM Builtin.min2 v [u]).run X.P w = _; simp only [List.foldlM, Sem.run_bind, hm, Result.andThen, Sem.run_pure]) hrep)
   rw [arr _ hv]; rfl
  ·
   rename_i x y z
   obtain ⟨r, hr, hk⟩ := nx_eq_some.1 hk
   obtain ⟨r2, hr2, hk⟩ := nx_eq_some.1 hk
   obtain ⟨v, u, t, hv⟩ : ∃ v u t, (args.map a.eval).toList = [v, u, t] := len_three (by simpa using l1)
   have h0 := l2 0 v x (by rw [← Array.toList_map, hv]; rfl) (by simp)
   have h1 := l2 1 u y (by rw [← Array.toList_map, hv]; rfl) (by simp)
   have h2 := l2 2 t z (by rw [← Array.toList_map, hv]; rfl) (by simp)
   obtain ⟨m, hm, hrep⟩ := min2_sound (X := X) h0 h1 hr
   obtain ⟨m2, hm2, hrep2⟩ := min2_sound (X := X) hrep h2 hr2
   refine conv (s := Builtin.min_ argTypes ty #[v, u, t]) ?_ (RunsTo.valE hs hk (by show (List.foldlM Builtin.min2 v [u, t]).run X.P w = _; simp only [List.foldlM, Sem.run_bind, hm, hm2, Result.andThen, Sem.run_pure]) hrep2)
   rw [arr _ hv]; rfl
  ·
   rename_i x y
   obtain ⟨r, hr, hk⟩ := nx_eq_some.1 hk
   obtain ⟨v, u, hv⟩ : ∃ v u, (args.map a.eval).toList = [v, u] := len_two (by simpa using l1)
   have h0 := l2 0 v x (by rw [← Array.toList_map, hv]; rfl) (by simp)
   have h1 := l2 1 u y (by rw [← Array.toList_map, hv]; rfl) (by simp)
   obtain ⟨m, hm, hrep⟩ := max2_sound (X := X) h0 h1 hr
   refine conv (s := Builtin.max_ argTypes ty #[v, u]) ?_ (RunsTo.valE hs hk (by show (List.foldlM Builtin.max2 v [u]).run X.P w = _; simp only [List.foldlM, Sem.run_bind, hm, Result.andThen, Sem.run_pure]) hrep)
   rw [arr _ hv]; rfl
  ·
   rename_i x y z
   obtain ⟨r, hr, hk⟩ := nx_eq_some.1 hk
   obtain ⟨r2, hr2, hk⟩ := nx_eq_some.1 hk
   obtain ⟨v, u, t, hv⟩ : ∃ v u t, (args.map a.eval).toList = [v, u, t] := len_three (by simpa using l1)
   have h0 := l2 0 v x (by rw [← Array.toList_map, hv]; rfl) (by simp)
   have h1 := l2 1 u y (by rw [← Array.toList_map, hv]; rfl) (by simp)
   have h2 := l2 2 t z (by rw [← Array.toList_map, hv]; rfl) (by simp)
   obtain ⟨m, hm, hrep⟩ := max2_sound (X := X) h0 h1 hr
   obtain ⟨m2, hm2, hrep2⟩ := max2_sound (X := X) hrep h2 hr2
   refine conv (s := Builtin.max_ argTypes ty #[v, u, t]) ?_ (RunsTo.valE hs hk (by show (List.foldlM Builtin.max2 v [u, t]).run X.P w = _; simp only [List.foldlM, Sem.run_bind, hm, hm2, Result.andThen, Sem.run_pure]) hrep2)
   rw [arr _ hv]; rfl
  ·simp at hk
 ·
  rename_i f args argTypes
  obtain ⟨fv, hf, hk1⟩ := nx_eq_some.1 hev
  obtain ⟨as, has, hk⟩ := nx_eq_some.1 hk1
  clear hev hk1
  obtain ⟨l1, l2⟩ := evalsA_sound hρ _ _ has
  have rf := hρ _ _ hf
  generalize hax : a.eval f = vx at rf
  cases rf with
  | func _ fn fi ca fi' ca' h1 h2 hfi hca =>
   cases fn with
   | func fid =>
    simp only at hk
    have hargs : ArgsRep w W μ (fi ++ args.map a.eval ++ ca) (fi' ++ as ++ ca') := by
     refine ⟨by simp [h1, h2]; simpa using l1, fun i v b hv hb => ?_⟩
     have hl : (args.map a.eval).size = as.length := by simpa using l1
     by_cases c1 : i < fi.size
     ·rw [Array.append_assoc, Array.getElem?_append_left c1] at hv
      rw [List.append_assoc, List.getElem?_append_left (by omega)] at hb
      exact hfi i v b hv hb
     ·by_cases c2 : i < fi.size + (args.map a.eval).size
      ·rw [Array.append_assoc, Array.getElem?_append_right (by omega), Array.getElem?_append_left (by omega)] at hv
       rw [List.append_assoc, List.getElem?_append_right (by omega), List.getElem?_append_left (by omega)] at hb
       rw [← h1] at hb
       exact l2 _ v b (by rw [← Array.toList_map, Array.getElem?_toList]; exact hv) hb
      ·rw [Array.append_assoc, Array.getElem?_append_right (by omega), Array.getElem?_append_right (by omega)] at hv
       rw [List.append_assoc, List.getElem?_append_right (by omega), List.getElem?_append_right (by omega)] at hb
       rw [← h1, ← hl] at hb
       exact hca _ v b hv hb
    obtain ⟨c1, c2⟩ := aCallFunc_sound hcs hs hid hnext hargs hk
    refine .inr (.inr ⟨fid, fi ++ args.map a.eval ++ ca, ?_, c2⟩)
    simp only [execOp, resolve, hax, Deferred.ofValue, Sem.run_bind, Sem.run_pure, Result.andThen, invoke]
    exact c1
   | _ => simp at hk
  | _ => simp at hk
 ·simp at hev
end
section
variable (X : Ctx) (call : CallFn) (ops : Array Oper) (base : Nat)
structure Did where
 i : Nat
 o : Oper
 e : Eff
def Runs : St → List Did → St → Prop
 | st, [], st' => st = st'
 | st, d :: T, st' => ∃ st1, stepOp X call ops base d.i d.o st = some (st1, d.e) ∧ Runs st1 T st'
def execL : List Nat → St → Option St
 | [], st => some st
 | i :: l, st => match ops[i]? with
  | none => execL l st
  | some o => nx (stepOp X call ops base i o st) fun r => execL l r.1
variable {X call ops base}
theorem upd_comm {α : Type} (f : Nat → α) {i j : Nat} (a b : α) (h : i ≠ j) : upd (upd f i a) j b = upd (upd f j b) i a := by
 funext k
 unfold upd
 by_cases h1 : k = i <;> by_cases h2 : k = j
 ·exact absurd (h1.symm.trans h2) h
 ·simp only [if_pos h1, if_neg h2]
 ·simp only [if_neg h1, if_pos h2]
 ·simp only [if_neg h1, if_neg h2]
theorem applyWr_other (h : Heap) (l : List (Nat × Option Obj)) (b : Nat) (hb : l.any (·.1 == b) = false) : applyWr h l b = h b :=
 applyWr_get h l b fun x hx he => by
  have := List.any_eq_false.1 hb x hx
  simp [he] at this
theorem applyWr_upd (h : Heap) (l : List (Nat × Option Obj)) (b : Nat) (o : Option Obj) (hb : l.any (·.1 == b) = false) : applyWr (upd h b o) l = upd (applyWr h l) b o := by
 induction l generalizing h with
 | nil => rfl
 | cons x xs ih =>
  obtain ⟨c, p⟩ := x
  simp only [List.any_cons, Bool.or_eq_false_iff, beq_eq_false_iff_ne] at hb
  rw [applyWr, applyWr, upd_comm _ _ _ (fun e => hb.1 e.symm), ih _ hb.2]
theorem applyWr_comm (h : Heap) (l l' : List (Nat × Option Obj)) (hd : ∀ x ∈ l, l'.any (·.1 == x.1) = false) : applyWr (applyWr h l) l' = applyWr (applyWr h l') l := by
 induction l generalizing h with
 | nil => rfl
 | cons x xs ih =>
  obtain ⟨c, p⟩ := x
  rw [applyWr, applyWr, ih _ fun y hy => hd y (by simp [hy]), applyWr_upd h l' c p (hd (c, p) (by simp))]
theorem cellsAt_local {h h' : Heap} {p : AV} {cs : List AV} {rd : List Nat} (hc : cellsAt h p = some (cs, rd)) (hh : ∀ b ∈ rd, h' b = h b) : cellsAt h' p = some (cs, rd) := by
 cases p with
 | ptr b off =>
  simp only [cellsAt] at hc ⊢
  split at hc
  ·rename_i cs' g f hb
   simp only [Option.some.injEq, Prod.mk.injEq] at hc
   obtain ⟨rfl, rfl⟩ := hc
   simp only [hh b (by simp), hb]
  ·simp at hc
 | _ => exact hc
theorem srcCells_local {h h' : Heap} {size : Nat} {p : AV} {cs : List AV} {n : Nat} {rd : List Nat} (hc : srcCells h size p = some (cs, n, rd)) (hh : ∀ b ∈ rd, h' b = h b) : srcCells h' size p = some (cs, n, rd) := by
 unfold srcCells at hc ⊢
 split at hc
 ·exact hc
 ·split at hc
  ·rename_i hb
   split at hc
   ·rename_i hcond
    simp only [Option.some.injEq, Prod.mk.injEq] at hc
    obtain ⟨rfl, rfl, rfl⟩ := hc
    simp only [hh _ (List.mem_singleton.2 rfl), hb, if_pos hcond]
   ·simp at hc
  ·simp at hc
 ·exact hc
 ·simp at hc
theorem snap_local {h h' : Heap} : ∀ (d : Nat) (a x : AV) (ids : List Nat), snap h d a = some (x, ids) → (∀ b ∈ ids, h' b = h b) → snap h' d a = some (x, ids) := by
 intro d
 induction d with
 | zero => intro a x ids hs; simp [snap] at hs
 | succ d ih =>
  intro a x ids hs hh
  have lst : ∀ (l xs : List AV) (ids : List Nat), snaps (snap h d) l = some (xs, ids) → (∀ b ∈ ids, h' b = h b) → snaps (snap h' d) l = some (xs, ids) := by
   intro l
   induction l with
   | nil => intro xs ids hs _; exact hs
   | cons y ys ihl =>
    intro xs ids hs hh
    obtain ⟨⟨x1, i1⟩, ha, hk⟩ := nx_eq_some.1 hs
    obtain ⟨⟨x2, i2⟩, hb, hk⟩ := mp_eq_some.1 hk
    simp only [Prod.mk.injEq] at hk
    obtain ⟨rfl, rfl⟩ := hk
    exact nx_eq_some.2 ⟨_, ih y x1 i1 ha fun b hb => hh b (by simp [hb]), mp_eq_some.2 ⟨_, ihl x2 i2 hb fun b hb => hh b (by simp [hb]), rfl⟩⟩
  cases a with
  | sl b off len cap sz =>
   simp only [snap] at hs ⊢
   split at hs
   ·rename_i cs g f hb
    split at hs
    ·rename_i hle
     obtain ⟨⟨xs, jds⟩, hx, hk⟩ := mp_eq_some.1 hs
     simp only [Prod.mk.injEq] at hk
     obtain ⟨rfl, rfl⟩ := hk
     rw [hh b (by simp), hb]
     simp only
     rw [if_pos hle]
     exact mp_eq_some.2 ⟨_, lst _ _ _ hx fun b hb => hh b (by simp [hb]), rfl⟩
    ·simp at hs
   ·simp at hs
  | ptr b off =>
   simp only [snap] at hs ⊢
   split at hs
   ·rename_i cs g f hb
    obtain ⟨⟨xs, jds⟩, hx, hk⟩ := mp_eq_some.1 hs
    simp only [Prod.mk.injEq] at hk
    obtain ⟨rfl, rfl⟩ := hk
    rw [hh b (by simp), hb]
    exact mp_eq_some.2 ⟨_, lst _ _ _ hx fun b hb => hh b (by simp [hb]), rfl⟩
   ·simp at hs
  | agg cs =>
   simp only [snap] at hs ⊢
   obtain ⟨⟨xs, jds⟩, hx, hk⟩ := mp_eq_some.1 hs
   simp only [Prod.mk.injEq] at hk
   obtain ⟨rfl, rfl⟩ := hk
   exact mp_eq_some.2 ⟨_, lst _ _ _ hx hh, rfl⟩
  | tuple cs =>
   simp only [snap] at hs ⊢
   obtain ⟨⟨xs, jds⟩, hx, hk⟩ := mp_eq_some.1 hs
   simp only [Prod.mk.injEq] at hk
   obtain ⟨rfl, rfl⟩ := hk
   exact mp_eq_some.2 ⟨_, lst _ _ _ hx hh, rfl⟩
  | func fn fi ca =>
   simp only [snap] at hs ⊢
   obtain ⟨⟨xs, i⟩, hx, hk⟩ := nx_eq_some.1 hs
   obtain ⟨⟨ys, j⟩, hy, hk⟩ := mp_eq_some.1 hk
   simp only [Prod.mk.injEq] at hk
   obtain ⟨rfl, rfl⟩ := hk
   exact nx_eq_some.2 ⟨_, lst _ _ _ hx fun b hb => hh b (by simp [hb]), mp_eq_some.2 ⟨_, lst _ _ _ hy fun b hb => hh b (by simp [hb]), rfl⟩⟩
  | iface t v =>
   simp only [snap] at hs ⊢
   obtain ⟨⟨y, i⟩, hx, hk⟩ := mp_eq_some.1 hs
   simp only [Prod.mk.injEq] at hk
   obtain ⟨rfl, rfl⟩ := hk
   exact mp_eq_some.2 ⟨_, ih _ _ _ hx hh, rfl⟩
  | _ => first | exact hs | (simp [snap] at hs; done)
theorem snaps_local {h h' : Heap} {d : Nat} : ∀ {l xs : List AV} {ids : List Nat}, snaps (snap h d) l = some (xs, ids) → (∀ b ∈ ids, h' b = h b) → snaps (snap h' d) l = some (xs, ids) := by
 intro l
 induction l with
 | nil => intro xs ids hs _; exact hs
 | cons y ys ihl =>
  intro xs ids hs hh
  obtain ⟨⟨x1, i1⟩, ha, hk⟩ := nx_eq_some.1 hs
  obtain ⟨⟨x2, i2⟩, hb, hk⟩ := mp_eq_some.1 hk
  simp only [Prod.mk.injEq] at hk
  obtain ⟨rfl, rfl⟩ := hk
  exact nx_eq_some.2 ⟨_, snap_local d y x1 i1 ha fun b hb => hh b (by simp [hb]), mp_eq_some.2 ⟨_, ihl hb fun b hb => hh b (by simp [hb]), rfl⟩⟩
theorem evalA_congr {env env' : Nat → AV} (x : Operand) (h : ∀ t, x = .tmp t → env' t = env t) : evalA X env' x = evalA X env x := by
 cases x with
 | tmp t => simp only [evalA, h t rfl]
 | _ => rfl
theorem evalsA_congr {env env' : Nat → AV} : ∀ (l : List Operand), (∀ x ∈ l, evalA X env' x = evalA X env x) → evalsA X env' l = evalsA X env l := by
 intro l
 induction l with
 | nil => intro _; rfl
 | cons x xs ih => intro h; simp only [evalsA, h x (by simp), ih fun y hy => h y (by simp [hy])]
theorem partsA_congr {env env' : Nat → AV} : ∀ (l : List (Nat × Operand)), (∀ x ∈ l, evalA X env' x.2 = evalA X env x.2) → partsA X env' l = partsA X env l := by
 intro l
 induction l with
 | nil => intro _; rfl
 | cons x xs ih => intro h; obtain ⟨i, o⟩ := x; simp only [partsA, h (i, o) (by simp), ih fun y hy => h y (by simp [hy])]
theorem optA_congr {env env' : Nat → AV} (o : Option Operand) (h : ∀ x, o = some x → evalA X env' x = evalA X env x) : optA X env' o = optA X env o := by
 cases o with
 | none => rfl
 | some x => simp only [optA, h x rfl]
theorem evalOp_env {env env' : Nat → AV} {h : Heap} {id next : Nat} {o : Op} (he : ∀ x ∈ o.operands, evalA X env' x = evalA X env x) : evalOp X call env' h id next o = evalOp X call env h id next o := by
 have opts : ∀ (x : Operand) (l r m : Option Operand), (∀ y ∈ (#[x] ++ l.toArray ++ r.toArray ++ m.toArray : Array Operand), evalA X env' y = evalA X env y) → optA X env' l = optA X env l ∧ optA X env' r = optA X env r ∧ optA X env' m = optA X env m := by
  intro x l r m hh
  refine ⟨optA_congr l fun y hy => hh y ?_, optA_congr r fun y hy => hh y ?_, optA_congr m fun y hy => hh y ?_⟩ <;> subst hy <;> simp
 cases o with
 | move x => simp only [evalOp, he x (by simp [Op.operands])]
 | assign x => simp only [evalOp, he x (by simp [Op.operands])]
 | pick a b c => simp only [evalOp, he a (by simp [Op.operands]), he b (by simp [Op.operands]), he c (by simp [Op.operands])]
 | box t x => simp only [evalOp, he x (by simp [Op.operands])]
 | build t ps => simp only [evalOp, partsA_congr ps.toList fun x hx => he x.2 (by simp only [Op.operands, List.mem_toArray, List.mem_map]; exact ⟨x, hx, rfl⟩)]
 | buildSlice t n ps => simp only [evalOp, partsA_congr ps.toList fun x hx => he x.2 (by simp only [Op.operands, List.mem_toArray, List.mem_map]; exact ⟨x, hx, rfl⟩)]
 | load t x => simp only [evalOp, he x (by simp [Op.operands])]
 | store t x y => simp only [evalOp, he x (by simp [Op.operands]), he y (by simp [Op.operands])]
 | nilCheck x => simp only [evalOp, he x (by simp [Op.operands])]
 | binOp op t x y t' => simp only [evalOp, he x (by simp [Op.operands]), he y (by simp [Op.operands])]
 | unOp op t x => simp only [evalOp, he x (by simp [Op.operands])]
 | convert s d x => simp only [evalOp, he x (by simp [Op.operands])]
 | makeFunc fn f c => simp only [evalOp, evalsA_congr f.toList fun x hx => he x (by simp only [Op.operands, Array.mem_append]; exact .inl (Array.mem_toList_iff.1 hx)), evalsA_congr c.toList fun x hx => he x (by simp only [Op.operands, Array.mem_append]; exact .inr (Array.mem_toList_iff.1 hx))]
 | makeSlice t x y => simp only [evalOp, he x (by simp [Op.operands]), he y (by simp [Op.operands])]
 | slice t x l r m =>
  obtain ⟨h1, h2, h3⟩ := opts x l r m he
  simp only [evalOp, he x (by simp [Op.operands]), h1, h2, h3]
 | fieldAddr s x f => simp only [evalOp, he x (by simp [Op.operands])]
 | field s x f => simp only [evalOp, he x (by simp [Op.operands])]
 | indexAddr t x y => simp only [evalOp, he x (by simp [Op.operands]), he y (by simp [Op.operands])]
 | index t x y => simp only [evalOp, he x (by simp [Op.operands]), he y (by simp [Op.operands])]
 | extract x i => simp only [evalOp, he x (by simp [Op.operands])]
 | call c =>
  obtain ⟨cal, args, tys⟩ := c
  have ha : evalsA X env' args.toList = evalsA X env args.toList := evalsA_congr args.toList fun x hx => he x (by simp only [Op.operands, Call.operands, Array.mem_append]; exact .inr (Array.mem_toList_iff.1 hx))
  cases cal with
  | builtin b => simp only [evalOp, ha]
  | value f => simp only [evalOp, ha, he f (by simp [Op.operands, Call.operands])]
  | invoke r m => rfl
 | _ => rfl
theorem evalOp_heap {env : Nat → AV} {h h' : Heap} {id next next' : Nat} {o : Op} {d : Delta} (hev : evalOp X call env h id next o = some (.loc d)) (hh : ∀ b ∈ d.rd, h' b = h b) : evalOp X call env h' id next' o = some (.loc d) := by
 cases o with
 | load t x =>
  obtain ⟨p, hp, hk⟩ := nx_eq_some.1 hev
  refine nx_eq_some.2 ⟨p, hp, ?_⟩
  unfold aLoad at hk ⊢
  split at hk
  ·rename_i n cs rd hsh hca
   split at hk
   ·rename_i hle
    simp only [Option.some.injEq, Eff.loc.injEq] at hk
    subst hk
    rw [cellsAt_local hca hh]
    simp only [hsh]
    rw [if_pos hle]
   ·simp at hk
  ·rename_i n c cs rd hsh hca
   simp only [Option.some.injEq, Eff.loc.injEq] at hk
   subst hk
   rw [cellsAt_local hca hh]
   simp only [hsh]
  ·simp at hk
 | store t x y =>
  obtain ⟨p, hp, hk⟩ := nx_eq_some.1 hev
  obtain ⟨v, hv, hk⟩ := nx_eq_some.1 hk
  refine nx_eq_some.2 ⟨p, hp, nx_eq_some.2 ⟨v, hv, ?_⟩⟩
  unfold aStore at hk ⊢
  cases hsz : sizeA X t with
  | none => simp [hsz] at hk
  | some n =>
   cases p with
   | ptr b off =>
    simp only [hsz] at hk ⊢
    split at hk
    ·rename_i cs g hb
     split at hk
     ·rename_i hc
      simp only [Option.some.injEq, Eff.loc.injEq] at hk
      subst hk
      simp only [hh b (by simp), hb, if_pos hc]
     ·simp at hk
    ·simp at hk
   | _ => simp [hsz] at hk
 | call c =>
  obtain ⟨cal, args, tys⟩ := c
  cases cal with
  | builtin b =>
   obtain ⟨as, has, hk⟩ := nx_eq_some.1 hev
   refine nx_eq_some.2 ⟨as, has, ?_⟩
   unfold aBuiltin at hk ⊢
   split at hk
   ·exact hk
   ·
    rename_i s x
    show aAppend X h' id tys s x = some (.loc d)
    unfold aAppend at hk ⊢
    split at hk
    case h_2 => simp at hk
    rename_i st xt hst hxt
    try simp only [hst, hxt]
    split at hk
    case h_2 => simp at hk
    rename_i elem xd hu hxu
    try simp only [hu, hxu]
    split at hk
    ·simp at hk
    rename_i h1
    rw [if_neg h1]
    obtain ⟨⟨size, bytes⟩, hsb, hk⟩ := nx_eq_some.1 hk
    refine nx_eq_some.2 ⟨(size, bytes), hsb, ?_⟩
    simp only at hk ⊢
    split at hk
    ·simp at hk
    rename_i h2
    rw [if_neg h2]
    obtain ⟨z, hz, hk⟩ := nx_eq_some.1 hk
    refine nx_eq_some.2 ⟨z, hz, ?_⟩
    split at hk
    ·simp at hk
    rename_i h3
    rw [if_neg h3]
    obtain ⟨⟨xs, n, rd⟩, hsrc, hk⟩ := nx_eq_some.1 hk
    have hrd : ∀ b ∈ rd, b ∈ d.rd := by
     simp only at hk
     split at hk
     ·split at hk
      ·cases hk; exact fun b hb => hb
      ·split at hk
       ·cases hk; exact fun b hb => hb
       ·simp at hk
     ·split at hk
      ·simp at hk
      ·split at hk
       ·split at hk
        ·split at hk
         ·cases hk; exact fun b hb => by simp [hb]
         ·split at hk
          ·split at hk
           ·cases hk; exact fun b hb => by simp [hb]
           ·simp at hk
          ·split at hk
           ·cases hk; exact fun b hb => by simp [hb]
           ·simp at hk
        ·split at hk
         ·cases hk; exact fun b hb => by simp [hb]
         ·split at hk
          ·cases hk; exact fun b hb => by simp [hb]
          ·split at hk
           ·cases hk; exact fun b hb => by simp [hb]
           ·simp at hk
       ·simp at hk
     ·simp at hk
    refine nx_eq_some.2 ⟨(xs, n, rd), srcCells_local hsrc fun b hb => hh b (hrd b hb), ?_⟩
    cases s with
    | sl b off len cap sz =>
     have hb : b ∈ d.rd := by
      simp only at hk
      split at hk
      ·simp at hk
      ·split at hk
       ·split at hk
        ·split at hk
         ·cases hk; simp
         ·split at hk
          ·split at hk
           ·cases hk; simp
           ·simp at hk
          ·split at hk
           ·cases hk; simp
           ·simp at hk
        ·split at hk
         ·cases hk; simp
         ·split at hk
          ·cases hk; simp
          ·split at hk
           ·cases hk; simp
           ·simp at hk
       ·simp at hk
     simp only [hh b hb]
     exact hk
    | _ => exact hk
   ·
    rename_i dd x
    show aCopy X h' tys dd x = some (.loc d)
    unfold aCopy at hk ⊢
    split at hk
    case h_2 => simp at hk
    rename_i st hst
    try simp only [hst]
    split at hk
    case h_2 => simp at hk
    rename_i elem hu
    try simp only [hu]
    obtain ⟨size, hsize, hk⟩ := nx_eq_some.1 hk
    refine nx_eq_some.2 ⟨size, hsize, ?_⟩
    obtain ⟨⟨xs, n, rd⟩, hsrc, hk⟩ := nx_eq_some.1 hk
    have hrd : ∀ b ∈ rd, b ∈ d.rd := by
     simp only at hk
     split at hk
     ·split at hk
      ·simp at hk
      ·split at hk
       ·split at hk
        ·cases hk; exact fun b hb => by simp [hb]
        ·simp at hk
       ·simp at hk
     ·split at hk
      ·cases hk; exact fun b hb => hb
      ·simp at hk
     ·simp at hk
    refine nx_eq_some.2 ⟨(xs, n, rd), srcCells_local hsrc fun b hb => hh b (hrd b hb), ?_⟩
    cases dd with
    | sl b off len cap sz =>
     have hb : b ∈ d.rd := by
      simp only at hk
      split at hk
      ·simp at hk
      ·split at hk
       ·split at hk
        ·cases hk; simp
        ·simp at hk
       ·simp at hk
     simp only [hh b hb]
     exact hk
    | _ => exact hk
   all_goals exact hk
  | value f =>
   obtain ⟨fv, hf, hk⟩ := nx_eq_some.1 hev
   obtain ⟨as, has, hk⟩ := nx_eq_some.1 hk
   refine nx_eq_some.2 ⟨fv, hf, nx_eq_some.2 ⟨as, has, ?_⟩⟩
   cases fv with
   | func fn fi ca =>
    cases fn with
    | func fid =>
     simp only at hk ⊢
     unfold aCallFunc at hk ⊢
     split at hk
     ·obtain ⟨x, _, hx⟩ := mp_eq_some.1 hk; simp at hx
     ·rename_i hm
      rw [if_neg hm]
      split at hk
      ·obtain ⟨x, _, hx⟩ := mp_eq_some.1 hk; simp at hx
      ·rename_i xs ids hsn
       obtain ⟨r, hr, hk⟩ := nx_eq_some.1 hk
       obtain ⟨⟨v, wr⟩, hi, hk⟩ := mp_eq_some.1 hk
       simp only [Eff.loc.injEq] at hk
       subst hk
       rw [snaps_local hsn hh]
       refine nx_eq_some.2 ⟨r, hr, mp_eq_some.2 ⟨(v, wr), hi, ?_⟩⟩
       simp only [Eff.loc.injEq]
       congr 2
       split
       ·rfl
       ·rw [show ids.filter (fun b => !frozenB (h b)) = ids.filter (fun b => !frozenB (h' b)) from List.filter_congr fun b hb => by rw [hh b hb]]
        exact List.map_congr_left fun b hb => by rw [hh b (List.mem_filter.1 hb).1]
    | _ => simp at hk
   | _ => simp at hk
  | invoke r m => simp [evalOp] at hev
 | slice t x lo hi mx =>
  obtain ⟨p, hp, hk⟩ := nx_eq_some.1 hev
  obtain ⟨l, hl, hk⟩ := nx_eq_some.1 hk
  obtain ⟨r, hr, hk⟩ := nx_eq_some.1 hk
  obtain ⟨m, hm, hk⟩ := nx_eq_some.1 hk
  refine nx_eq_some.2 ⟨p, hp, nx_eq_some.2 ⟨l, hl, nx_eq_some.2 ⟨r, hr, nx_eq_some.2 ⟨m, hm, ?_⟩⟩⟩⟩
  split at hk
  ·simp at hk
  rename_i hc
  rw [if_neg hc]
  cases p with
  | ptr b off =>
   have hk : aSliceP X h t b off l r m = some (Eff.loc d) := hk
   show aSliceP X h' t b off l r m = some (Eff.loc d)
   unfold aSliceP at hk ⊢
   split at hk
   ·rename_i n elem hu
    try simp only [hu]
    obtain ⟨size, hsize, hk⟩ := nx_eq_some.1 hk
    refine nx_eq_some.2 ⟨size, hsize, ?_⟩
    split at hk
    ·simp at hk
    rename_i h1
    rw [if_neg h1]
    split at hk
    ·simp at hk
    rename_i h2
    rw [if_neg h2]
    obtain ⟨l', hl', hk⟩ := nx_eq_some.1 hk
    obtain ⟨r', hr', hk⟩ := nx_eq_some.1 hk
    refine nx_eq_some.2 ⟨l', hl', nx_eq_some.2 ⟨r', hr', ?_⟩⟩
    cases hb : h b with
    | none => rw [hb] at hk; simp at hk
    | some o =>
     obtain ⟨cs, g, z⟩ := o
     rw [hb] at hk
     have hrd : b ∈ d.rd := by
      simp only at hk
      split at hk
      ·split at hk <;> (cases hk; simp)
      ·simp at hk
     rw [hh b hrd, hb]
     exact hk
   ·simp at hk
  | _ => exact hk
 | convert src dst x =>
  obtain ⟨p, hp, hk⟩ := nx_eq_some.1 hev
  refine nx_eq_some.2 ⟨p, hp, ?_⟩
  unfold aConv at hk ⊢
  split at hk
  ·split at hk
   ·rename_i hc
    rw [if_pos hc]
    cases hsrc : srcCells h 1 p with
    | none => rw [hsrc] at hk; simp [strE] at hk
    | some y =>
     obtain ⟨cs, n, rd⟩ := y
     rw [hsrc] at hk
     obtain ⟨l, hl, he⟩ := mp_eq_some.1 (show mp (bytesA cs) _ = some _ from hk)
     have hrd : d.rd = rd := by cases he; rfl
     rw [srcCells_local hsrc fun b hb => hh b (by rw [hrd]; exact hb)]
     exact hk
   ·simp at hk
  ·exact hk
 | _ => exact hev
end
section
variable {X : Ctx} {call : CallFn} {ops : Array Oper} {base : Nat}
theorem stepOp_some {i : Nat} {o : Oper} {st st1 : St} {e : Eff} : stepOp X call ops base i o st = some (st1, e) ↔
  guardedOp (wantedA ops st.env o) (evalOp X call st.env st.heap (base + 8 * i) st.next o.op) = some e ∧ st1 = Abs.after o st e := by
 rw [stepOp_eq]
 constructor
 ·intro h
  obtain ⟨e', he, hk⟩ := mp_eq_some.1 h
  simp only [Prod.mk.injEq] at hk
  obtain ⟨rfl, rfl⟩ := hk
  exact ⟨he, rfl⟩
 ·rintro ⟨h1, rfl⟩
  exact mp_eq_some.2 ⟨e, h1, rfl⟩
theorem putEnv_ne {env : Nat → AV} {d : Option Tmp} {v : AV} {t : Nat} (h : d ≠ some t) : putEnv env d v t = env t := by
 cases d with
 | none => rfl
 | some s => exact upd_ne _ _ fun he => h (by rw [he])
theorem putEnv_comm {env : Nat → AV} {d d' : Option Tmp} {v v' : AV} (h : ∀ t, d = some t → d' ≠ some t) : putEnv (putEnv env d v) d' v' = putEnv (putEnv env d' v') d v := by
 cases d with
 | none => rfl
 | some s =>
  cases d' with
  | none => rfl
  | some s' => exact upd_comm _ _ _ fun he => h s rfl (by rw [he])
theorem after_env (o : Oper) (st : St) (e : Eff) : ∃ v, (Abs.after o st e).env = putEnv st.env o.dst v := by
 cases e with
 | loc d => exact ⟨d.val, rfl⟩
 | glob v h n => exact ⟨v, rfl⟩
theorem looks_same {x y : Oper} (h : ∀ d, x.dst = some d → d ∉ y.looksAt ops) {env : Nat → AV} {v : AV} :
  wantedA ops (putEnv env x.dst v) y = wantedA ops env y ∧ ∀ z ∈ y.op.operands, evalA X (putEnv env x.dst v) z = evalA X env z := by
 constructor
 ·unfold wantedA
  cases hg : y.guard with
  | none => rfl
  | some g =>
   obtain ⟨j, want⟩ := g
   simp only
   cases hj : ops[j]? with
   | none => rfl
   | some o =>
    simp only
    cases hd : o.dst with
    | none => rfl
    | some t =>
     simp only
     rw [putEnv_ne (fun he => h t he ?_)]
     simp [Oper.looksAt, hg, hj, hd]
 ·intro z hz
  refine evalA_congr z fun t ht => putEnv_ne fun he => h t he ?_
  subst ht
  simp only [Oper.looksAt, List.mem_append, List.mem_filterMap]
  exact .inl ⟨.tmp t, by simpa using hz, rfl⟩
theorem hits_false {d e : Delta} (h : d.hits e = false) : (∀ b ∈ e.rd, d.wr.any (·.1 == b) = false) ∧ ∀ x ∈ d.wr, e.wr.any (·.1 == x.1) = false := by
 unfold Delta.hits at h
 constructor
 ·intro b hb
  rw [List.any_eq_false]
  intro x hx he
  have := List.any_eq_false.1 h x hx
  simp only [Bool.or_eq_true, List.contains_iff_mem, not_or] at this
  simp only [beq_iff_eq] at he
  subst he
  exact this.1 hb
 ·intro x hx
  have := List.any_eq_false.1 h x hx
  simp only [Bool.or_eq_true, not_or, Bool.not_eq_true] at this
  exact this.2
theorem guarded_move {o : Oper} {env env' : Nat → AV} {h h' : Heap} {id next next' : Nat} {e : Eff} (hg : guardedOp (wantedA ops env o) (evalOp X call env h id next o.op) = some e)
  (hw : wantedA ops env' o = wantedA ops env o) (he : ∀ z ∈ o.op.operands, evalA X env' z = evalA X env z) (hh : match e with | .loc d => ∀ b ∈ d.rd, h' b = h b | .glob .. => h' = h ∧ next' = next) :
  guardedOp (wantedA ops env' o) (evalOp X call env' h' id next' o.op) = some e := by
 rw [hw]
 cases hwa : wantedA ops env o with
 | none => rw [hwa] at hg; simp [guardedOp] at hg
 | some b =>
  rw [hwa] at hg
  cases b with
  | false => exact hg
  | true =>
   simp only [guardedOp] at hg ⊢
   rw [evalOp_env he]
   cases e with
   | loc d => exact evalOp_heap hg hh
   | glob v h2 n =>
    obtain ⟨rfl, rfl⟩ := hh
    exact hg
theorem swap {i j : Nat} {a b : Oper} {st st1 st2 : St} {e1 e2 : Eff} (h1 : stepOp X call ops base i a st = some (st1, e1)) (h2 : stepOp X call ops base j b st1 = some (st2, e2))
  (hap : Oper.apart ops a b = true) (hd : e1.disj e2 = true) : ∃ st1', stepOp X call ops base j b st = some (st1', e2) ∧ stepOp X call ops base i a st1' = some (st2, e1) := by
 obtain ⟨p1, p2, p3⟩ := Oper.apart_spec hap
 obtain ⟨g1, rfl⟩ := stepOp_some.1 h1
 obtain ⟨g2, rfl⟩ := stepOp_some.1 h2
 obtain ⟨v1, hv1⟩ := after_env a st e1
 obtain ⟨q1, q2⟩ := looks_same (X := X) (env := st.env) (v := v1) p1
 obtain ⟨v2, hv2⟩ := after_env b st e2
 obtain ⟨r1, r2⟩ := looks_same (X := X) (env := st.env) (v := v2) p3
 rw [hv1] at g2
 refine ⟨Abs.after b st e2, stepOp_some.2 ⟨guarded_move g2 q1.symm (fun z hz => (q2 z hz).symm) ?_, rfl⟩, stepOp_some.2 ⟨?_, ?_⟩⟩
 ·
  cases e1 with
  | loc d =>
   cases e2 with
   | loc d' =>
    simp only [Eff.disj, Bool.and_eq_true, Bool.not_eq_true'] at hd
    intro x hx
    exact (applyWr_other _ _ _ ((hits_false hd.1).1 x hx)).symm
   | glob v h n =>
    simp only [Eff.disj, Bool.and_eq_true, List.isEmpty_iff] at hd
    simp only [Abs.after, hd.2, applyWr, and_self]
  | glob v h n =>
   cases e2 with
   | loc d' =>
    simp only [Eff.disj, Bool.and_eq_true, List.isEmpty_iff] at hd
    intro x hx
    rw [hd.1] at hx
    simp at hx
   | glob v' h' n' => simp [Eff.disj] at hd
 ·rw [hv2]
  refine guarded_move g1 r1 r2 ?_
  cases e1 with
  | loc d =>
   cases e2 with
   | loc d' =>
    simp only [Eff.disj, Bool.and_eq_true, Bool.not_eq_true'] at hd
    intro x hx
    exact applyWr_other _ _ _ ((hits_false hd.2).1 x hx)
   | glob v h n =>
    simp only [Eff.disj, Bool.and_eq_true, List.isEmpty_iff] at hd
    intro x hx
    rw [hd.1] at hx
    simp at hx
  | glob v h n =>
   cases e2 with
   | loc d' =>
    simp only [Eff.disj, Bool.and_eq_true, List.isEmpty_iff] at hd
    simp only [Abs.after, hd.2, applyWr, and_self]
   | glob v' h' n' => simp [Eff.disj] at hd
 ·
  cases e1 with
  | loc d =>
   cases e2 with
   | loc d' =>
    simp only [Eff.disj, Bool.and_eq_true, Bool.not_eq_true'] at hd
    simp only [Abs.after]
    rw [putEnv_comm p2, applyWr_comm _ _ _ (hits_false hd.1).2]
   | glob v h n =>
    simp only [Abs.after]
    simp only [Eff.disj, Bool.and_eq_true, List.isEmpty_iff] at hd
    rw [putEnv_comm p2, hd.2]
    rfl
  | glob v h n =>
   cases e2 with
   | loc d' =>
    simp only [Eff.disj, Bool.and_eq_true, List.isEmpty_iff] at hd
    simp only [Abs.after]
    rw [putEnv_comm p2, hd.2]
    rfl
   | glob v' h' n' => simp [Eff.disj] at hd
def Indep (ops : Array Oper) (a x : Did) : Prop := Oper.apart ops a.o x.o = true ∧ a.e.disj x.e = true
theorem move_front {x : Did} : ∀ (A B : List Did) (st st' : St), Runs X call ops base st (A ++ x :: B) st' → (∀ a ∈ A, Indep ops a x) → Runs X call ops base st (x :: (A ++ B)) st' := by
 intro A
 induction A with
 | nil => intro B st st' h _; exact h
 | cons a A ih =>
  intro B st st' h hi
  obtain ⟨st1, h1, h2⟩ := h
  obtain ⟨st2, h3, h4⟩ := ih B st1 st' h2 fun b hb => hi b (by simp [hb])
  obtain ⟨hap, hd⟩ := hi a (by simp)
  obtain ⟨st1', k1, k2⟩ := swap h1 h3 hap hd
  exact ⟨st1', k1, st2, k2, h4⟩
theorem runs_text : ∀ (l : List Oper) (i : Nat) (st st' : St) (T : List (Oper × Eff)), runTextE X call ops base l i st = some (st', T) → Runs X call ops base st ((T.zipIdx i).map fun x => ⟨x.2, x.1.1, x.1.2⟩) st' ∧ T.map (·.1) = l := by
 intro l
 induction l with
 | nil =>
  intro i st st' T h
  simp only [runTextE, Option.some.injEq, Prod.mk.injEq] at h
  obtain ⟨rfl, rfl⟩ := h
  exact ⟨rfl, rfl⟩
 | cons o os ih =>
  intro i st st' T h
  obtain ⟨⟨st1, e⟩, h1, hk⟩ := nx_eq_some.1 h
  obtain ⟨⟨st2, T'⟩, h2, hk⟩ := mp_eq_some.1 hk
  simp only [Prod.mk.injEq] at hk
  obtain ⟨rfl, rfl⟩ := hk
  obtain ⟨k1, k2⟩ := ih (i + 1) st1 st2 T' h2
  exact ⟨⟨st1, h1, k1⟩, by simp [k2]⟩
theorem reorder : ∀ (l : List Nat) (T : List Did) (st st' : St), Runs X call ops base st T st' → (∀ d ∈ T, ops[d.i]? = some d.o) → ∀ (bef : Nat → Nat → Bool), T.Pairwise (fun a x => bef x.i a.i = true ∨ Indep ops a x) →
  (T.map (·.i)).Perm l → (∀ (p : List Nat) (i : Nat) (q : List Nat), l = p ++ i :: q → ∀ k ∈ q, bef i k = false) → execL X call ops base l st = some st' := by
 intro l
 induction l with
 | nil =>
  intro T st st' hr _ _ _ hp _
  have : T = [] := by simpa using hp.eq_nil
  subst this
  simp only [Runs] at hr
  subst hr
  rfl
 | cons i l ih =>
  intro T st st' hr ho bef hpw hp hres
  have hmem : i ∈ T.map (·.i) := hp.symm.subset (by simp)
  obtain ⟨x, hx, rfl⟩ := List.mem_map.1 hmem
  obtain ⟨A, B, rfl⟩ := List.append_of_mem hx
  have hox := ho x (by simp)
  have hp' : ((A ++ B).map (·.i)).Perm l := by
   have h1 : ((A ++ x :: B).map (·.i)).Perm (x.i :: (A ++ B).map (·.i)) := by
    rw [List.map_append, List.map_cons, List.map_append]
    exact List.perm_middle
   exact (List.perm_cons x.i).1 (h1.symm.trans hp)
  have hind : ∀ a ∈ A, Indep ops a x := by
   intro a ha
   have := (List.pairwise_append.1 hpw).2.2 a ha x (by simp)
   rcases this with he | hi
   ·have hin : a.i ∈ l := hp'.subset (List.mem_map.2 ⟨a, by simp [ha], rfl⟩)
    have := hres [] x.i l rfl a.i hin
    rw [this] at he
    simp at he
   ·exact hi
  obtain ⟨st1, h1, h2⟩ := move_front A B st st' hr hind
  rw [execL, hox]
  refine nx_eq_some.2 ⟨(st1, x.e), h1, ih (A ++ B) st1 st' h2 (fun d hd => ho d ?_) bef ?_ hp' fun p i q hl => hres (x.i :: p) i q (by rw [hl]; rfl)⟩
  ·rcases List.mem_append.1 hd with hd | hd <;> simp [hd]
  ·exact hpw.sublist (List.Sublist.append_left (List.sublist_cons_self x B) A)
end
section
variable {X : Ctx} {call : CallFn} {ops : Array Oper}
def lin (ops : Array Oper) (fuel t : Nat) (listed : Array Bool) : List Nat := Region.linearise.go .any ops fuel t listed []
theorem lin_succ (ops : Array Oper) (fuel t : Nat) (listed : Array Bool) : lin ops (fuel + 1) t listed =
  match (Region.ready .any ops listed)[t % (Region.ready .any ops listed).length]? with
  | some i => i :: lin ops fuel (t / (Region.ready .any ops listed).length) (listed.setIfInBounds i true)
  | none => [] := by
 unfold lin
 simp only [Region.linearise.go]
 show (match (Region.ready .any ops listed)[t % (Region.ready .any ops listed).length]? with
  | some i => Region.linearise.go .any ops fuel (t / (Region.ready .any ops listed).length) (listed.setIfInBounds i true) [i]
  | none => _) = _
 split
 ·rw [linearise_go_acc]; rfl
 ·rfl
theorem mem_ready {listed : Array Bool} {i : Nat} : i ∈ Region.ready .any ops listed ↔ ∃ o, ops[i]? = some o ∧ listed.getD i true = false ∧ ∀ e ∈ o.after, Region.binds .any e = true → listed.getD e.on false = true := by
 unfold Region.ready
 simp only [List.mem_filter, List.mem_range, Bool.and_eq_true, Bool.not_eq_true']
 constructor
 ·rintro ⟨hlt, h1, h2⟩
  refine ⟨ops[i], Array.getElem?_eq_getElem hlt, h1, fun e he hb => ?_⟩
  rw [Array.getElem?_eq_getElem hlt] at h2
  simp only [Option.map_some, Option.getD_some] at h2
  have := Array.all_eq_true_iff_forall_mem.1 h2 e he
  simpa [hb] using this
 ·rintro ⟨o, ho, h1, h2⟩
  have hlt : i < ops.size := (Array.getElem?_eq_some_iff.1 ho).1
  refine ⟨hlt, h1, ?_⟩
  rw [ho]
  simp only [Option.map_some, Option.getD_some]
  refine Array.all_eq_true_iff_forall_mem.2 fun e he => ?_
  cases hb : Region.binds .any e with
  | false => rfl
  | true => simpa using h2 e he hb
def openN (n : Nat) (listed : Array Bool) : List Nat := (List.range n).filter fun i => !listed.getD i true
theorem mem_openN {n : Nat} {listed : Array Bool} {i : Nat} : i ∈ openN n listed ↔ i < n ∧ listed.getD i true = false := by
 simp [openN]
theorem getD_set {listed : Array Bool} {i j : Nat} (hi : i < listed.size) : (listed.setIfInBounds i true).getD j true = if j = i then true else listed.getD j true := by
 simp only [Array.getD_eq_getD_getElem?, Array.getElem?_setIfInBounds]
 by_cases h : i = j
 ·subst h; simp [hi]
 ·rw [if_neg h, if_neg fun e => h e.symm]
theorem lin_facts (hedge : ∀ (i : Nat) (o : Oper), ops[i]? = some o → ∀ e ∈ o.after, Region.binds .any e = true → e.on < i) : ∀ (fuel t : Nat) (listed : Array Bool), listed.size = ops.size → (openN ops.size listed).length = fuel →
  (lin ops fuel t listed).Nodup ∧ (∀ i, i ∈ lin ops fuel t listed ↔ i ∈ openN ops.size listed) ∧
  ∀ (p : List Nat) (i : Nat) (q : List Nat), lin ops fuel t listed = p ++ i :: q → ∀ o, ops[i]? = some o → ∀ k ∈ q, edgeOn o k = false := by
 intro fuel
 induction fuel with
 | zero =>
  intro t listed hsz hlen
  have hnil : openN ops.size listed = [] := List.length_eq_zero_iff.1 hlen
  have hl : lin ops 0 t listed = [] := rfl
  rw [hl, hnil]
  exact ⟨List.nodup_nil, fun i => Iff.rfl, fun p i q h => by simp at h⟩
 | succ fuel ih =>
  intro t listed hsz hlen
  have hne : Region.ready .any ops listed ≠ [] := by
   intro hnil
   have hopen : ∀ n i, i ≤ n → i ∉ openN ops.size listed := by
    intro n
    induction n with
    | zero =>
     intro i hi hmem
     obtain ⟨hlt, hl⟩ := mem_openN.1 hmem
     have : i ∈ Region.ready .any ops listed := mem_ready.2 ⟨ops[i], Array.getElem?_eq_getElem hlt, hl, fun e he hb => by
      have := hedge i _ (Array.getElem?_eq_getElem hlt) e he hb; omega⟩
     rw [hnil] at this; simp at this
    | succ n ihn =>
     intro i hi hmem
     obtain ⟨hlt, hl⟩ := mem_openN.1 hmem
     have : i ∈ Region.ready .any ops listed := mem_ready.2 ⟨ops[i], Array.getElem?_eq_getElem hlt, hl, fun e he hb => by
      have hon := hedge i _ (Array.getElem?_eq_getElem hlt) e he hb
      have hno := ihn e.on (by omega)
      rw [mem_openN] at hno
      have h2 : listed.getD e.on true = true := by
       cases hh : listed.getD e.on true with
       | true => rfl
       | false => exact absurd ⟨by omega, hh⟩ hno
      have hlt' : e.on < listed.size := by omega
      simp only [Array.getD_eq_getD_getElem?, Array.getElem?_eq_getElem hlt', Option.getD_some] at h2 ⊢
      exact h2⟩
     rw [hnil] at this; simp at this
   have : openN ops.size listed = [] := List.eq_nil_iff_forall_not_mem.2 fun i => hopen i i (Nat.le_refl _)
   rw [this] at hlen
   simp at hlen
  obtain ⟨i, hi⟩ : ∃ i, (Region.ready .any ops listed)[t % (Region.ready .any ops listed).length]? = some i := by
   have hpos : 0 < (Region.ready .any ops listed).length := List.length_pos_iff.2 hne
   exact ⟨_, List.getElem?_eq_getElem (Nat.mod_lt _ hpos)⟩
  have hir := List.mem_of_getElem? hi
  obtain ⟨o, ho, hl, hall⟩ := mem_ready.1 hir
  have hilt : i < ops.size := (Array.getElem?_eq_some_iff.1 ho).1
  rw [lin_succ, hi]
  simp only
  have hmemi : i ∈ openN ops.size listed := mem_openN.2 ⟨hilt, hl⟩
  have hopen' : ∀ j, j ∈ openN ops.size (listed.setIfInBounds i true) ↔ j ∈ openN ops.size listed ∧ j ≠ i := by
   intro j
   rw [mem_openN, mem_openN, getD_set (by omega)]
   by_cases hji : j = i
   ·simp [hji]
   ·simp [hji]
  have hnd : ∀ l : Array Bool, (openN ops.size l).Nodup := fun l => List.Pairwise.filter _ List.nodup_range
  have hlen' : (openN ops.size (listed.setIfInBounds i true)).length = fuel := by
   have hperm : (openN ops.size listed).Perm (i :: openN ops.size (listed.setIfInBounds i true)) := by
    rw [List.perm_ext_iff_of_nodup (hnd _) (List.nodup_cons.2 ⟨fun h => ((hopen' i).1 h).2 rfl, hnd _⟩)]
    intro j
    rw [List.mem_cons, hopen']
    by_cases hji : j = i
    ·subst hji; simp [hmemi]
    ·simp [hji]
   have := hperm.length_eq
   rw [hlen] at this
   simp at this
   omega
  obtain ⟨k1, k2, k3⟩ := ih (t / (Region.ready .any ops listed).length) (listed.setIfInBounds i true) (by simpa using hsz) hlen'
  refine ⟨List.nodup_cons.2 ⟨fun h => ((hopen' i).1 ((k2 i).1 h)).2 rfl, k1⟩, fun j => ?_, fun p j q hpq o' ho' k hk => ?_⟩
  ·rw [List.mem_cons, k2, hopen']
   by_cases hji : j = i
   ·subst hji; simp [hmemi]
   ·simp [hji]
  ·cases p with
   | nil =>
    simp only [List.nil_append, List.cons.injEq] at hpq
    obtain ⟨rfl, rfl⟩ := hpq
    rw [ho] at ho'
    cases ho'
    obtain ⟨hko, hki⟩ := (hopen' k).1 ((k2 k).1 hk)
    obtain ⟨hklt, hkl⟩ := mem_openN.1 hko
    cases he : edgeOn o k with
    | false => rfl
    | true =>
     unfold edgeOn at he
     rw [← Array.any_toList] at he
     obtain ⟨e, hem, heq⟩ := List.any_eq_true.1 he
     have hem := Array.mem_toList_iff.1 hem
     simp only [Bool.and_eq_true, beq_iff_eq] at heq
     have := hall e hem heq.2
     rw [heq.1] at this
     have hlt' : k < listed.size := by omega
     simp only [Array.getD_eq_getD_getElem?, Array.getElem?_eq_getElem hlt', Option.getD_some] at this hkl
     rw [this] at hkl
     simp at hkl
   | cons x p =>
    simp only [List.cons_append, List.cons.injEq] at hpq
    exact k3 p j q hpq.2 o' ho' k hk
theorem lin_all (hedge : ∀ (i : Nat) (o : Oper), ops[i]? = some o → ∀ e ∈ o.after, Region.binds .any e = true → e.on < i) (t : Nat) :
  (List.range ops.size).Perm (Region.linearise .any ops t) ∧ ∀ (p : List Nat) (i : Nat) (q : List Nat), Region.linearise .any ops t = p ++ i :: q → ∀ o, ops[i]? = some o → ∀ k ∈ q, edgeOn o k = false := by
 have hop : openN ops.size (Array.replicate ops.size false) = List.range ops.size := by
  unfold openN
  rw [List.filter_eq_self]
  intro i hi
  simp at hi
  simp [Array.getD_eq_getD_getElem?, hi]
 obtain ⟨h1, h2, h3⟩ := lin_facts hedge ops.size t (Array.replicate ops.size false) (by simp) (by rw [hop]; simp)
 refine ⟨?_, h3⟩
 rw [hop] at h2
 exact (List.perm_ext_iff_of_nodup List.nodup_range h1).2 fun i => (h2 i).symm
theorem reach_before {l : List Nat} (hedge : ∀ (i : Nat) (o : Oper), ops[i]? = some o → ∀ e ∈ o.after, Region.binds .any e = true → e.on < i) (hp : (List.range ops.size).Perm l)
  (hres : ∀ (p : List Nat) (i : Nat) (q : List Nat), l = p ++ i :: q → ∀ o, ops[i]? = some o → ∀ k ∈ q, edgeOn o k = false) : ∀ (n j k : Nat), reachB ops n j k = true → ∀ p q, l = p ++ j :: q → k ∉ q := by
 intro n
 induction n with
 | zero => intro j k h; simp [reachB] at h
 | succ n ih =>
  intro j k h p q hl hk
  simp only [reachB] at h
  split at h
  ·simp at h
  ·rename_i o ho
   rw [← Array.any_toList] at h
   obtain ⟨e, hem, he⟩ := List.any_eq_true.1 h
   have hem := Array.mem_toList_iff.1 hem
   simp only [Bool.and_eq_true, Bool.or_eq_true, beq_iff_eq] at he
   obtain ⟨hb, he⟩ := he
   have hon : edgeOn o e.on = true := by
    unfold edgeOn
    rw [← Array.any_toList]
    exact List.any_eq_true.2 ⟨e, Array.mem_toList_iff.2 hem, by simp [hb]⟩
   rcases he with he | he
   ·have := hres p j q hl o ho k hk
    rw [← he, hon] at this
    simp at this
   ·have hlt := hedge j o ho e hem hb
    have hjlt : j < ops.size := (Array.getElem?_eq_some_iff.1 ho).1
    have hmem : e.on ∈ l := hp.subset (by simp; omega)
    have hnq : e.on ∉ q := fun hq => by
     have := hres p j q hl o ho _ hq
     rw [hon] at this; simp at this
    have hmp : e.on ∈ p := by
     rw [hl] at hmem
     rcases List.mem_append.1 hmem with hm | hm
     ·exact hm
     ·rcases List.mem_cons.1 hm with hm | hm
      ·omega
      ·exact absurd hm hnq
    obtain ⟨p1, p2, rfl⟩ := List.append_of_mem hmp
    exact ih e.on k he p1 (p2 ++ j :: q) (by rw [hl]; simp) (by simp [hk])
structure StRel (X : Ctx) (base nt : Nat) (W : Nat → Prop) (μ : Mu) (st : St) (a : Act) (w : World) : Prop where
 sim : Sim X base W μ st.heap w
 env : ∀ t, Rep w W μ (a.tmps.getD t undef) (st.env t)
 nt : a.tmps.size = nt
 defers : a.defers = []
 free : ∀ b, st.next ≤ b → μ b = none
def Named (μ μ' : Mu) (lo hi : Nat) : Prop := lo ≤ hi ∧ ∀ b, μ' b ≠ none → μ b ≠ none ∨ (lo ≤ b ∧ b < hi)
theorem Named.trans {μ μ1 μ2 : Mu} {a b c : Nat} (h : Named μ μ1 a b) (k : Named μ1 μ2 b c) : Named μ μ2 a c :=
 ⟨Nat.le_trans h.1 k.1, fun x hx => (k.2 x hx).elim (fun hx => (h.2 x hx).imp (fun y => y) fun y => ⟨y.1, Nat.lt_of_lt_of_le y.2 k.1⟩) fun hx => .inr ⟨Nat.le_trans h.1 hx.1, hx.2⟩⟩
theorem Named.refl (μ : Mu) (n : Nat) : Named μ μ n n := ⟨Nat.le_refl _, fun _ h => .inl h⟩
theorem wanted_sound {base : Nat} {W : Nat → Prop} {μ : Mu} {w : World} {a : Act} {env : Nat → AV} (henv : ∀ t, Rep w W μ (a.tmps.getD t undef) (env t)) {o : Oper} {b : Bool} (hw : wantedA ops env o = some b) :
  Region.wanted o (yielded ops a.tmps) = b := by
 unfold wantedA at hw
 unfold Region.wanted
 cases hg : o.guard with
 | none => rw [hg] at hw; simp only [Option.some.injEq] at hw; exact hw
 | some g =>
  obtain ⟨j, want⟩ := g
  rw [hg] at hw
  simp only at hw ⊢
  unfold yielded
  cases hj : ops[j]? with
  | none => rw [hj] at hw; simp only [Option.some.injEq] at hw; subst hw; rfl
  | some p =>
   rw [hj] at hw
   simp only at hw
   cases hd : p.dst with
   | none => rw [hd] at hw; simp only [Option.some.injEq] at hw; subst hw; simp [hd]
   | some t =>
    rw [hd] at hw
    simp only at hw
    simp only [Option.bind_some, hd]
    have hr := henv t
    simp only [Array.getD_eq_getD_getElem?] at hr
    cases ht : a.tmps[t]? with
    | none =>
     rw [ht] at hr
     simp only [Option.getD_none, undef] at hr
     generalize env t = x at hr hw
     cases hr with
     | tuple _ vs as h1 _ =>
      cases as with
      | nil => simp only [Option.some.injEq] at hw; subst hw; rfl
      | cons y ys => simp at h1
    | some v =>
     rw [ht] at hr
     simp only [Option.getD_some] at hr
     generalize env t = x at hr hw
     cases hr with
     | bool _ p => simp only [Option.some.injEq] at hw; subst hw; cases p <;> cases want <;> rfl
     | tuple _ vs as h1 _ =>
      cases as with
      | nil => simp only [Option.some.injEq] at hw; subst hw; rfl
      | cons y ys => simp at hw
     | _ => simp at hw
theorem putRep {base : Nat} {w w' : World} {W W' : Nat → Prop} {μ μ' : Mu} (hst : Step base w W μ w' W' μ') {a : Act} {env : Nat → AV} (henv : ∀ t, Rep w W μ (a.tmps.getD t undef) (env t)) {dst : Option Tmp} (hd : ∀ t, dst = some t → t < a.tmps.size) {v : Value} {x : AV} (hx : Rep w' W' μ' v x) :
  ∀ t, Rep w' W' μ' ((a.put dst v).tmps.getD t undef) (putEnv env dst x t) := by
 intro t
 cases dst with
 | none => exact (henv t).step hst
 | some d =>
  simp only [Act.put, putEnv, upd, Array.getD_eq_getD_getElem?, Array.getElem?_setIfInBounds]
  by_cases htd : t = d
  ·subst htd
   rw [if_pos rfl, if_pos rfl, if_pos (hd t rfl)]
   exact hx
  ·rw [if_neg (fun e => htd e.symm), if_neg htd]
   have := (henv t).step hst
   simpa [Array.getD_eq_getD_getElem?] using this
theorem put_size (a : Act) (d : Option Tmp) (v : Value) : (a.put d v).tmps.size = a.tmps.size ∧ (a.put d v).defers = a.defers := by
 cases d <;> simp [Act.put]
theorem exec_sound {base nt : Nat} (hcs : CallSound X call) (hdst : ∀ (i : Nat) (o : Oper), ops[i]? = some o → ∀ t, o.dst = some t → t < nt) {b0 : Nat} : ∀ (l : List Nat), l.Nodup → (∀ i ∈ l, i < ops.size) →
  ∀ (st st' : St) (a : Act) (w : World) (W : Nat → Prop) (μ : Mu), execL X call ops b0 l st = some st' → StRel X base nt W μ st a w → b0 + 8 * ops.size ≤ st.next → (∀ i ∈ l, ∀ k, k < 8 → μ (b0 + 8 * i + k) = none) →
  ∀ (Q : Exit → Act → World → Prop), (∀ a' w' W' μ', Step base w W μ w' W' μ' → StRel X base nt W' μ' st' a' w' → st.next ≤ st'.next → (∀ b, μ' b ≠ none → μ b ≠ none ∨ (∃ i ∈ l, b0 + 8 * i ≤ b ∧ b < b0 + 8 * i + 8) ∨ (st.next ≤ b ∧ b < st'.next)) → Q .normal a' w') → wpOps X.P ops Q l a w := by
 intro l
 induction l with
 | nil =>
  intro _ _ st st' a w W μ he hr _ _ Q hQ
  simp only [execL, Option.some.injEq] at he
  subst he
  exact hQ a w W μ (Step.refl _ _ _ _) hr (Nat.le_refl _) fun b hb => .inl hb
 | cons i l ih =>
  intro hnd hlt st st' a w W μ he hr hnext hfree Q hQ
  have hilt := hlt i (by simp)
  have ho : ops[i]? = some ops[i] := Array.getElem?_eq_getElem hilt
  generalize ops[i] = o at ho
  obtain ⟨hni, hnd'⟩ := List.nodup_cons.1 hnd
  rw [execL, ho] at he
  obtain ⟨⟨st1, e⟩, h1, h2⟩ := nx_eq_some.1 he
  simp only at h2
  obtain ⟨hg, hst1⟩ := stepOp_some.1 h1
  simp only [wpOps, ho]
  have hd : ∀ t, o.dst = some t → t < a.tmps.size := fun t ht => by rw [hr.nt]; exact hdst i o ho t ht
  have rest : ∀ (v : Value) (w1 : World) (W1 : Nat → Prop) (μ1 : Mu), Step base w W μ w1 W1 μ1 → StRel X base nt W1 μ1 st1 (a.put o.dst v) w1 → st.next ≤ st1.next →
    (∀ b, μ1 b ≠ none → μ b ≠ none ∨ (b0 + 8 * i ≤ b ∧ b < b0 + 8 * i + 8) ∨ (st.next ≤ b ∧ b < st1.next)) → wpOps X.P ops Q l (a.put o.dst v) w1 := by
   intro v w1 W1 μ1 s1 r1 hn1 hnm
   refine ih hnd' (fun j hj => hlt j (by simp [hj])) st1 st' _ w1 W1 μ1 h2 r1 (by omega) (fun j hj k hk => ?_) Q fun a' w' W' μ' s2 r2 hn2 hnm2 => ?_
   ·cases hm : μ1 (b0 + 8 * j + k) with
    | none => rfl
    | some m =>
     have hji : j ≠ i := fun e => by subst e; exact hni hj
     have hjlt := hlt j (by simp [hj])
     rcases hnm (b0 + 8 * j + k) (by simp [hm]) with h | h | h
     ·exact absurd (hfree j (by simp [hj]) k hk) h
     ·omega
     ·omega
   ·refine hQ a' w' W' μ' (s1.trans s2) r2 (by omega) fun b hb => ?_
    rcases hnm2 b hb with h | ⟨j, hj, h⟩ | h
    ·rcases hnm b h with h | h | h
     ·exact .inl h
     ·exact .inr (.inl ⟨i, by simp, h⟩)
     ·exact .inr (.inr ⟨h.1, by omega⟩)
    ·exact .inr (.inl ⟨j, by simp [hj], h⟩)
    ·exact .inr (.inr ⟨by omega, h.2⟩)
  cases hw : wantedA ops st.env o with
  | none => rw [hw] at hg; simp [guardedOp] at hg
  | some b =>
   have hwb := wanted_sound (base := base) hr.env hw
   rw [hw] at hg
   cases b with
   | false =>
    simp only [hwb, Bool.false_eq_true, if_false]
    simp only [guardedOp, Option.some.injEq] at hg
    subst hg
    subst hst1
    have hput := putRep (Step.refl base w W μ) hr.env hd (v := undef) (x := .tuple []) (.tuple _ #[] [] rfl (by simp))
    exact rest undef w W μ (Step.refl _ _ _ _) ⟨hr.sim, hput, by rw [(put_size a o.dst undef).1]; exact hr.nt, by rw [(put_size a o.dst undef).2]; exact hr.defers, hr.free⟩ (Nat.le_refl _) (fun b hb => .inl hb)
   | true =>
    simp only [hwb, if_true]
    left
    simp only [guardedOp] at hg
    have hru := evalOp_sound hcs hr.sim hr.env (fun k hk => hfree i (by simp) k hk) hr.free o hg
    have fin : ∀ (v : Value) (w1 : World), EffOut X base W μ st.heap w (b0 + 8 * i) st.next e v w1 → wpOps X.P ops Q l (a.put o.dst v) w1 := by
     intro v w1 ho
     subst hst1
     cases e with
     | loc d =>
      obtain ⟨W1, μ1, s1, m1, r1, n1⟩ := ho
      refine rest v w1 W1 μ1 s1 ⟨m1, putRep s1 hr.env hd r1, by rw [(put_size a o.dst v).1]; exact hr.nt, by rw [(put_size a o.dst v).2]; exact hr.defers, fun b hb => ?_⟩ (Nat.le_refl _) (fun b hb => (n1 b hb).imp (fun h => h) .inl)
      cases hm : μ1 b with
      | none => rfl
      | some m =>
       have hb' : st.next ≤ b := hb
       rcases n1 b (by simp [hm]) with h | h
       ·exact absurd (hr.free b hb') h
       ·omega
     | glob x h2 n2 =>
      obtain ⟨hnn, W1, μ1, s1, m1, r1, n1⟩ := ho
      refine rest v w1 W1 μ1 s1 ⟨m1, putRep s1 hr.env hd r1, by rw [(put_size a o.dst v).1]; exact hr.nt, by rw [(put_size a o.dst v).2]; exact hr.defers, fun b hb => ?_⟩ hnn (fun b hb => (n1 b hb).imp (fun h => h) .inr)
      cases hm : μ1 b with
      | none => rfl
      | some m =>
       have hb' : n2 ≤ b := hb
       rcases n1 b (by simp [hm]) with h | h
       ·exact absurd (hr.free b (by omega)) h
       ·omega
    show o.upon X.P a _ Q ((execOp a.eval o).run X.P w)
    rcases hru with ⟨v, w1, hrun, ho⟩ | ⟨w1, hrun, ho⟩ | ⟨f, args, hrun, hcalls⟩
    ·rw [hrun]; exact fin v w1 ho
    ·rw [hrun]; exact fin undef w1 ho
    ·rw [hrun]
     refine Calls.mono hcalls ?_
     rintro en w1 ⟨u, rfl, ho⟩
     exact fin u w1 ho
theorem runText_exec (ops : Array Oper) (b0 : Nat) : ∀ (l : List Oper) (i : Nat) (st : St), (∀ k, k < l.length → ops[i + k]? = l[k]?) → runText X call ops b0 l i st = execL X call ops b0 (List.range' i l.length) st := by
 intro l
 induction l with
 | nil => intro i st _; rfl
 | cons o os ih =>
  intro i st h
  have h0 := h 0 (by simp)
  simp only [Nat.add_zero, List.getElem?_cons_zero] at h0
  rw [List.length_cons, List.range'_succ, execL, h0]
  simp only [runText]
  congr 1
  funext r
  exact ih (i + 1) r.1 fun k hk => by
   have := h (k + 1) (by simp; omega)
   rw [show i + 1 + k = i + (k + 1) by omega, this]; simp
theorem regionOk_facts {nt : Nat} {draw : Bool} (hok : regionOk nt ops draw = true) : (∀ (i : Nat) (o : Oper), ops[i]? = some o → ∀ t, o.dst = some t → t < nt) ∧
  (draw = true → (∀ (i : Nat) (o : Oper), ops[i]? = some o → ∀ e ∈ o.after, Region.binds .any e = true → e.on < i) ∧ ∀ (i j : Nat) (x o : Oper), i < j → ops[i]? = some x → ops[j]? = some o → edgeOn o i = true ∨ Oper.apart ops x o = true) := by
 unfold regionOk at hok
 simp only [Bool.and_eq_true, Bool.or_eq_true, Bool.not_eq_true'] at hok
 obtain ⟨h1, h2⟩ := hok
 constructor
 ·intro i o ho t ht
  have := Array.all_eq_true_iff_forall_mem.1 h1 o (Array.mem_of_getElem? ho)
  rw [ht] at this
  simpa using this
 ·intro hd
  have h2 := h2.resolve_left (by simp [hd])
  have key : ∀ j o, ops[j]? = some o → (o.after.all (fun e => !Region.binds .any e || decide (e.on < j)) = true) ∧ ((ops.toList.take j).zipIdx.all fun x => edgeOn o x.2 || Oper.apart ops x.1 o) = true := by
   intro j o ho
   have hm : (o, j) ∈ ops.zipIdx := by
    rw [Array.mem_iff_getElem?]
    exact ⟨j, by rw [Array.getElem?_zipIdx, ho]; simp⟩
   have := Array.all_eq_true_iff_forall_mem.1 h2 (o, j) hm
   simpa only [Bool.and_eq_true] using this
  refine ⟨fun i o ho e he hb => ?_, fun i j x o hij hx ho => ?_⟩
  ·have := Array.all_eq_true_iff_forall_mem.1 (key i o ho).1 e he
   simpa [hb] using this
  ·have hm : (x, i) ∈ (ops.toList.take j).zipIdx := by
    rw [List.mem_iff_getElem?]
    exact ⟨i, by rw [List.getElem?_zipIdx, List.getElem?_take, if_pos hij]; simp [hx]⟩
   have := List.all_eq_true.1 (key j o ho).2 (x, i) hm
   simpa using this
theorem okPairs_facts : ∀ (T : List (Oper × Eff)) (i : Nat), okPairs ops i T = true → (∀ k k' : Nat, ∀ x y, k < k' → T[k]? = some x → T[k']? = some y → (edgeOn y.1 (i + k) = true ∨ reachB ops ops.size (i + k') (i + k) = true) ∨ x.2.disj y.2 = true) := by
 intro T
 induction T with
 | nil => intro i _ k k' x y _ hx; simp at hx
 | cons z T ih =>
  intro i hok k k' x y hlt hx hy
  obtain ⟨o, e⟩ := z
  simp only [okPairs, Bool.and_eq_true] at hok
  cases k' with
  | zero => omega
  | succ k' =>
   simp only [List.getElem?_cons_succ] at hy
   cases k with
   | zero =>
    simp only [List.getElem?_cons_zero, Option.some.injEq] at hx
    subst hx
    have hw : ∀ (l : List (Oper × Eff)) (j : Nat), okWith ops i e j l = true → ∀ (k : Nat) y, l[k]? = some y → (edgeOn y.1 i = true ∨ reachB ops ops.size (j + k) i = true) ∨ e.disj y.2 = true := by
     intro l
     induction l with
     | nil => intro j _ k y hy; simp at hy
     | cons a as iha =>
      intro j h k y hy
      simp only [okWith, Bool.and_eq_true, Bool.or_eq_true] at h
      cases k with
      | zero =>
       simp only [List.getElem?_cons_zero, Option.some.injEq] at hy
       subst hy
       exact h.1.symm
      | succ k =>
       simp only [List.getElem?_cons_succ] at hy
       have := iha (j + 1) h.2 k y hy
       rwa [show j + 1 + k = j + (k + 1) by omega] at this
    have := hw T (i + 1) hok.1 k' y hy
    rwa [show i + 1 + k' = i + (k' + 1) by omega] at this
   | succ k =>
    simp only [List.getElem?_cons_succ] at hx
    have := ih (i + 1) hok.2 k k' x y (by omega) hx hy
    rwa [show i + 1 + k = i + (k + 1) by omega, show i + 1 + k' = i + (k' + 1) by omega] at this
theorem region_sound {base nt : Nat} (hmix : X.P.follows .mixedOrders = true) (hcs : CallSound X call) {id : Nat} {draw : Bool} (hok : regionOk nt ops draw = true) {st st' : St} (hrun : runRegion X call ops draw st = some st')
  {a : Act} {w : World} {W : Nat → Prop} {μ : Mu} (hr : StRel X base nt W μ st a w) {Q : Exit → Act → World → Prop}
  (hQ : ∀ a' w' W' μ', Step base w W μ w' W' μ' → StRel X base nt W' μ' st' a' w' → Named μ μ' st.next st'.next → Q .normal a' w') : (Code.region id ops draw).wp X.P Q a w := by
 obtain ⟨hdst, hdraw⟩ := regionOk_facts hok
 have fin : ∀ (l : List Nat), (List.range ops.size).Perm l → ∀ (w0 : World), Step base w W μ w0 W μ → StRel X base nt W μ { st with next := st.next + 8 * ops.size } a w0 →
   execL X call ops st.next l { st with next := st.next + 8 * ops.size } = some st' → wpOps X.P ops Q l a w0 := by
  intro l hp w0 hs0 hr0 he
  refine exec_sound hcs hdst l (hp.nodup_iff.1 List.nodup_range) (fun i hi => by simpa using hp.symm.subset hi) _ st' a w0 W μ he hr0 (Nat.le_refl _) (fun i _ k _ => hr.free _ (by omega)) Q fun a' w' W' μ' s1 r1 hn hnm => ?_
  refine hQ a' w' W' μ' (hs0.trans s1) r1 ⟨?_, fun b hb => ?_⟩
  ·have : st.next + 8 * ops.size ≤ st'.next := hn
   omega
  ·have hn' : st.next + 8 * ops.size ≤ st'.next := hn
   rcases hnm b hb with h | ⟨i, hi, h⟩ | h
   ·exact .inl h
   ·have : i < ops.size := by simpa using hp.symm.subset hi
    right; omega
   ·have h1 : st.next + 8 * ops.size ≤ b := h.1
    right; exact ⟨by omega, h.2⟩
 have hr' : ∀ w0 : World, Sim X base W μ st.heap w0 → (∀ t, Rep w0 W μ (a.tmps.getD t undef) (st.env t)) → StRel X base nt W μ { st with next := st.next + 8 * ops.size } a w0 := fun w0 h1 h2 =>
  ⟨h1, h2, hr.nt, hr.defers, fun b hb => hr.free b (by have : st.next + 8 * ops.size ≤ b := hb; omega)⟩
 unfold runRegion at hrun
 cases draw with
 | false =>
  simp only [Bool.false_eq_true, if_false] at hrun
  refine wp_region (fin _ (List.Perm.refl _) w (Step.refl _ _ _ _) (hr' w hr.sim hr.env) ?_)
  rw [runText_exec ops st.next ops.toList 0 _ (fun k hk => by simp)] at hrun
  rw [List.range_eq_range']
  simpa using hrun
 | true =>
  simp only [if_true] at hrun
  obtain ⟨⟨st2, T⟩, h1, hk⟩ := nx_eq_some.1 hrun
  simp only at hk
  split at hk
  ·rename_i hpairs
   simp only [Option.some.injEq] at hk
   subst hk
   obtain ⟨hedge, hapart⟩ := hdraw rfl
   obtain ⟨hruns, hmap⟩ := runs_text _ _ _ _ _ h1
   have hlen : T.length = ops.size := by have := congrArg List.length hmap; simpa using this
   have hTo : ∀ (k : Nat) (x : Oper × Eff), T[k]? = some x → ops[k]? = some x.1 := by
    intro k x hx
    have : (T.map (·.1))[k]? = some x.1 := by rw [List.getElem?_map, hx]; rfl
    rw [hmap] at this
    simpa using this
   refine wp_region_draw fun t => ?_
   simp only [Region.schedule, hmix, Bool.true_or, if_true]
   obtain ⟨hp, hres⟩ := lin_all hedge t
   have hd := step_drawn w W μ base
   refine fin _ hp _ hd (hr' _ hr.sim.drawn fun t => (hr.env t).step hd) ?_
   refine reorder _ _ _ _ hruns ?_ (fun j i => (match ops[j]? with | some o => edgeOn o i | none => false) || reachB ops ops.size j i) ?_ ?_ fun p i q hl k hk => ?_
   ·intro d hd
    obtain ⟨x, hx, rfl⟩ := List.mem_map.1 hd
    obtain ⟨k, hk⟩ := List.mem_iff_getElem?.1 hx
    rw [List.getElem?_zipIdx] at hk
    obtain ⟨y, hy, rfl⟩ := Option.map_eq_some_iff.1 hk
    simpa using hTo k y hy
   ·rw [List.pairwise_map, List.pairwise_iff_getElem]
    intro k k' hk hk' hlt
    simp only [List.length_zipIdx] at hk hk'
    simp only [List.getElem_zipIdx, Nat.zero_add]
    have e1 := List.getElem?_eq_getElem hk
    have e2 := List.getElem?_eq_getElem hk'
    rcases okPairs_facts T 0 hpairs k k' _ _ hlt e1 e2 with (h | h) | h
    ·left; simp only [hTo k' _ e2]; rw [Nat.zero_add] at h; rw [h, Bool.true_or]
    ·left; rw [Nat.zero_add, Nat.zero_add] at h; rw [h, Bool.or_true]
    ·rcases hapart k k' _ _ hlt (hTo k _ e1) (hTo k' _ e2) with h' | h'
     ·left; simp only [hTo k' _ e2]; rw [h', Bool.true_or]
     ·exact .inr ⟨h', h⟩
   ·have : (T.zipIdx.map fun x => (⟨x.2, x.1.1, x.1.2⟩ : Did)).map (·.i) = List.range ops.size := by
     rw [List.map_map]
     have : ((fun d : Did => d.i) ∘ fun x : (Oper × Eff) × Nat => (⟨x.2, x.1.1, x.1.2⟩ : Did)) = Prod.snd := rfl
     rw [this, ← hlen]
     apply List.ext_getElem?
     intro k
     rw [List.getElem?_map, List.getElem?_zipIdx]
     by_cases hk : k < T.length
     ·rw [List.getElem?_eq_getElem hk, List.getElem?_range hk]; simp
     ·rw [List.getElem?_eq_none (by omega), List.getElem?_eq_none (by simp; omega)]; rfl
    rw [this]
    exact hp
   ·have h1 : (match ops[i]? with | some o => edgeOn o k | none => false) = false := by
     split
     ·rename_i o ho; exact hres p i q hl o ho k hk
     ·rfl
    have h2 : reachB ops ops.size i k = false := by
     cases h : reachB ops ops.size i k with
     | false => rfl
     | true => exact absurd hk (reach_before hedge hp hres _ _ _ h p q hl)
    show ((match ops[i]? with | some o => edgeOn o k | none => false) || reachB ops ops.size i k) = false
    rw [h1, h2]; rfl
  ·simp at hk
end
end Go.Proofs.YtenhjccadhlgoaaGreat.Abs
