/-
  THE INTERPRETER IS SOUND: what it computes of a call, the machine's call does. Condition: the program follows the departure 'mixedOrders' (a closed fact of each program).
-/
import Derived.Test.YtenhjccadhlgoaaGreatQ15
import Derived.LoopN
set_option linter.unusedSimpArgs false
set_option linter.unusedVariables false
set_option maxRecDepth 100000
set_option maxHeartbeats 16000000
namespace Go.Proofs.YtenhjccadhlgoaaGreat.Abs
open Go
section
variable {X : Ctx}
def exitOf : Ex → Exit
 | .normal => .normal
 | .exit i => .exit i
 | .ret => .ret
def CSound (X : Ctx) (nt : Nat) (c : Code) (f : St → Option (Ex × St)) : Prop := ∀ (st : St) (ex : Ex) (st' : St), f st = some (ex, st') → ∀ (base : Nat) (W : Nat → Prop) (μ : Mu) (a : Act) (w : World), StRel X base nt W μ st a w →
 ∀ Q : Exit → Act → World → Prop, (∀ a' w' W' μ', Step base w W μ w' W' μ' → StRel X base nt W' μ' st' a' w' → Named μ μ' st.next st'.next → Q (exitOf ex) a' w') → c.wp X.P Q a w
theorem runWith_sound (hmix : X.P.follows .mixedOrders = true) {call : CallFn} {lp : Code → St → Option (Ex × St)} {nt : Nat} (hcs : CallSound X call) (hlp : ∀ b, codeOk nt b = true → CSound X nt (.loop b) (lp b)) :
  ∀ c, codeOk nt c = true → CSound X nt c (runWith X call lp c) := by
 intro c
 induction c with
 | skip =>
  intro _ st ex st' h base W μ a w hr Q hQ
  simp only [runWith, Option.some.injEq, Prod.mk.injEq] at h
  obtain ⟨rfl, rfl⟩ := h
  exact wp_skip (hQ a w W μ (Step.refl _ _ _ _) hr (Named.refl _ _))
 | label l =>
  intro _ st ex st' h base W μ a w hr Q hQ
  simp only [runWith, Option.some.injEq, Prod.mk.injEq] at h
  obtain ⟨rfl, rfl⟩ := h
  exact wp_label (hQ a w W μ (Step.refl _ _ _ _) hr (Named.refl _ _))
 | exit i =>
  intro _ st ex st' h base W μ a w hr Q hQ
  simp only [runWith, Option.some.injEq, Prod.mk.injEq] at h
  obtain ⟨rfl, rfl⟩ := h
  exact wp_exit (hQ a w W μ (Step.refl _ _ _ _) hr (Named.refl _ _))
 | ret =>
  intro _ st ex st' h base W μ a w hr Q hQ
  simp only [runWith, Option.some.injEq, Prod.mk.injEq] at h
  obtain ⟨rfl, rfl⟩ := h
  exact wp_ret (hQ a w W μ (Step.refl _ _ _ _) hr (Named.refl _ _))
 | region i ops draw =>
  intro hok st ex st' h base W μ a w hr Q hQ
  obtain ⟨st1, h1, hk⟩ := mp_eq_some.1 h
  simp only [Prod.mk.injEq] at hk
  obtain ⟨rfl, rfl⟩ := hk
  exact region_sound hmix hcs hok h1 hr hQ
 | seq x y ihx ihy =>
  intro hok st ex st' h base W μ a w hr Q hQ
  simp only [codeOk, Bool.and_eq_true] at hok
  obtain ⟨⟨e, st1⟩, h1, hk⟩ := nx_eq_some.1 h
  refine wp_seq (ihx hok.1 st e st1 h1 base W μ a w hr _ fun a1 w1 W1 μ1 s1 r1 n1 => ?_)
  cases e with
  | normal =>
   exact ihy hok.2 st1 ex st' hk base W1 μ1 a1 w1 r1 Q fun a2 w2 W2 μ2 s2 r2 n2 => hQ a2 w2 W2 μ2 (s1.trans s2) r2 (n1.trans n2)
  | exit i =>
   simp only [Option.some.injEq, Prod.mk.injEq] at hk
   obtain ⟨rfl, rfl⟩ := hk
   exact hQ a1 w1 W1 μ1 s1 r1 n1
  | ret =>
   simp only [Option.some.injEq, Prod.mk.injEq] at hk
   obtain ⟨rfl, rfl⟩ := hk
   exact hQ a1 w1 W1 μ1 s1 r1 n1
 | cond c x y ihx ihy =>
  intro hok st ex st' h base W μ a w hr Q hQ
  simp only [codeOk, Bool.and_eq_true] at hok
  obtain ⟨v, hv, hk⟩ := nx_eq_some.1 h
  have hrep := evalA_sound hr.sim hr.env c v hv
  generalize hax : a.eval c = vx at hrep
  cases hrep with
  | bool _ t =>
   cases t with
   | true => exact wp_cond_true hax (ihx hok.1 st ex st' (by simpa using hk) base W μ a w hr Q hQ)
   | false => exact wp_cond_false hax (ihy hok.2 st ex st' (by simpa using hk) base W μ a w hr Q hQ)
  | _ => simp at hk
 | block i b ih =>
  intro hok st ex st' h base W μ a w hr Q hQ
  obtain ⟨⟨e, st1⟩, h1, hk⟩ := mp_eq_some.1 h
  refine wp_block (ih hok st e st1 h1 base W μ a w hr _ fun a1 w1 W1 μ1 s1 r1 n1 => ?_)
  cases e with
  | normal =>
   simp only [Prod.mk.injEq] at hk
   obtain ⟨rfl, rfl⟩ := hk
   exact hQ a1 w1 W1 μ1 s1 r1 n1
  | exit j =>
   simp only at hk
   show (if j = i then Q .normal a1 w1 else Q (.exit j) a1 w1)
   split
   ·rename_i hji
    rw [if_pos hji] at hk
    simp only [Prod.mk.injEq] at hk
    obtain ⟨rfl, rfl⟩ := hk
    exact hQ a1 w1 W1 μ1 s1 r1 n1
   ·rename_i hji
    rw [if_neg hji] at hk
    simp only [Prod.mk.injEq] at hk
    obtain ⟨rfl, rfl⟩ := hk
    exact hQ a1 w1 W1 μ1 s1 r1 n1
  | ret =>
   simp only [Prod.mk.injEq] at hk
   obtain ⟨rfl, rfl⟩ := hk
   exact hQ a1 w1 W1 μ1 s1 r1 n1
 | scope b ih =>
  intro hok st ex st' h base W μ a w hr Q hQ
  refine wp_scope_straight (ih hok st ex st' h base W μ a w hr _ fun a1 w1 W1 μ1 s1 r1 n1 => ?_)
  have := hQ a1 w1 W1 μ1 s1 r1 n1
  cases ex <;> exact this
 | loop b ih =>
  intro hok st ex st' h
  exact hlp b hok st ex st' h
 | rangeFunc f ps x b _ _ => intro _ st ex st' h; simp [runWith] at h
 | goto l => intro _ st ex st' h; simp [runWith] at h
 | refuse y => intro _ st ex st' h; simp [runWith] at h
def resOf (a : Act) : ResultVar → Sem Value
 | .tmp t => pure (a.tmps.getD t undef)
 | .cell x t => do loadVar t (← asAddr (a.tmps.getD x undef))
theorem loadRes_sound {base nt : Nat} {W : Nat → Prop} {μ : Mu} {st : St} {a : Act} {w : World} (hr : StRel X base nt W μ st a w) {r : ResultVar} {v : AV} (h : loadRes X st r = some v) :
  ∃ u, (resOf a r).run X.P w = .ok u w ∧ Rep w W μ u v := by
 cases r with
 | tmp t =>
  simp only [loadRes, Option.some.injEq] at h
  subst h
  exact ⟨_, rfl, hr.env t⟩
 | cell x t =>
  obtain ⟨e, he, hk⟩ := nx_eq_some.1 h
  have hx := hr.env x
  obtain ⟨d, u, rfl, _, hrun, hrep⟩ := load_sound hr.sim hx he
  simp only [Option.some.injEq] at hk
  subst hk
  refine ⟨u, ?_, hrep⟩
  show Sem.run X.P (do let q ← asAddr (a.tmps.getD x undef); loadVar t q) w = _
  generalize a.tmps.getD x undef = p at hx hrun ⊢
  generalize st.env x = y at hx he
  have hcs : ∃ cs, cellsAt st.heap y = some cs := by
   unfold aLoad at he
   split at he
   ·rename_i hc; exact ⟨_, hc⟩
   ·rename_i hc; exact ⟨_, hc⟩
   ·simp at he
  obtain ⟨cs, hcs⟩ := hcs
  obtain ⟨B, o, rfl, _⟩ := cellsAt_sound hr.sim hx hcs
  exact hrun
theorem loadRess_sound {base nt : Nat} {W : Nat → Prop} {μ : Mu} {st : St} {a : Act} {w : World} (hr : StRel X base nt W μ st a w) : ∀ {l : List ResultVar} {vs : List AV}, loadRess X st l = some vs →
  ∃ us : List Value, (l.mapM (resOf a)).run X.P w = .ok us w ∧ us.length = vs.length ∧ ∀ (i : Nat) (u : Value) (v : AV), us[i]? = some u → vs[i]? = some v → Rep w W μ u v := by
 intro l
 induction l with
 | nil => intro vs h; simp only [loadRess, Option.some.injEq] at h; subst h; exact ⟨[], rfl, rfl, by simp⟩
 | cons r rs ih =>
  intro vs h
  obtain ⟨v, hv, hk⟩ := nx_eq_some.1 h
  obtain ⟨ws, hw, rfl⟩ := mp_eq_some.1 hk
  obtain ⟨u, hu, hrep⟩ := loadRes_sound hr hv
  obtain ⟨us, h1, h2, h3⟩ := ih hw
  refine ⟨u :: us, ?_, by simp [h2], fun i x y hx hy => ?_⟩
  ·simp only [List.mapM_cons, Sem.run_bind, Result.andThen, Sem.run_pure, hu, h1]
  ·cases i with
   | zero => simp at hx hy; subst hx; subst hy; exact hrep
   | succ i => exact h3 i x y (by simpa using hx) (by simpa using hy)
theorem results_eq (fn : Func) (a : Act) : results fn a.tmps = (do let vs ← fn.results.mapM (resOf a); pure (if h : vs.size = 1 then vs[0] else .tuple vs)) := by
 unfold results
 congr 1
theorem results_sound {base nt : Nat} {W : Nat → Prop} {μ : Mu} {st : St} {a : Act} {w : World} (hr : StRel X base nt W μ st a w) {fn : Func} {v : AV} (h : resultsA X fn st = some v) :
  ∃ u, (results fn a.tmps).run X.P w = .ok u w ∧ Rep w W μ u v := by
 obtain ⟨vs, hvs, hk⟩ := mp_eq_some.1 h
 obtain ⟨us, h1, h2, h3⟩ := loadRess_sound hr hvs
 have hrun : (results fn a.tmps).run X.P w = .ok (if h : us.toArray.size = 1 then us.toArray[0] else .tuple us.toArray) w := by
  rw [results_eq, Array.mapM_eq_mapM_toList]
  simp only [Sem.run_bind, Sem.run_map, Result.andThen]
  rw [h1]
  simp only [Sem.run_pure]
 refine ⟨_, hrun, ?_⟩
 cases vs with
 | nil =>
  have : us = [] := by simpa using h2
  subst this
  subst hk
  exact .tuple _ _ _ rfl (by simp)
 | cons x xs =>
  cases xs with
  | nil =>
   cases us with
   | nil => simp at h2
   | cons u us =>
    have : us = [] := by simpa using h2
    subst this
    subst hk
    exact h3 0 u x (by simp) (by simp)
  | cons y ys =>
   subst hk
   have : ¬ us.toArray.size = 1 := by simp [h2]
   rw [dif_neg this]
   exact .tuple _ _ _ (by simpa using h2) fun i v a hv ha => h3 i v a (by simpa using hv) ha
theorem callWith_sound (hsp : SpecSound X) {rn : Code → St → Option (Ex × St)} (hcode : ∀ (nt : Nat) (c : Code), codeOk nt c = true → CSound X nt c (rn c)) : CallSound X (callWith X rn) := by
 refine ⟨hsp, ?_⟩
 intro f args h next v h' next' hc
 unfold callWith at hc
 split at hc
 ·simp at hc
 rename_i fn hf
 split at hc
 ·simp at hc
 rename_i c hb
 split at hc
 ·rename_i hok
  simp only [Bool.and_eq_true] at hok
  obtain ⟨hok, hlen⟩ := hok
  have hok' := hok
  unfold funcOk at hok'
  rw [hb] at hok'
  simp only [Bool.and_eq_true, decide_eq_true_eq] at hok'
  obtain ⟨⟨hcode', _⟩, hnt⟩ := hok'
  obtain ⟨⟨ex, st⟩, hrun, hk⟩ := nx_eq_some.1 hc
  have hres : (ex = .normal ∨ ex = .ret) ∧ ∃ r, resultsA X fn st = some r ∧ v = r ∧ h' = st.heap ∧ next' = st.next := by
   cases ex with
   | normal =>
    obtain ⟨r, hr, hk⟩ := mp_eq_some.1 hk
    simp only [Prod.mk.injEq] at hk
    exact ⟨.inl rfl, r, hr, hk.1.symm, hk.2.1.symm, hk.2.2.symm⟩
   | ret =>
    obtain ⟨r, hr, hk⟩ := mp_eq_some.1 hk
    simp only [Prod.mk.injEq] at hk
    exact ⟨.inr rfl, r, hr, hk.1.symm, hk.2.1.symm, hk.2.2.symm⟩
   | exit i => simp at hk
  obtain ⟨hex, r, hr, rfl, rfl, rfl⟩ := hres
  have hsz : args.length = fn.params.size + fn.nfree := by simpa using hlen
  have hcs := hcode fn.ntmps c hcode' _ ex st hrun
  have main : ∀ (base : Nat) (W : Nat → Prop) (μ : Mu) (w : World) (vals : Array Value), Sim X base W μ h w → (∀ b, next ≤ b → μ b = none) → ArgsRep w W μ vals args →
    StRel X base fn.ntmps W μ ⟨argEnv args, h, next⟩ { tmps := vals ++ Array.replicate (fn.ntmps - vals.size) undef, defers := [] } w := by
   intro base W μ w vals hs hfree ha
   refine ⟨hs, fun t => ?_, by simp [ha.1]; omega, rfl, hfree⟩
   simp only [argEnv, Array.getD_eq_getD_getElem?, List.getD_eq_getElem?_getD]
   by_cases ht : t < vals.size
   ·rw [Array.getElem?_append_left ht, Array.getElem?_eq_getElem ht, List.getElem?_eq_getElem (by rw [← ha.1]; exact ht)]
    exact ha.2 t _ _ (Array.getElem?_eq_getElem ht) (List.getElem?_eq_getElem (by rw [← ha.1]; exact ht))
   ·rw [Array.getElem?_append_right (by omega), List.getElem?_eq_none (by rw [← ha.1]; omega), Array.getElem?_replicate]
    split <;> exact .tuple _ #[] [] rfl (by simp)
  refine ⟨⟨fn, hf, hok⟩, fun base W μ w vals hs hfree ha => ?_⟩
  ·refine calls_of_wp hf hb (hcs base W μ _ w (main base W μ w vals hs hfree ha) _ fun a' w' W' μ' s1 r1 n1 => ?_)
   obtain ⟨u, hu, hrep⟩ := results_sound r1 hr
   rcases hex with rfl | rfl
   ·exact ⟨r1.defers, u, hu, u, W', μ', rfl, s1, r1.sim, hrep, n1.1, n1.2⟩
   ·exact ⟨r1.defers, u, hu, u, W', μ', rfl, s1, r1.sim, hrep, n1.1, n1.2⟩
 ·simp at hc
theorem run_sound (hmix : X.P.follows .mixedOrders = true) (hsp : SpecSound X) : ∀ n : Nat, ∀ (nt : Nat) (c : Code), codeOk nt c = true → CSound X nt c (run X n c) := by
 have loops : ∀ n : Nat, (∀ (nt : Nat) (c : Code), codeOk nt c = true → CSound X nt c (run X n c)) → (∀ (nt : Nat) (b : Code), codeOk nt b = true → ∀ (st : St) (ex : Ex) (st' : St), run X n (.loop b) st = some (ex, st') →
   ∀ (base : Nat) (W : Nat → Prop) (μ : Mu) (a : Act) (w : World), StRel X base nt W μ st a w → ∀ Q : Exit → Act → World → Prop, (∀ a' w' W' μ', Step base w W μ w' W' μ' → StRel X base nt W' μ' st' a' w' → Named μ μ' st.next st'.next → Q (exitOf ex) a' w') → Code.rounds X.P b Q n a w) →
   ∀ (nt : Nat) (b : Code), codeOk nt b = true → ∀ (st : St) (ex : Ex) (st' : St), lpN (run X n) b st = some (ex, st') →
   ∀ (base : Nat) (W : Nat → Prop) (μ : Mu) (a : Act) (w : World), StRel X base nt W μ st a w → ∀ Q : Exit → Act → World → Prop, (∀ a' w' W' μ', Step base w W μ w' W' μ' → StRel X base nt W' μ' st' a' w' → Named μ μ' st.next st'.next → Q (exitOf ex) a' w') → Code.rounds X.P b Q (n + 1) a w := by
  intro n hc hl nt b hok st ex st' h base W μ a w hr Q hQ
  rw [rounds_succ]
  obtain ⟨⟨e, st1⟩, h1, hk⟩ := nx_eq_some.1 h
  refine hc nt b hok st e st1 h1 base W μ a w hr _ fun a1 w1 W1 μ1 s1 r1 n1 => ?_
  cases e with
  | normal => exact hl nt b hok st1 ex st' hk base W1 μ1 a1 w1 r1 Q fun a2 w2 W2 μ2 s2 r2 n2 => hQ a2 w2 W2 μ2 (s1.trans s2) r2 (n1.trans n2)
  | exit i =>
   simp only [Option.some.injEq, Prod.mk.injEq] at hk
   obtain ⟨rfl, rfl⟩ := hk
   exact hQ a1 w1 W1 μ1 s1 r1 n1
  | ret =>
   simp only [Option.some.injEq, Prod.mk.injEq] at hk
   obtain ⟨rfl, rfl⟩ := hk
   exact hQ a1 w1 W1 μ1 s1 r1 n1
 have both : ∀ n : Nat, (∀ (nt : Nat) (c : Code), codeOk nt c = true → CSound X nt c (run X n c)) ∧ (∀ (nt : Nat) (b : Code), codeOk nt b = true → ∀ (st : St) (ex : Ex) (st' : St), run X n (.loop b) st = some (ex, st') →
   ∀ (base : Nat) (W : Nat → Prop) (μ : Mu) (a : Act) (w : World), StRel X base nt W μ st a w → ∀ Q : Exit → Act → World → Prop, (∀ a' w' W' μ', Step base w W μ w' W' μ' → StRel X base nt W' μ' st' a' w' → Named μ μ' st.next st'.next → Q (exitOf ex) a' w') → Code.rounds X.P b Q n a w) := by
  intro n
  induction n with
  | zero => exact ⟨fun nt c _ st ex st' h => by simp [run] at h, fun nt b _ st ex st' h => by simp [run] at h⟩
  | succ n ih =>
   have hl := loops n ih.1 ih.2
   refine ⟨fun nt c hok => ?_, fun nt b hok st ex st' h => hl nt b hok st ex st' h⟩
   exact runWith_sound hmix (callWith_sound hsp ih.1) (fun b hok st ex st' h base W μ a w hr Q hQ => wp_loop_rounds (n + 1) (hl nt b hok st ex st' h base W μ a w hr Q hQ)) c hok
 exact fun n => (both n).1
theorem callI_sound (hmix : X.P.follows .mixedOrders = true) (hsp : SpecSound X) : CallSound X (callI X) := by
 refine ⟨hsp, ?_⟩
 intro f args h next v h' next' hc
 obtain ⟨c, st, x, hx, hk⟩ := callWith_uses X hc
 obtain ⟨n, hn⟩ := (D_some X).1 hx
 exact (callWith_sound hsp (run_sound hmix hsp n)).2 f args h next v h' next' (hk _ hn)
structure Starts (X : Ctx) (w : World) (vals : Array Value) (args : List AV) : Prop where
 glob : ∀ g cs, X.G g = some cs → g < w.heap.size ∧ ∃ us : Nat → Value, ∀ (i : Nat) (a : AV), cs[i]? = some a → w.cell? ⟨g, i, none⟩ = some (us i) ∧ Rep w (fun _ => False) noMu (us i) a ∧ a.isCell = true
 args : ArgsRep w (fun _ => False) noMu vals args
theorem sound (hmix : X.P.follows .mixedOrders = true) (hsp : SpecSound X) {f : FuncId} (hns : (X.mode f).isSpec = false) {args : List AV} {r : AV} (hm : M X f args = some r) (hs : r.noRef = true) {w : World} {vals : Array Value} (hst : Starts X w vals args) :
  Calls X.P f vals w fun e w' => ∃ u, e = .returned u ∧ Rep w' (fun _ => False) noMu u r ∧ RowKit.Below w.heap.size w w' := by
 rw [M_def X hns] at hm
 obtain ⟨⟨v, h2, n2⟩, hc, hk⟩ := nx_eq_some.1 hm
 obtain ⟨_, hcall⟩ := (callI_sound hmix hsp).2 f args emptyHeap 0 v h2 n2 hc
 have hsim : Sim X w.heap.size (fun _ => False) noMu emptyHeap w :=
  {obj := fun b o hb => by simp [emptyHeap] at hb, inj := fun b b' B o o' hb => by simp [emptyHeap] at hb, glob := fun g cs hg => ⟨(hst.glob g cs hg).1, fun h => h, (hst.glob g cs hg).2⟩, wlt := fun _ h => h.elim, ble := Nat.le_refl _ }
 refine (hcall w.heap.size (fun _ => False) noMu w vals hsim (fun _ _ => rfl) hst.args).mono ?_
 rintro e w' ⟨u, W2, μ2, rfl, p1, p2, p3, _⟩
 have hmd : (∃ x ids, snap h2 depthA v = some (x, ids) ∧ r = x.weak) ∨ (∃ x, resultTop h2 depthA v = some x ∧ r = x.weak) := by
  simp only at hk
  split at hk
  ·obtain ⟨⟨x, jds⟩, h1, h2⟩ := mp_eq_some.1 hk; exact .inl ⟨x, jds, h1, h2.symm⟩
  ·obtain ⟨x, h1, h2⟩ := mp_eq_some.1 hk; exact .inr ⟨x, h1, h2.symm⟩
  ·simp at hk
 have hinst : instantiate 0 r = some (r, []) := by
  have one : ∀ (a : AV) (j : Nat), a.noRef = true → inst1 0 j a = some (a, [], j) := by
   intro a j ha
   cases a <;> first
    | (simp [AV.noRef] at ha; done)
    | rfl
  have many : ∀ (l : List AV) (j : Nat), AV.noRef.go l = true → insts 0 j l = some (l, []) := by
   intro l
   induction l with
   | nil => intro j _; rfl
   | cons a as ih =>
    intro j hl
    simp only [AV.noRef.go, Bool.and_eq_true] at hl
    simp [insts, one a j hl.1, ih j hl.2, nx, mp]
  cases r <;> first
   | (simp [AV.noRef] at hs; done)
   | (simp only [instantiate, many _ 0 hs, mp]; done)
   | (simp only [instantiate, one _ 0 hs, mp]; done)
 obtain ⟨W3, μ', _, _, q3, _⟩ := pure_out (base := w.heap.size) (h := emptyHeap) hsim p1 p2 p3 (id := 0) (fun _ _ => rfl) hinst hmd
 exact ⟨u, rfl, q3.scalar hs _, ⟨p1.os, p1.tape, p1.output, p1.size, fun k hk => p1.same k (by exact hk) (.inl hk)⟩⟩
end
end Go.Proofs.YtenhjccadhlgoaaGreat.Abs
