/-
  Maps and the order of a range over one: what is left open there is taken as it comes. Rules for code whose outcome hangs on it. No conditions. Operations on maps, one by one. No conditions.
-/
import Derived.Test.YtenhjccadhlgoaaGreatQ02
import Derived.Test.YtenhjccadhlgoaaGreatQ16
import Derived.MapKept
set_option linter.unusedSimpArgs false
set_option linter.unusedVariables false
set_option maxRecDepth 100000
set_option maxHeartbeats 16000000
namespace Go.Proofs.YtenhjccadhlgoaaGreat.Abs
open Go
section
variable {X : Ctx}
structure Frame (base : Nat) (w : World) (W : Nat → Prop) (w' : World) (W' : Nat → Prop) : Prop where
 os : w'.os = w.os
 tape : w'.tape = w.tape
 output : w'.output = w.output
 size : w.heap.size ≤ w'.heap.size
 same : ∀ B, B < base → w'.heap[B]? = w.heap[B]?
 iff : ∀ B, B < base → (W' B ↔ W B)
 drawn : w.drawn ≤ w'.drawn
theorem Frame.refl (base : Nat) (w : World) (W : Nat → Prop) : Frame base w W w W := ⟨rfl, rfl, rfl, Nat.le_refl _, fun _ _ => rfl, fun _ _ => Iff.rfl, Nat.le_refl _⟩
theorem Frame.trans {base : Nat} {w w1 w2 : World} {W W1 W2 : Nat → Prop} (h : Frame base w W w1 W1) (k : Frame base w1 W1 w2 W2) : Frame base w W w2 W2 :=
 ⟨k.os.trans h.os, k.tape.trans h.tape, k.output.trans h.output, Nat.le_trans h.size k.size, fun B hB => (k.same B hB).trans (h.same B hB), fun B hB => (k.iff B hB).trans (h.iff B hB), Nat.le_trans h.drawn k.drawn⟩
theorem Frame.ofStep {base : Nat} {w w' : World} {W W' : Nat → Prop} {μ μ' : Mu} (hb : base ≤ w.heap.size) (h : Step base w W μ w' W' μ') : Frame base w W w' W' :=
 ⟨h.os, h.tape, h.output, h.size, fun B hB => h.same B (Nat.lt_of_lt_of_le hB hb) (.inl hB), fun B hB => ⟨h.wsub B (Nat.lt_of_lt_of_le hB hb), h.wsup B hB⟩, h.drawn⟩
abbrev XH := Nat → Option Go.Obj
def XRel (x : XH) (base : Nat) (W : Nat → Prop) (w : World) : Prop := ∀ B o, x B = some o → base ≤ B ∧ ¬ W B ∧ w.heap[B]? = some o
theorem XRel.step {x : XH} {base : Nat} {w w' : World} {W W' : Nat → Prop} {μ μ' : Mu} (h : XRel x base W w) (hs : Step base w W μ w' W' μ') : XRel x base W' w' := by
 intro B o hx
 obtain ⟨h1, h2, h3⟩ := h B o hx
 have hlt := heap_lt h3
 exact ⟨h1, fun hW => h2 (hs.wsub B hlt hW), by rw [hs.same B hlt (.inr h2)]; exact h3⟩
structure SameCells (w w1 : World) : Prop where
 size : w.heap.size ≤ w1.heap.size
 cells : ∀ (B : Nat) (arr : Array Value) (e : TypeId) (f : Nat × Nat), w.heap[B]? = some (Go.Obj.cells arr e f) → w1.heap[B]? = some (Go.Obj.cells arr e f)
theorem SameCells.cell {w w1 : World} (h : SameCells w w1) {B i : Nat} {u : Value} (hc : w.cell? ⟨B, i, none⟩ = some u) : w1.cell? ⟨B, i, none⟩ = some u := by
 unfold World.cell? at hc ⊢
 cases hb : w.heap[B]? with
 | none => simp [hb] at hc
 | some o =>
  cases o with
  | cells arr e f => rw [h.cells B arr e f hb]; simpa [hb] using hc
  | _ => simp [hb] at hc
theorem Rep.world {w w1 : World} {W : Nat → Prop} {μ : Mu} {v : Value} {a : AV} (hs : SameCells w w1) (h : Rep w W μ v a) : Rep w1 W μ v a := by
 induction h with
 | bool μ b => exact .bool μ b
 | int μ k n => exact .int μ k n
 | str μ s => exact .str μ s
 | nilptr μ => exact .nilptr μ
 | nilmap μ => exact .nilmap μ
 | extm μ m => exact .extm μ m
 | extp μ p => exact .extp μ p
 | nilfunc μ => exact .nilfunc μ
 | niliface μ => exact .niliface μ
 | ro0 μ a c full h => exact .ro0 μ a c full h
 | ro μ B o len cap cs full us hB hW hl hf hc _ hi ih => exact .ro μ B o len cap cs full us (Nat.lt_of_lt_of_le hB hs.size) hW hl hf (fun i a ha => hs.cell (hc i a ha)) (fun i a ha => ih i a ha) hi
 | rptr μ B o cs us hB hW hc _ hi ih => exact .rptr μ B o cs us (Nat.lt_of_lt_of_le hB hs.size) hW (fun i a ha => hs.cell (hc i a ha)) (fun i a ha => ih i a ha) hi
 | sl μ b B o off len c cap sz hm hl hk hsh =>
  obtain ⟨arr, e, f, ha, hle⟩ := hsh
  exact .sl μ b B o off len c cap sz hm hl hk ⟨arr, e, f, hs.cells _ _ _ _ ha, hle⟩
 | ptr μ b B o off hm => exact .ptr μ b B o off hm
 | func μ fn f c f' c' h1 h2 _ _ ihf ihc => exact .func μ fn f c f' c' h1 h2 (fun i v a hv ha => ihf i v a hv ha) (fun i v a hv ha => ihc i v a hv ha)
 | iface μ t v a _ ih => exact .iface μ t v a ih
 | agg μ vs as h1 _ hi ih => exact .agg μ vs as h1 (fun i v a hv ha => ih i v a hv ha) hi
 | tuple μ vs as h1 _ ih => exact .tuple μ vs as h1 (fun i v a hv ha => ih i v a hv ha)
theorem Sim.world {base : Nat} {w w1 : World} {W : Nat → Prop} {μ : Mu} {h : Heap} (hs : SameCells w w1) (k : Sim X base W μ h w) : Sim X base W μ h w1 where
 obj b o hb := by
  cases o with
  | cells cs g f =>
   obtain ⟨B, o, arr, e, h1, h2, h3, h4, h5, h6, h7⟩ := k.obj b _ hb
   exact ⟨B, o, arr, e, h1, h2, h3, h4, hs.cells _ _ _ _ h5, h6, fun i a ha => by
    obtain ⟨u, u1, u2, u3⟩ := h7 i a ha
    exact ⟨u, u1, u2.world hs, u3⟩⟩
 inj := k.inj
 glob g cs hg := by
  obtain ⟨h1, h2, us, h3⟩ := k.glob g cs hg
  exact ⟨h1, h2, us, fun i a ha => ⟨hs.cell (h3 i a ha).1, (h3 i a ha).2.1.world hs, (h3 i a ha).2.2⟩⟩
 wlt B hB := Nat.lt_of_lt_of_le (k.wlt B hB) hs.size
 ble := Nat.le_trans k.ble hs.size
def NW (X : Ctx) (nt : Nat) (c : Code) (st : St) (x : XH) (Φ : Ex → St → XH → Prop) : Prop := ∀ (base : Nat) (W : Nat → Prop) (μ : Mu) (a : Act) (w : World), StRel X base nt W μ st a w → XRel x base W w →
 ∀ Q : Exit → Act → World → Prop, (∀ ex st' x' a' w' W' μ', Φ ex st' x' → Frame base w W w' W' → StRel X base nt W' μ' st' a' w' → XRel x' base W' w' → Q (exitOf ex) a' w') → c.wp X.P Q a w
theorem NW_det (hmix : X.P.follows .mixedOrders = true) (hsp : SpecSound X) {nt : Nat} {c : Code} (hok : codeOk nt c = true) {st : St} {x : XH} {Φ : Ex → St → XH → Prop} {Ψ : Ex → St → Prop} (h : @W X ⟨c⟩ st Ψ) (hi : ∀ e s, Ψ e s → Φ e s x) : NW X nt c st x Φ := by
 obtain ⟨e, s, h1, h2⟩ := h
 have h1 : D X c st = some (e, s) := h1
 obtain ⟨n, hn⟩ := (D_some X).1 h1
 intro base W μ a w hr hx Q hQ
 exact run_sound hmix hsp n nt c hok st e s hn base W μ a w hr Q fun a' w' W' μ' s1 r1 _ => hQ e s x a' w' W' μ' (hi e s h2) (.ofStep hr.sim.ble s1) r1 (hx.step s1)
theorem NW_seq {nt : Nat} {b c : Code} {st : St} {x : XH} {Φ : Ex → St → XH → Prop} (h : NW X nt b st x fun e s x' => match e with | .normal => NW X nt c s x' Φ | e => Φ e s x') : NW X nt (.seq b c) st x Φ := by
 intro base W μ a w hr hx Q hQ
 refine wp_seq (h base W μ a w hr hx _ fun e s x' a' w' W' μ' hp f1 r1 x1 => ?_)
 cases e with
 | normal => exact hp base W' μ' a' w' r1 x1 Q fun ex st' x'' a'' w'' W'' μ'' k1 k2 k3 k4 => hQ ex st' x'' a'' w'' W'' μ'' k1 (f1.trans k2) k3 k4
 | exit i => exact hQ _ s x' a' w' W' μ' hp f1 r1 x1
 | ret => exact hQ _ s x' a' w' W' μ' hp f1 r1 x1
theorem NW_block {nt i : Nat} {b : Code} {st : St} {x : XH} {Φ : Ex → St → XH → Prop} (h : NW X nt b st x fun e s x' => match e with | .exit j => if j = i then Φ .normal s x' else Φ (.exit j) s x' | e => Φ e s x') : NW X nt (.block i b) st x Φ := by
 intro base W μ a w hr hx Q hQ
 refine wp_block (h base W μ a w hr hx _ fun e s x' a' w' W' μ' hp f1 r1 x1 => ?_)
 cases e with
 | normal => exact hQ .normal s x' a' w' W' μ' hp f1 r1 x1
 | ret => exact hQ .ret s x' a' w' W' μ' hp f1 r1 x1
 | exit j =>
  show (if j = i then Q .normal a' w' else Q (.exit j) a' w')
  simp only at hp
  split
  ·rename_i hji; rw [if_pos hji] at hp; exact hQ .normal s x' a' w' W' μ' hp f1 r1 x1
  ·rename_i hji; rw [if_neg hji] at hp; exact hQ (.exit j) s x' a' w' W' μ' hp f1 r1 x1
theorem NW_cond {nt : Nat} {v : Operand} {b c : Code} {st : St} {x : XH} {Φ : Ex → St → XH → Prop} (t : Bool) (hv : evalA X st.env v = some (.bool t)) (h1 : t = true → NW X nt b st x Φ) (h2 : t = false → NW X nt c st x Φ) : NW X nt (.cond v b c) st x Φ := by
 intro base W μ a w hr hx Q hQ
 have hrep := evalA_sound hr.sim hr.env v _ hv
 generalize hax : a.eval v = vx at hrep
 cases hrep
 cases t with
 | true => exact wp_cond_true hax (h1 rfl base W μ a w hr hx Q hQ)
 | false => exact wp_cond_false hax (h2 rfl base W μ a w hr hx Q hQ)
theorem NW_mono {nt : Nat} {c : Code} {st : St} {x : XH} {Φ Ψ : Ex → St → XH → Prop} (h : NW X nt c st x Φ) (hi : ∀ e s x', Φ e s x' → Ψ e s x') : NW X nt c st x Ψ :=
 fun base W μ a w hr hx Q hQ => h base W μ a w hr hx Q fun ex st' x' a' w' W' μ' k => hQ ex st' x' a' w' W' μ' (hi _ _ _ k)
theorem NW_loop {α : Type} {nt : Nat} {b : Code} {Φ : Ex → St → XH → Prop} (I : α → St → XH → Prop) (m : α → Nat)
  (step : ∀ g s x, I g s x → NW X nt b s x fun e s' x' => match e with | .normal => ∃ g', I g' s' x' ∧ m g' < m g | e => Φ e s' x') : ∀ g s x, I g s x → NW X nt (.loop b) s x Φ := by
 have key : ∀ n g s x, m g < n → I g s x → ∀ (base : Nat) (W : Nat → Prop) (μ : Mu) (a : Act) (w : World), StRel X base nt W μ s a w → XRel x base W w →
   ∀ Q : Exit → Act → World → Prop, (∀ ex st' x' a' w' W' μ', Φ ex st' x' → Frame base w W w' W' → StRel X base nt W' μ' st' a' w' → XRel x' base W' w' → Q (exitOf ex) a' w') → Code.rounds X.P b Q n a w := by
  intro n
  induction n with
  | zero => intro g s x h; omega
  | succ n ih =>
   intro g s x hm hI base W μ a w hr hx Q hQ
   rw [rounds_succ]
   refine step g s x hI base W μ a w hr hx _ fun e s' x' a' w' W' μ' hp f1 r1 x1 => ?_
   cases e with
   | normal =>
    obtain ⟨g', k1, k2⟩ := hp
    exact ih g' s' x' (by omega) k1 base W' μ' a' w' r1 x1 Q fun ex st' x'' a'' w'' W'' μ'' j1 j2 j3 j4 => hQ ex st' x'' a'' w'' W'' μ'' j1 (f1.trans j2) j3 j4
   | exit i => exact hQ (.exit i) s' x' a' w' W' μ' hp f1 r1 x1
   | ret => exact hQ .ret s' x' a' w' W' μ' hp f1 r1 x1
 intro g s x hI base W μ a w hr hx Q hQ
 exact wp_loop_rounds (m g + 1) (key (m g + 1) g s x (by omega) hI base W μ a w hr hx Q hQ)
end
section
variable {X : Ctx} {ops : Array Oper}
def NO (X : Ctx) (nt : Nat) (ops : Array Oper) (b0 : Nat) (l : List Nat) (st : St) (x : XH) (Φ : St → XH → Prop) : Prop := ∀ (base : Nat) (W : Nat → Prop) (μ : Mu) (a : Act) (w : World), StRel X base nt W μ st a w → XRel x base W w →
 b0 + 8 * ops.size ≤ st.next → (∀ i ∈ l, i < ops.size) → (∀ i ∈ l, ∀ k, k < 8 → μ (b0 + 8 * i + k) = none) →
 ∀ Q : Exit → Act → World → Prop, (∀ st' x' a' w' W' μ', Φ st' x' → Frame base w W w' W' → StRel X base nt W' μ' st' a' w' → XRel x' base W' w' → Q .normal a' w') → wpOps X.P ops Q l a w
theorem NW_region {nt id : Nat} {st : St} {x : XH} {Φ : Ex → St → XH → Prop} (h : NO X nt ops st.next (List.range ops.size) { st with next := st.next + 8 * ops.size } x fun s x' => Φ .normal s x') : NW X nt (.region id ops false) st x Φ := by
 intro base W μ a w hr hx Q hQ
 refine wp_region (h base W μ a w ⟨hr.sim, hr.env, hr.nt, hr.defers, fun b hb => hr.free b (by have : st.next + 8 * ops.size ≤ b := hb; omega)⟩ hx (Nat.le_refl _) (fun i hi => by simpa using hi) (fun i _ k _ => hr.free _ (by omega)) Q fun st' x' a' w' W' μ' k1 k2 k3 k4 => hQ .normal st' x' a' w' W' μ' k1 k2 k3 k4)
theorem NO_nil {nt b0 : Nat} {st : St} {x : XH} {Φ : St → XH → Prop} (h : Φ st x) : NO X nt ops b0 [] st x Φ :=
 fun base W μ a w hr hx _ _ _ Q hQ => hQ st x a w W μ h (.refl base w W) hr hx
theorem NO_det (hmix : X.P.follows .mixedOrders = true) (hsp : SpecSound X) {nt b0 i : Nat} {l : List Nat} {o : Oper} (ho : ops[i]? = some o) (hil : i ∉ l) (hdt : ∀ t, o.dst = some t → t < nt) {st st1 : St} {e : Eff} {x : XH} {Φ : St → XH → Prop}
  (h1 : stepOp X (callI X) ops b0 i o st = some (st1, e)) (h : NO X nt ops b0 l st1 x Φ) : NO X nt ops b0 (i :: l) st x Φ := by
 intro base W μ a w hr hx hnext hlt hfree Q hQ
 have hcs := callI_sound hmix hsp
 obtain ⟨hg, hst1⟩ := stepOp_some.1 h1
 simp only [wpOps, ho]
 have hd : ∀ t, o.dst = some t → t < a.tmps.size := fun t ht => by rw [hr.nt]; exact hdt t ht
 have rest : ∀ (v : Value) (w1 : World) (W1 : Nat → Prop) (μ1 : Mu), Step base w W μ w1 W1 μ1 → StRel X base nt W1 μ1 st1 (a.put o.dst v) w1 → st.next ≤ st1.next →
   (∀ b, μ1 b ≠ none → μ b ≠ none ∨ (b0 + 8 * i ≤ b ∧ b < b0 + 8 * i + 8) ∨ (st.next ≤ b ∧ b < st1.next)) → wpOps X.P ops Q l (a.put o.dst v) w1 := by
  intro v w1 W1 μ1 s1 r1 hn1 hnm
  refine h base W1 μ1 _ w1 r1 (hx.step s1) (by omega) (fun j hj => hlt j (by simp [hj])) (fun j hj k hk => ?_) Q fun st' x' a' w' W' μ' k1 k2 k3 k4 => hQ st' x' a' w' W' μ' k1 ((Frame.ofStep hr.sim.ble s1).trans k2) k3 k4
  cases hm : μ1 (b0 + 8 * j + k) with
  | none => rfl
  | some m =>
   have hji : j ≠ i := fun e => by subst e; exact hil hj
   have hfj := hfree j (by simp [hj]) k hk
   rcases hnm (b0 + 8 * j + k) (by simp [hm]) with h | h | h
   ·exact absurd hfj h
   ·omega
   ·have := hlt j (by simp [hj]); omega
 cases hw : wantedA ops st.env o with
 | none => rw [hw] at hg; simp [guardedOp] at hg
 | some b =>
  have hwb := wanted_sound (base := base) hr.env hw
  rw [hw] at hg
  cases b with
  | false =>
   simp only [hwb, Bool.false_eq_true, if_false]
   simp only [guardedOp, Option.some.injEq] at hg
   subst hg
   subst hst1
   have hput := putRep (Step.refl base w W μ) hr.env hd (v := undef) (x := .tuple []) (.tuple _ #[] [] rfl (by simp))
   exact rest undef w W μ (Step.refl _ _ _ _) ⟨hr.sim, hput, by rw [(put_size a o.dst undef).1]; exact hr.nt, by rw [(put_size a o.dst undef).2]; exact hr.defers, hr.free⟩ (Nat.le_refl _) (fun b hb => .inl hb)
  | true =>
   simp only [hwb, if_true]
   left
   simp only [guardedOp] at hg
   have hru := evalOp_sound hcs hr.sim hr.env (fun k hk => hfree i (by simp) k hk) hr.free o hg
   have fin : ∀ (v : Value) (w1 : World), EffOut X base W μ st.heap w (b0 + 8 * i) st.next e v w1 → wpOps X.P ops Q l (a.put o.dst v) w1 := by
    intro v w1 ho
    subst hst1
    cases e with
    | loc d =>
     obtain ⟨W1, μ1, s1, m1, r1, n1⟩ := ho
     refine rest v w1 W1 μ1 s1 ⟨m1, putRep s1 hr.env hd r1, by rw [(put_size a o.dst v).1]; exact hr.nt, by rw [(put_size a o.dst v).2]; exact hr.defers, fun b hb => ?_⟩ (Nat.le_refl _) (fun b hb => (n1 b hb).imp (fun h => h) .inl)
     cases hm : μ1 b with
     | none => rfl
     | some m =>
      have hb' : st.next ≤ b := hb
      rcases n1 b (by simp [hm]) with h | h
      ·exact absurd (hr.free b hb') h
      ·exfalso
       have hi : i < ops.size := (Array.getElem?_eq_some_iff.1 ‹ops[i]? = some o›).1
       omega
    | glob x h2 n2 =>
     obtain ⟨hnn, W1, μ1, s1, m1, r1, n1⟩ := ho
     refine rest v w1 W1 μ1 s1 ⟨m1, putRep s1 hr.env hd r1, by rw [(put_size a o.dst v).1]; exact hr.nt, by rw [(put_size a o.dst v).2]; exact hr.defers, fun b hb => ?_⟩ hnn (fun b hb => (n1 b hb).imp (fun h => h) .inr)
     cases hm : μ1 b with
     | none => rfl
     | some m =>
      have hb' : n2 ≤ b := hb
      rcases n1 b (by simp [hm]) with h | h
      ·exact absurd (hr.free b (by omega)) h
      ·omega
   show o.upon X.P a _ Q ((execOp a.eval o).run X.P w)
   rcases hru with ⟨v, w1, hrun, ho⟩ | ⟨w1, hrun, ho⟩ | ⟨f, args, hrun, hcalls⟩
   ·rw [hrun]; exact fin v w1 ho
   ·rw [hrun]; exact fin undef w1 ho
   ·rw [hrun]
    refine Calls.mono hcalls ?_
    rintro en w1 ⟨u, rfl, ho⟩
    exact fin u w1 ho
theorem NO_op {nt b0 i : Nat} {l : List Nat} {o : Oper} (ho : ops[i]? = some o) (hg : o.guard = none) (hdt : ∀ t, o.dst = some t → t < nt) {st : St} {x : XH} {Φ : St → XH → Prop} (R : AV → XH → Prop)
  (hrun : ∀ (base : Nat) (W : Nat → Prop) (μ : Mu) (a : Act) (w : World), StRel X base nt W μ st a w → XRel x base W w → ∃ v w1 y x1, ((execOp a.eval o).run X.P w = .ok (.value v) w1 ∨ (execOp a.eval o).run X.P w = .ok .skip w1 ∧ v = undef) ∧
   R y x1 ∧ Rep w1 W μ v y ∧ SameCells w w1 ∧ Frame base w W w1 W ∧ XRel x1 base W w1)
  (h : ∀ y x1, R y x1 → NO X nt ops b0 l { st with env := putEnv st.env o.dst y } x1 Φ) : NO X nt ops b0 (i :: l) st x Φ := by
 intro base W μ a w hr hx hnext hlt hfree Q hQ
 obtain ⟨v, w1, y, x1, hv, hR, hrep, hsc, hfr, hx1⟩ := hrun base W μ a w hr hx
 simp only [wpOps, ho]
 have hwb : Region.wanted o (yielded ops a.tmps) = true := by unfold Region.wanted; rw [hg]
 simp only [hwb, if_true]
 left
 have hd : ∀ t, o.dst = some t → t < a.tmps.size := fun t ht => by rw [hr.nt]; exact hdt t ht
 have henv : ∀ t, Rep w1 W μ (a.tmps.getD t undef) (st.env t) := fun t => (hr.env t).world hsc
 have hput := putRep (Step.refl base w1 W μ) henv hd hrep
 have fin : wpOps X.P ops Q l (a.put o.dst v) w1 :=
  h y x1 hR base W μ _ w1 ⟨hr.sim.world hsc, hput, by rw [(put_size a o.dst v).1]; exact hr.nt, by rw [(put_size a o.dst v).2]; exact hr.defers, hr.free⟩ hx1 hnext (fun j hj => hlt j (by simp [hj])) (fun j hj k hk => hfree j (by simp [hj]) k hk) Q
   fun st' x' a' w' W' μ' k1 k2 k3 k4 => hQ st' x' a' w' W' μ' k1 (hfr.trans k2) k3 k4
 show o.upon X.P a _ Q ((execOp a.eval o).run X.P w)
 rcases hv with hv | ⟨hv, rfl⟩
 ·rw [hv]; exact fin
 ·rw [hv]; exact fin
end
end Go.Proofs.YtenhjccadhlgoaaGreat.Abs
