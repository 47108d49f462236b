/-
  Rules for walking with the interpreter: what has to hold so that a call answers so. No conditions. Rules for walking with the interpreter: what has to hold so that a call answers so; lists of numbers. No conditions. Operations at known types. No conditions. The interpreter's functions as equations, operation by operation. No conditions.
-/
import Derived.Test.YtenhjccadhlgoaaGreatQ01
import Derived.IntWalk
set_option linter.unusedSimpArgs false
set_option linter.unusedVariables false
set_option maxRecDepth 100000
set_option maxHeartbeats 16000000
namespace Go.Proofs.YtenhjccadhlgoaaGreat.Abs
open Go
section
variable (X : Ctx)
def PN {α : Type} (x : Option α) (Φ : α → Prop) : Prop := ∃ a, x = some a ∧ Φ a
def PD (x : Option (Ex × St)) (Φ : Ex → St → Prop) : Prop := ∃ e s, x = some (e, s) ∧ Φ e s
@[congr] theorem PN_congr {α : Type} {x y : Option α} (Φ : α → Prop) (h : Unit → x = y) : PN x Φ = PN y Φ := by rw [h ()]
@[congr] theorem PD_congr {x y : Option (Ex × St)} (Φ : Ex → St → Prop) (h : Unit → x = y) : PD x Φ = PD y Φ := by rw [h ()]
theorem PN_some {α : Type} (a : α) (Φ : α → Prop) : PN (some a) Φ = Φ a := by simp [PN]
theorem PN_none {α : Type} (Φ : α → Prop) : PN none Φ = False := by simp [PN]
theorem PN_ite {α : Type} (c : Prop) [Decidable c] (x y : Option α) (Φ : α → Prop) : PN (if c then x else y) Φ = ((c → PN x Φ) ∧ (¬ c → PN y Φ)) := by by_cases h : c <;> simp [h]
theorem PN_nx {α β : Type} (x : Option α) (k : α → Option β) (Φ : β → Prop) : PN (nx x k) Φ = PN x fun a => PN (k a) Φ := by cases x <;> simp [PN, nx]
theorem PN_mp {α β : Type} (x : Option α) (k : α → β) (Φ : β → Prop) : PN (mp x k) Φ = PN x fun a => Φ (k a) := by cases x <;> simp [PN, mp]
theorem PN_mono {α : Type} {x : Option α} {Φ Ψ : α → Prop} (h : PN x Φ) (hi : ∀ a, Φ a → Ψ a) : PN x Ψ := let ⟨a, h1, h2⟩ := h; ⟨a, h1, hi a h2⟩
theorem PD_some (e : Ex) (s : St) (Φ : Ex → St → Prop) : PD (some (e, s)) Φ = Φ e s := propext ⟨fun ⟨_, _, h, p⟩ => by cases h; exact p, fun p => ⟨_, _, rfl, p⟩⟩
theorem PD_none (Φ : Ex → St → Prop) : PD none Φ = False := by simp [PD]
theorem PD_ite (c : Prop) [Decidable c] (x y : Option (Ex × St)) (Φ : Ex → St → Prop) : PD (if c then x else y) Φ = ((c → PD x Φ) ∧ (¬ c → PD y Φ)) := by by_cases h : c <;> simp [h]
theorem PD_mono {x : Option (Ex × St)} {Φ Ψ : Ex → St → Prop} (h : PD x Φ) (hi : ∀ e s, Φ e s → Ψ e s) : PD x Ψ := let ⟨e, s, h1, h2⟩ := h; ⟨e, s, h1, hi e s h2⟩
class HC where
 code : Code
class HO where
 ops : Array Oper
 rest : List Oper
def W [c : HC] (st : St) (Φ : Ex → St → Prop) : Prop := PD (D X c.code st) Φ
def seqQ [b : HC] (Φ : Ex → St → Prop) : Ex → St → Prop
 | .normal, s => W X s Φ
 | e, s => Φ e s
theorem seqQ_normal [b : HC] (Φ : Ex → St → Prop) (s : St) : seqQ X Φ .normal s = W X s Φ := nr rfl
theorem seqQ_ret [b : HC] (Φ : Ex → St → Prop) (s : St) : seqQ X Φ .ret s = Φ .ret s := nr rfl
theorem seqQ_exit [b : HC] (Φ : Ex → St → Prop) (i : Nat) (s : St) : seqQ X Φ (.exit i) s = Φ (.exit i) s := nr rfl
def blkQ (i : Nat) (Φ : Ex → St → Prop) : Ex → St → Prop
 | .exit j, s => if j = i then Φ .normal s else Φ (.exit j) s
 | e, s => Φ e s
theorem blkQ_normal (i : Nat) (Φ : Ex → St → Prop) (s : St) : blkQ i Φ .normal s = Φ .normal s := nr rfl
theorem blkQ_ret (i : Nat) (Φ : Ex → St → Prop) (s : St) : blkQ i Φ .ret s = Φ .ret s := nr rfl
theorem blkQ_exit (i j : Nat) (Φ : Ex → St → Prop) (s : St) : blkQ i Φ (.exit j) s = if j = i then Φ .normal s else Φ (.exit j) s := nr rfl
theorem W_seq (a b : Code) (st : St) (Φ : Ex → St → Prop) : @W X ⟨.seq a b⟩ st Φ = @W X ⟨a⟩ st (@seqQ X ⟨b⟩ Φ) := by
 show PD (D X (.seq a b) st) Φ = PD (D X a st) _
 rw [D_seq]
 cases D X a st with
 | none => rw [thenD_none, PD_none, PD_none]
 | some r => obtain ⟨e, s⟩ := r; cases e <;> simp only [PD_some, thenD_normal, thenD_ret, thenD_exit, seqQ] <;> rfl
theorem W_block (i : Nat) (b : Code) (st : St) (Φ : Ex → St → Prop) : @W X ⟨.block i b⟩ st Φ = @W X ⟨b⟩ st (blkQ i Φ) := by
 show PD (D X (.block i b) st) Φ = PD (D X b st) _
 rw [D_block]
 cases D X b st with
 | none => rw [blockD_none, PD_none, PD_none]
 | some r =>
  obtain ⟨e, s⟩ := r
  cases e with
  | normal => rw [blockD_normal, PD_some, PD_some]; rfl
  | ret => rw [blockD_ret, PD_some, PD_some]; rfl
  | exit j =>
   rw [blockD_exit, PD_some, blkQ_exit]
   by_cases h : j = i
   ·rw [if_pos h, if_pos h, PD_some]
   ·rw [if_neg h, if_neg h, PD_some]
theorem W_scope (b : Code) (st : St) (Φ : Ex → St → Prop) : @W X ⟨.scope b⟩ st Φ = @W X ⟨b⟩ st Φ := by
 show PD (D X (.scope b) st) Φ = _
 rw [D_scope]; rfl
theorem W_skip (st : St) (Φ : Ex → St → Prop) : @W X ⟨.skip⟩ st Φ = Φ .normal st := by
 show PD (D X (.skip) st) Φ = _
 rw [D_skip, PD_some]
theorem W_label (l : Nat) (st : St) (Φ : Ex → St → Prop) : @W X ⟨.label l⟩ st Φ = Φ .normal st := by
 show PD (D X (.label l) st) Φ = _
 rw [D_label, PD_some]
theorem W_ret (st : St) (Φ : Ex → St → Prop) : @W X ⟨.ret⟩ st Φ = Φ .ret st := by
 show PD (D X (.ret) st) Φ = _
 rw [D_ret, PD_some]
theorem W_exit (i : Nat) (st : St) (Φ : Ex → St → Prop) : @W X ⟨.exit i⟩ st Φ = Φ (.exit i) st := by
 show PD (D X (.exit i) st) Φ = _
 rw [D_exit, PD_some]
def cndQ [a : HC] [b : HC] (st : St) (Φ : Ex → St → Prop) : AV → Prop
 | .bool true => @W X a st Φ
 | .bool false => @W X b st Φ
 | _ => False
theorem cndQ_true [a : HC] [b : HC] (st : St) (Φ : Ex → St → Prop) : @cndQ X a b st Φ (.bool true) = @W X a st Φ := nr rfl
theorem cndQ_false [a : HC] [b : HC] (st : St) (Φ : Ex → St → Prop) : @cndQ X a b st Φ (.bool false) = @W X b st Φ := nr rfl
theorem cndQ_bool [a : HC] [b : HC] (st : St) (Φ : Ex → St → Prop) (t : Bool) : @cndQ X a b st Φ (.bool t) = ((t = true → @W X a st Φ) ∧ (t = false → @W X b st Φ)) := by cases t <;> simp [cndQ]
theorem cndQ_dec [a : HC] [b : HC] (st : St) (Φ : Ex → St → Prop) (p : Prop) [Decidable p] : @cndQ X a b st Φ (.bool (decide p)) = ((p → @W X a st Φ) ∧ (¬ p → @W X b st Φ)) := by by_cases h : p <;> simp [cndQ, h]
theorem cndQ_ndec [a : HC] [b : HC] (st : St) (Φ : Ex → St → Prop) (p : Prop) [Decidable p] : @cndQ X a b st Φ (.bool (!decide p)) = ((p → @W X b st Φ) ∧ (¬ p → @W X a st Φ)) := by by_cases h : p <;> simp [cndQ, h]
theorem W_cond (c : Operand) (a b : Code) (st : St) (Φ : Ex → St → Prop) : @W X ⟨.cond c a b⟩ st Φ = PN (evalA X st.env c) (@cndQ X ⟨a⟩ ⟨b⟩ st Φ) := by
 show PD (D X (.cond c a b) st) Φ = _
 rw [D_cond]
 cases evalA X st.env c with
 | none => rw [PN_none]; exact PD_none Φ
 | some v =>
  rw [PN_some]
  cases v with
  | bool t => cases t <;> rfl
  | _ => exact PD_none Φ
def afterD (d : Option Tmp) (st : St) : Eff → St
 | .loc x => ⟨putEnv st.env d x.val, applyWr st.heap x.wr, st.next⟩
 | .glob v h n => ⟨putEnv st.env d v, h, n⟩
theorem afterD_loc (d : Option Tmp) (st : St) (x : Delta) : afterD d st (.loc x) = ⟨putEnv st.env d x.val, applyWr st.heap x.wr, st.next⟩ := nr rfl
theorem afterD_glob (d : Option Tmp) (st : St) (v : AV) (h : Heap) (n : Nat) : afterD d st (.glob v h n) = ⟨putEnv st.env d v, h, n⟩ := nr rfl
theorem after_D (o : Oper) (st : St) (e : Eff) : after o st e = afterD o.dst st e := by cases e <;> rfl
def gdst [H : HO] (j : Nat) : Option Tmp := (H.rest[j]?).bind (·.dst)
theorem gdst_zero (d : Option Tmp) (op : Op) (ty : TypeId) (pos : String) (af : Array Edge) (g : Option (Nat × Bool)) (ops : Array Oper) (os : List Oper) : @gdst ⟨ops, ⟨d, op, ty, pos, af, g⟩ :: os⟩ 0 = d := by
 simp [gdst]
theorem gdst_succ (o : Oper) (ops : Array Oper) (os : List Oper) (j : Nat) : @gdst ⟨ops, o :: os⟩ (j + 1) = @gdst ⟨ops, os⟩ j := by simp [gdst]
def wantB (want : Bool) : AV → Option Bool
 | .bool b => some (b == want)
 | .tuple [] => some false
 | _ => none
theorem wantB_t (b : Bool) : wantB true (.bool b) = some b := by simp [wantB]
theorem wantB_f (b : Bool) : wantB false (.bool b) = some (!b) := by simp [wantB]
theorem wantB_u (w : Bool) : wantB w (.tuple []) = some false := nr rfl
def wantT (env : Nat → AV) (want : Bool) : Option Tmp → Option Bool
 | some t => wantB want (env t)
 | none => some false
theorem wantT_some (env : Nat → AV) (want : Bool) (t : Tmp) : wantT env want (some t) = wantB want (env t) := nr rfl
theorem wantT_none (env : Nat → AV) (want : Bool) : wantT env want none = some false := nr rfl
theorem wantedA_some (ops : Array Oper) (env : Nat → AV) (d : Option Tmp) (op : Op) (ty : TypeId) (pos : String) (af : Array Edge) (j : Nat) (w : Bool) :
  wantedA ops env ⟨d, op, ty, pos, af, some (j, w)⟩ = wantT env w (@gdst ⟨ops, ops.toList⟩ j) := by
 unfold wantedA wantT gdst
 simp only [Array.getElem?_toList]
 cases h : ops[j]? with
 | none => rfl
 | some g =>
  cases hd : g.dst with
  | none => simp [hd]
  | some t => simp [hd]; cases env t <;> rfl
def RT [H : HO] (base i : Nat) (st : St) (Φ : Ex → St → Prop) : Prop := PN (runText X (callI X) H.ops base H.rest i st) (Φ .normal)
theorem W_text (i : Nat) (l : List Oper) (st : St) (Φ : Ex → St → Prop) : @W X ⟨.region i ⟨l⟩ false⟩ st Φ = @RT X ⟨⟨l⟩, l⟩ st.next 0 { st with next := st.next + 8 * l.length } Φ := by
 show PD (D X (.region i ⟨l⟩ false) st) Φ = _
 rw [D_region, runRegion_text]
 unfold RT
 cases runText X (callI X) ⟨l⟩ st.next l 0 { st with next := st.next + 8 * l.length } with
 | none => rw [PN_none]; exact PD_none Φ
 | some s => rw [mp_some, PD_some, PN_some]
theorem RT_nil (ops : Array Oper) (base i : Nat) (st : St) (Φ : Ex → St → Prop) : @RT X ⟨ops, []⟩ base i st Φ = Φ .normal st := by
 unfold RT; simp only [runText_nil]; rw [PN_some]
theorem RT_cons (ops : Array Oper) (d : Option Tmp) (op : Op) (ty : TypeId) (pos : String) (af : Array Edge) (os : List Oper) (base i : Nat) (st : St) (Φ : Ex → St → Prop) :
  @RT X ⟨ops, ⟨d, op, ty, pos, af, none⟩ :: os⟩ base i st Φ = PN (evalOp X (callI X) st.env st.heap (base + 8 * i) st.next op) fun e => @RT X ⟨ops, os⟩ base (i + 1) (afterD d st e) Φ := by
 unfold RT; simp only [runText_cons, wantedA_none, guardedOp_true, PN_nx, after_D]
theorem RT_guard (l : List Oper) (d : Option Tmp) (op : Op) (ty : TypeId) (pos : String) (af : Array Edge) (j : Nat) (w : Bool) (os : List Oper) (base i : Nat) (st : St) (Φ : Ex → St → Prop) :
  @RT X ⟨⟨l⟩, ⟨d, op, ty, pos, af, some (j, w)⟩ :: os⟩ base i st Φ = PN (guardedOp (wantT st.env w (@gdst ⟨⟨l⟩, l⟩ j)) (evalOp X (callI X) st.env st.heap (base + 8 * i) st.next op)) fun e => @RT X ⟨⟨l⟩, os⟩ base (i + 1) (afterD d st e) Φ := by
 unfold RT; simp only [runText_cons, wantedA_some, PN_nx, after_D]
abbrev Touch := Nat × Option (List Nat × List Nat)
def touches (e : Eff) : Option (List Nat × List Nat) := match e with
 | .loc d => some (d.rd, d.wr.map (·.1))
 | .glob .. => none
def clash1 : Option (List Nat × List Nat) → Option (List Nat × List Nat) → Bool
 | some (r, w), some (r', w') => w.any (fun x => r'.contains x || w'.contains x) || w'.any (fun x => r.contains x || w.contains x)
 | some (r, w), none => !(r.isEmpty && w.isEmpty)
 | none, some (r, w) => !(r.isEmpty && w.isEmpty)
 | none, none => true
def edges (af : Array Edge) (i : Nat) : Bool := af.any fun e => e.on == i && Region.binds .any e
def reachH [H : HO] (j i : Nat) : Bool := reachB H.ops H.ops.size j i
def clashE [H : HO] (c e : Bool) (j i : Nat) : Bool := c && !(e || reachH j i)
theorem clashE_f [H : HO] (e : Bool) (j i : Nat) : clashE false e j i = false := nr rfl
theorem clashE_t [H : HO] (j i : Nat) : clashE true true j i = false := nr rfl
theorem clashE_n [H : HO] (j i : Nat) : clashE true false j i = !reachH j i := nr (by simp [clashE])
def clashes [H : HO] (j : Nat) (af : Array Edge) (t : Option (List Nat × List Nat)) (acc : List Touch) : Bool := acc.any fun x => clashE (clash1 x.2 t) (edges af x.1) j x.1
theorem clash1_disj (e e' : Eff) : clash1 (touches e) (touches e') = !e.disj e' := by
 cases e with
 | loc d => cases e' with
  | loc d' =>
   have k : ∀ a b : Delta, a.wr.any (fun x => b.rd.contains x.1 || (b.wr.map (·.1)).contains x.1) = a.hits b := by
    intro a b
    unfold Delta.hits
    congr 1
    funext x
    congr 1
    rw [List.contains_eq_any_beq, List.any_map]
    congr 1
    funext y
    simp only [Function.comp]
    rw [Bool.beq_comm]
   simp only [clash1, touches, Eff.disj, List.any_map, Function.comp_def]
   rw [← k d d', ← k d' d]
   simp
  | glob v h n => simp [clash1, touches, Eff.disj]
 | glob v h n => cases e' with
  | loc d => simp [clash1, touches, Eff.disj]
  | glob v' h' n' => rfl
def accOk (ops : Array Oper) (acc : List Touch) : Nat → List (Oper × Eff) → Bool
 | _, [] => true
 | j, x :: l => !@clashes ⟨ops, []⟩ j x.1.after (touches x.2) acc && accOk ops acc (j + 1) l
def RE [H : HO] (base i : Nat) (st : St) (acc : List Touch) (Φ : Ex → St → Prop) : Prop :=
 PN (runTextE X (callI X) H.ops base H.rest i st) fun x => (accOk H.ops acc i x.2 = true ∧ okPairs H.ops i x.2 = true) ∧ Φ .normal x.1
theorem accOk_cons (ops : Array Oper) (i : Nat) (e : Eff) (acc : List Touch) : ∀ (l : List (Oper × Eff)) (j : Nat), accOk ops ((i, touches e) :: acc) j l = (okWith ops i e j l && accOk ops acc j l)
 | [], _ => rfl
 | (o, e') :: l, j => by
  rw [accOk, accOk, okWith, accOk_cons ops i e acc l (j + 1)]
  unfold clashes
  rw [List.any_cons]
  have h : @clashE ⟨ops, []⟩ (clash1 (touches e) (touches e')) (edges o.after i) j i = !(e.disj e' || (edgeOn o i || reachB ops ops.size j i)) := by
   rw [clash1_disj]
   show (!e.disj e' && !(edgeOn o i || reachB ops ops.size j i)) = _
   cases e.disj e' <;> cases edgeOn o i <;> cases reachB ops ops.size j i <;> rfl
  rw [h]
  cases (e.disj e' || (edgeOn o i || reachB ops ops.size j i)) <;> cases okWith ops i e (j + 1) l <;> cases (acc.any fun x => @clashE ⟨ops, []⟩ (clash1 x.2 (touches e')) (edges o.after x.1) j x.1) <;> simp
theorem RE_nil (ops : Array Oper) (base i : Nat) (st : St) (acc : List Touch) (Φ : Ex → St → Prop) : @RE X ⟨ops, []⟩ base i st acc Φ = Φ .normal st := by
 unfold RE
 simp only [runTextE_nil]
 rw [PN_some]
 simp [accOk, okPairs]
theorem clashes_rest (ops : Array Oper) (os : List Oper) (j : Nat) (af : Array Edge) (t : Option (List Nat × List Nat)) (acc : List Touch) : @clashes ⟨ops, os⟩ j af t acc = @clashes ⟨ops, []⟩ j af t acc := rfl
theorem RE_key (ops : Array Oper) (o : Oper) (os : List Oper) (base i : Nat) (st : St) (acc : List Touch) (Φ : Ex → St → Prop) :
  @RE X ⟨ops, o :: os⟩ base i st acc Φ = PN (guardedOp (wantedA ops st.env o) (evalOp X (callI X) st.env st.heap (base + 8 * i) st.next o.op)) fun e => @clashes ⟨ops, os⟩ i o.after (touches e) acc = false ∧ @RE X ⟨ops, os⟩ base (i + 1) (afterD o.dst st e) ((i, touches e) :: acc) Φ := by
 unfold RE
 simp only [runTextE_cons, PN_nx, PN_mp, after_D]
 cases guardedOp (wantedA ops st.env o) (evalOp X (callI X) st.env st.heap (base + 8 * i) st.next o.op) with
 | none => rw [PN_none, PN_none]
 | some e =>
  rw [PN_some, PN_some]
  cases runTextE X (callI X) ops base os (i + 1) (afterD o.dst st e) with
  | none => rw [PN_none, PN_none]; simp
  | some y =>
   rw [PN_some, PN_some]
   simp only [accOk_cons, okPairs, Bool.and_eq_true, clashes_rest]
   have : accOk ops acc i ((o, e) :: y.2) = (!@clashes ⟨ops, []⟩ i o.after (touches e) acc && accOk ops acc (i + 1) y.2) := rfl
   rw [this]
   simp only [Bool.and_eq_true, Bool.not_eq_true']
   apply propext
   constructor
   ·rintro ⟨⟨⟨a, b⟩, c, d⟩, e⟩; exact ⟨a, ⟨⟨c, b⟩, d⟩, e⟩
   ·rintro ⟨a, ⟨⟨c, b⟩, d⟩, e⟩; exact ⟨⟨⟨a, b⟩, c, d⟩, e⟩
def RK [H : HO] (af : Array Edge) (d : Option Tmp) (base i : Nat) (st : St) (acc : List Touch) (Φ : Ex → St → Prop) (e : Eff) : Prop :=
 clashes i af (touches e) acc = false ∧ RE X base (i + 1) (afterD d st e) ((i, touches e) :: acc) Φ
theorem RE_cons (ops : Array Oper) (d : Option Tmp) (op : Op) (ty : TypeId) (pos : String) (af : Array Edge) (os : List Oper) (base i : Nat) (st : St) (acc : List Touch) (Φ : Ex → St → Prop) :
  @RE X ⟨ops, ⟨d, op, ty, pos, af, none⟩ :: os⟩ base i st acc Φ = PN (evalOp X (callI X) st.env st.heap (base + 8 * i) st.next op) (@RK X ⟨ops, os⟩ af d base i st acc Φ) := by
 rw [RE_key]; simp only [wantedA_none, guardedOp_true]; rfl
theorem RE_guard (l : List Oper) (d : Option Tmp) (op : Op) (ty : TypeId) (pos : String) (af : Array Edge) (j : Nat) (w : Bool) (os : List Oper) (base i : Nat) (st : St) (acc : List Touch) (Φ : Ex → St → Prop) :
  @RE X ⟨⟨l⟩, ⟨d, op, ty, pos, af, some (j, w)⟩ :: os⟩ base i st acc Φ = PN (guardedOp (wantT st.env w (@gdst ⟨⟨l⟩, l⟩ j)) (evalOp X (callI X) st.env st.heap (base + 8 * i) st.next op)) (@RK X ⟨⟨l⟩, os⟩ af d base i st acc Φ) := by
 rw [RE_key]; simp only [wantedA_some]; rfl
theorem clash1_pure (x : Option (List Nat × List Nat)) : clash1 x (some ([], [])) = false := by
 cases x with
 | none => rfl
 | some y => simp [clash1]
theorem clash1_pure' (x : Option (List Nat × List Nat)) : clash1 (some ([], [])) x = false := by
 cases x with
 | none => rfl
 | some y => simp [clash1]
theorem RE_pure [H : HO] (base i j : Nat) (st : St) (acc : List Touch) (Φ : Ex → St → Prop) : RE X base i st ((j, some ([], [])) :: acc) Φ = RE X base i st acc Φ := by
 have h : ∀ (l : List (Oper × Eff)) (i : Nat), accOk H.ops ((j, some ([], [])) :: acc) i l = accOk H.ops acc i l := by
  intro l
  induction l with
  | nil => intro i; rfl
  | cons x l ih =>
   intro i
   rw [accOk, accOk, ih]
   unfold clashes
   rw [List.any_cons]
   simp only [clash1_pure', clashE_f, Bool.false_or]
 unfold RE
 simp only [h]
theorem RK_pure [H : HO] (af : Array Edge) (d : Option Tmp) (base i : Nat) (st : St) (acc : List Touch) (Φ : Ex → St → Prop) (v : AV) :
  RK X af d base i st acc Φ (.loc ⟨v, [], []⟩) = RE X base (i + 1) ⟨putEnv st.env d v, st.heap, st.next⟩ acc Φ := by
 have h : clashes i af (touches (.loc ⟨v, [], []⟩)) acc = false := by
  unfold clashes
  rw [List.any_eq_false]
  intro x _
  simp [touches, clash1_pure, clashE_f]
 unfold RK
 rw [h]
 show (false = false ∧ RE X base (i + 1) _ ((i, some ([], [])) :: acc) Φ) = _
 rw [RE_pure]
 simp [afterD, applyWr]
theorem RK_rd [H : HO] (af : Array Edge) (d : Option Tmp) (base i : Nat) (st : St) (acc : List Touch) (Φ : Ex → St → Prop) (v : AV) (r : Nat) (rs : List Nat) :
  RK X af d base i st acc Φ (.loc ⟨v, r :: rs, []⟩) = (clashes i af (some (r :: rs, [])) acc = false ∧ RE X base (i + 1) ⟨putEnv st.env d v, st.heap, st.next⟩ ((i, some (r :: rs, [])) :: acc) Φ) := rfl
theorem RK_wr [H : HO] (af : Array Edge) (d : Option Tmp) (base i : Nat) (st : St) (acc : List Touch) (Φ : Ex → St → Prop) (v : AV) (rs : List Nat) (w : Nat × Option Obj) (ws : List (Nat × Option Obj)) :
  RK X af d base i st acc Φ (.loc ⟨v, rs, w :: ws⟩) = (clashes i af (some (rs, w.1 :: ws.map (·.1))) acc = false ∧ RE X base (i + 1) ⟨putEnv st.env d v, applyWr st.heap (w :: ws), st.next⟩ ((i, some (rs, w.1 :: ws.map (·.1))) :: acc) Φ) := rfl
theorem RK_glob [H : HO] (af : Array Edge) (d : Option Tmp) (base i : Nat) (st : St) (acc : List Touch) (Φ : Ex → St → Prop) (v : AV) (h : Heap) (n : Nat) :
  RK X af d base i st acc Φ (.glob v h n) = (clashes i af none acc = false ∧ RE X base (i + 1) ⟨putEnv st.env d v, h, n⟩ ((i, none) :: acc) Φ) := rfl
theorem W_draw (i : Nat) (l : List Oper) (st : St) (Φ : Ex → St → Prop) : @W X ⟨.region i ⟨l⟩ true⟩ st Φ = @RE X ⟨⟨l⟩, l⟩ st.next 0 { st with next := st.next + 8 * l.length } [] Φ := by
 show PD (D X (.region i ⟨l⟩ true) st) Φ = _
 rw [D_region, runRegion_draw]
 unfold RE
 cases runTextE X (callI X) ⟨l⟩ st.next l 0 { st with next := st.next + 8 * l.length } with
 | none => rw [PN_none]; exact PD_none Φ
 | some s =>
  rw [nx_some, PN_some]
  have h0 : ∀ (l' : List (Oper × Eff)) (j : Nat), accOk ⟨l⟩ [] j l' = true := by
   intro l'
   induction l' with
   | nil => intro j; rfl
   | cons x l' ih => intro j; rw [accOk, ih]; rfl
  show PD (mp (if okPairs ⟨l⟩ 0 s.2 = true then some s.1 else none) fun st' => (Ex.normal, st')) Φ = ((accOk ⟨l⟩ [] 0 s.2 = true ∧ okPairs ⟨l⟩ 0 s.2 = true) ∧ Φ Ex.normal s.1)
  rw [h0]
  cases h : okPairs ⟨l⟩ 0 s.2 with
  | true => rw [if_pos rfl, mp_some, PD_some]; simp
  | false => simp only [Bool.false_eq_true, if_false, mp_none]; rw [PD_none]; simp
theorem clashes_nil [H : HO] (j : Nat) (af : Array Edge) (t : Option (List Nat × List Nat)) : clashes j af t [] = false := nr rfl
theorem clashes_cons [H : HO] (j : Nat) (af : Array Edge) (t : Option (List Nat × List Nat)) (x : Touch) (acc : List Touch) : clashes j af t (x :: acc) = (clashE (clash1 x.2 t) (edges af x.1) j x.1 || clashes j af t acc) := nr rfl
theorem edges_list (l : List Edge) (i : Nat) : edges ⟨l⟩ i = l.any fun e => e.on == i && Region.binds .any e := by simp [edges]
def lpQ {α : Type} (I : α → St → Prop) (m : α → Nat) (a : α) (E : Ex → St → Prop) : Ex → St → Prop
 | .normal, s => ∃ a', I a' s ∧ m a' < m a
 | e, s => E e s
theorem lpQ_normal {α : Type} (I : α → St → Prop) (m : α → Nat) (a : α) (E : Ex → St → Prop) (s : St) : lpQ I m a E .normal s = ∃ a', I a' s ∧ m a' < m a := nr rfl
theorem lpQ_ret {α : Type} (I : α → St → Prop) (m : α → Nat) (a : α) (E : Ex → St → Prop) (s : St) : lpQ I m a E .ret s = E .ret s := nr rfl
theorem lpQ_exit {α : Type} (I : α → St → Prop) (m : α → Nat) (a : α) (E : Ex → St → Prop) (i : Nat) (s : St) : lpQ I m a E (.exit i) s = E (.exit i) s := nr rfl
theorem W_loop {α : Type} {b : Code} (I : α → St → Prop) (m : α → Nat) {E : Ex → St → Prop}
  (step : ∀ a s, I a s → @W X ⟨b⟩ s (lpQ I m a E)) :
  ∀ a s, I a s → @W X ⟨.loop b⟩ s E := by
 have key : ∀ n a s, m a = n → I a s → PD (D X (.loop b) s) E := by
  intro n
  induction n using Nat.strongRecOn with
  | ind n ih =>
   intro a s hn hI
   obtain ⟨e, s', h1, h2⟩ := step a s hI
   have hD : D X (.loop b) s = nx (D X b s) fun | (.normal, st') => D X (.loop b) st' | r => some r := by rw [D_eq, runWith]; rfl
   have h1' : D X b s = some (e, s') := h1
   rw [hD, h1']
   cases e with
   | normal => obtain ⟨a', h3, h4⟩ := h2; exact ih (m a') (by omega) a' s' rfl h3
   | exit i => exact ⟨_, _, rfl, h2⟩
   | ret => exact ⟨_, _, rfl, h2⟩
 exact fun a s => key _ a s rfl
theorem W_mono [c : HC] {st : St} {Φ Ψ : Ex → St → Prop} (h : W X st Φ) (hi : ∀ e s, Φ e s → Ψ e s) : W X st Ψ := PD_mono h hi
end
section
variable (X : Ctx)
def norQ (R : St → Prop) : Ex → St → Prop
 | .normal, s => R s
 | _, _ => False
theorem norQ_normal (R : St → Prop) (s : St) : norQ R .normal s = R s := nr rfl
theorem cnd_cut {a b : HC} {st : St} {Ψ : Ex → St → Prop} {p : Prop} [Decidable p] (R : St → Prop) (h : ∀ s, R s → Ψ .normal s)
  (h1 : p → @W X a st (norQ R)) (h2 : ¬ p → @W X b st (norQ R)) : @cndQ X a b st Ψ (.bool (decide p)) := by
 have hi : ∀ e s, norQ R e s → Ψ e s := by
  intro e s hh
  cases e with
  | normal => exact h s hh
  | exit i => exact hh.elim
  | ret => exact hh.elim
 rw [cndQ_dec]
 exact ⟨fun hp => @W_mono X a st _ _ (h1 hp) hi, fun hp => @W_mono X b st _ _ (h2 hp) hi⟩
def oneV : List AV → AV
 | [v] => v
 | vs => .tuple vs
theorem oneV_one (v : AV) : oneV [v] = v := nr rfl
theorem oneV_nil : oneV [] = .tuple [] := nr rfl
theorem oneV_two (v w : AV) (l : List AV) : oneV (v :: w :: l) = .tuple (v :: w :: l) := nr rfl
def outM (md : CMode) (h : Heap) (v : AV) : Option AV := match md with
  | .ro => mp (snap h 12 v) fun y => y.1.weak
  | .top => mp (resultTop h 12 v) AV.weak
  | _ => none
theorem outM_ro (h : Heap) (v : AV) : outM .ro h v = mp (snap h 12 v) fun y => y.1.weak := nr rfl
theorem outM_top (h : Heap) (v : AV) : outM .top h v = mp (resultTop h 12 v) AV.weak := nr rfl
def outR (md : CMode) (rs : List ResultVar) (Φ : AV → Prop) : Ex → St → Prop
 | .exit _, _ => False
 | _, st => PN (loadRess X st rs) fun vs => PN (outM md st.heap (oneV vs)) Φ
theorem outR_ret (md : CMode) (rs : List ResultVar) (Φ : AV → Prop) (st : St) : outR X md rs Φ .ret st = PN (loadRess X st rs) fun vs => PN (outM md st.heap (oneV vs)) Φ := nr rfl
theorem outR_normal (md : CMode) (rs : List ResultVar) (Φ : AV → Prop) (st : St) : outR X md rs Φ .normal st = PN (loadRess X st rs) fun vs => PN (outM md st.heap (oneV vs)) Φ := nr rfl
theorem M_of {f : FuncId} {fn : Func} {c : Code} {md : CMode} {rs : List ResultVar} (hf : X.P.funcs[f]? = some fn) (hb : fn.body = some c) (hok : funcOk fn = true) (hm : X.mode f = md) (hr : fn.results.toList = rs)
  (args : List AV) (hl : (args.length == fn.params.size + fn.nfree) = true) (r : AV) (h : ∀ r', r' = r → @W X ⟨c⟩ ⟨argEnv args, emptyHeap, 0⟩ (outR X md rs (· = r'))) (hns : md.isSpec = false := by rfl) : M X f args = some r := by
 obtain ⟨e, s, h1', h4⟩ := h r rfl
 have h1 : D X c ⟨argEnv args, emptyHeap, 0⟩ = some (e, s) := h1'
 rw [M_def X (by rw [hm]; exact hns), callI_def X hf hb hok args hl, h1]
 subst hm hr
 have key : ∀ s, PN (loadRess X s fn.results.toList) (fun vs => PN (outM (X.mode f) s.heap (oneV vs)) (· = r)) →
   nx (mp (resultsA X fn s) fun v => (v, s.heap, s.next)) (fun x => match X.mode f with
    | .ro => mp (snap x.2.1 depthA x.1) fun y => y.1.weak
    | .top => mp (resultTop x.2.1 depthA x.1) AV.weak
    | _ => none) = some r := by
  rintro s ⟨vs, h5, v, h6, rfl⟩
  unfold resultsA
  rw [h5]
  exact h6
 cases e with
 | exit i => exact h4.elim
 | normal => exact key s h4
 | ret => exact key s h4
def sel {α : Type} (b : Bool) (a : α) (f : Nat → α) (j : Nat) : α := match b with
 | true => a
 | false => f j
@[congr] theorem sel_congr {α : Type} {b c : Bool} (a : α) (f : Nat → α) (j : Nat) (h : Unit → b = c) : sel b a f j = sel c a f j := by rw [h ()]
theorem sel_true {α : Type} (a : α) (f : Nat → α) (j : Nat) : sel true a f j = a := nr rfl
theorem sel_false {α : Type} (a : α) (f : Nat → α) (j : Nat) : sel false a f j = f j := nr rfl
theorem upd_sel {α : Type} (f : Nat → α) (i : Nat) (a : α) (j : Nat) : upd f i a j = sel (j == i) a f j := by
 rw [upd_apply]
 by_cases h : j = i
 ·rw [if_pos h, beq_iff_eq.2 h, sel_true]
 ·rw [if_neg h, beq_eq_false_iff_ne.2 h, sel_false]
theorem beq_no {j i : Nat} (h : j ≠ i) : (j == i) = false := beq_eq_false_iff_ne.2 h
theorem beq_yes {j i : Nat} (h : j = i) : (j == i) = true := beq_iff_eq.2 h
def ints (l : List Int) : List AV := l.map (.int .i64)
def isl (l : List Int) : AV := .ro (ints l) l.length false
theorem isl_def (l : List Int) : isl l = .ro (ints l) l.length false := nr rfl
theorem ints_length (l : List Int) : (ints l).length = l.length := by simp [ints]
theorem ints_nil : ints [] = [] := nr rfl
theorem ints_cons (a : Int) (l : List Int) : ints (a :: l) = .int .i64 a :: ints l := nr rfl
theorem ints_take (l : List Int) (n : Nat) : (ints l).take n = ints (l.take n) := by simp [ints]
theorem ints_drop (l : List Int) (n : Nat) : (ints l).drop n = ints (l.drop n) := by simp [ints]
theorem ints_app (l m : List Int) : ints l ++ ints m = ints (l ++ m) := by simp [ints]
theorem ints_set (l : List Int) (n : Nat) (d : Int) : (ints l).set n (.int .i64 d) = ints (l.set n d) := by simp [ints, List.map_set]
theorem ints_splice (l : List Int) (n : Nat) (d : Int) (h : n < l.length) : splice (ints l) n [.int .i64 d] = ints (l.set n d) := by
 rw [← ints_set, splice]
 apply List.ext_getElem?
 intro i
 simp only [List.length_cons, List.length_nil, List.append_assoc, List.getElem?_append, List.getElem?_take, List.length_take, List.getElem?_drop, List.getElem?_set, ints_length]
 grind
theorem ints_getD (l : List Int) (n : Nat) : (ints l)[n]? = if n < l.length then some (.int .i64 (l.getD n 0)) else none := by
 simp only [ints, List.getElem?_map, List.getD_eq_getElem?_getD]
 split
 ·rename_i h; simp [h]
 ·rename_i h; simp [Nat.not_lt.1 h]
theorem ints_drop_cons (l : List Int) (n : Nat) (h : n < l.length) : (ints l).drop n = .int .i64 (l.getD n 0) :: ints (l.drop (n + 1)) := by
 rw [ints_drop, List.drop_eq_getElem_cons h, ints_cons]
 simp [List.getD_eq_getElem?_getD, h]
theorem weaks_ints (l : List Int) : AV.weak.go (ints l) = ints l := by
 induction l with
 | nil => rfl
 | cons a l ih => simp [ints_cons, AV.weak.go, AV.weak, ih]
theorem weak_isl (l : List Int) : (isl l).weak = isl l := by simp [isl, AV.weak, weaks_ints]
theorem snaps_of {f : AV → Option (AV × List Nat)} : ∀ {l : List AV}, (∀ c ∈ l, f c = some (c, [])) → snaps f l = some (l, [])
 | [], _ => rfl
 | c :: l, h => by
  rw [snaps, h c (by simp), nx_some, snaps_of (fun x hx => h x (by simp [hx]))]; rfl
theorem snap_int (h : Heap) (d : Nat) (k : IntKind) (n : Int) : snap h (d + 1) (.int k n) = some (.int k n, []) := nr rfl
theorem snap_bool (h : Heap) (d : Nat) (b : Bool) : snap h (d + 1) (.bool b) = some (.bool b, []) := nr rfl
theorem snap_ro (h : Heap) (d : Nat) (cs : List AV) (n : Nat) (f : Bool) : snap h (d + 1) (.ro cs n f) = some (.ro cs n f, []) := nr rfl
theorem snap_isl (h : Heap) (d : Nat) (l : List Int) : snap h (d + 1) (isl l) = some (isl l, []) := nr rfl
theorem snap_agg (h : Heap) (d : Nat) (cs : List AV) : snap h (d + 1) (.agg cs) = mp (snaps (snap h d) cs) fun x => (.agg x.1, x.2) := nr rfl
theorem snap_tuple (h : Heap) (d : Nat) (cs : List AV) : snap h (d + 1) (.tuple cs) = mp (snaps (snap h d) cs) fun x => (.tuple x.1, x.2) := nr rfl
theorem snap_sl (h : Heap) (d b off len sz : Nat) (cap : Option Nat) : snap h (d + 1) (.sl b off len cap sz) = match h b with
   | some (.cells cs _ _) =>
    if off + len * sz ≤ cs.length then
     mp (snaps (snap h d) ((cs.drop off).take (len * sz))) fun x => (.ro x.1 len false, b :: x.2)
    else none
   | _ => none := rfl
def snapP (h : Heap) (d b off : Nat) : Option Obj → Option (AV × List Nat)
 | some (.cells cs _ _) => mp (snaps (snap h d) (cs.drop off)) fun x => (.rptr x.1, b :: x.2)
 | none => none
theorem snap_ptr (h : Heap) (d b off : Nat) : snap h (d + 1) (.ptr b off) = snapP h d b off (h b) := by
 show (match h b with | some (.cells cs _ _) => _ | _ => none) = _
 cases h b with
 | none => rfl
 | some o => cases o; rfl
theorem snapP_some (h : Heap) (d b off : Nat) (cs : List AV) (g f : Bool) : snapP h d b off (some (.cells cs g f)) = mp (snaps (snap h d) (cs.drop off)) fun x => (.rptr x.1, b :: x.2) := nr rfl
theorem snap_rptr (h : Heap) (d : Nat) (cs : List AV) : snap h (d + 1) (.rptr cs) = some (.rptr cs, []) := nr rfl
theorem snap_func (h : Heap) (d : Nat) (fn : Fn) (a b : List AV) : snap h (d + 1) (.func fn a b) = nx (snaps (snap h d) a) fun x => mp (snaps (snap h d) b) fun y => (.func fn x.1 y.1, x.2 ++ y.2) := nr rfl
theorem snaps_nil (f : AV → Option (AV × List Nat)) : snaps f [] = some ([], []) := nr rfl
theorem snaps_cons (f : AV → Option (AV × List Nat)) (a : AV) (l : List AV) : snaps f (a :: l) = nx (f a) fun x => mp (snaps f l) fun y => (x.1 :: y.1, x.2 ++ y.2) := nr rfl
theorem snaps_ints (h : Heap) (d : Nat) (l : List Int) : snaps (snap h (d + 1)) (ints l) = some (ints l, []) := snaps_of fun c hc => by
 simp only [ints, List.mem_map] at hc
 obtain ⟨n, _, rfl⟩ := hc
 rfl
def frz (h : Heap) (ids : List Nat) (r : AV) : List (Nat × Option Obj) := if r.scal then [] else (ids.filter fun b => !frozenB (h b)).map fun b => (b, frozenObj (h b))
theorem frz_nil (h : Heap) (r : AV) : frz h [] r = [] := by simp [frz]
theorem frz_int (h : Heap) (ids : List Nat) (k : IntKind) (n : Int) : frz h ids (.int k n) = [] := nr rfl
theorem frz_bool (h : Heap) (ids : List Nat) (b : Bool) : frz h ids (.bool b) = [] := nr rfl
theorem frz_tuple0 (h : Heap) (ids : List Nat) : frz h ids (.tuple []) = [] := nr rfl
def frzO (i : Nat) (o : Option Obj) (l : List (Nat × Option Obj)) : List (Nat × Option Obj) := if frozenB o = true then l else (i, frozenObj o) :: l
theorem frzO_t (i : Nat) (cs : List AV) (g : Bool) (l : List (Nat × Option Obj)) : frzO i (some (.cells cs g true)) l = l := nr rfl
theorem frzO_f (i : Nat) (cs : List AV) (g : Bool) (l : List (Nat × Option Obj)) : frzO i (some (.cells cs g false)) l = (i, some (.cells cs g true)) :: l := nr rfl
def frzL (h : Heap) (b : Bool) : List Nat → List (Nat × Option Obj)
 | [] => []
 | i :: l => match b with
  | true => []
  | false => frzO i (h i) (frzL h b l)
theorem frz_eq (h : Heap) (ids : List Nat) (r : AV) : frz h ids r = frzL h r.scal ids := by
 unfold frz
 cases hb : r.scal with
 | true => cases ids <;> rfl
 | false =>
  simp only [Bool.false_eq_true, if_false]
  induction ids with
  | nil => rfl
  | cons i l ih =>
   show _ = frzO i (h i) (frzL h false l)
   rw [← ih, List.filter_cons]
   unfold frzO
   cases frozenB (h i) <;> simp
theorem frzL_nil (h : Heap) (b : Bool) : frzL h b [] = [] := nr rfl
theorem frzL_true (h : Heap) (i : Nat) (l : List Nat) : frzL h true (i :: l) = [] := nr rfl
theorem frzL_false (h : Heap) (i : Nat) (l : List Nat) : frzL h false (i :: l) = frzO i (h i) (frzL h false l) := nr rfl
theorem frozen_some (cs : List AV) (g f : Bool) : frozenObj (some (.cells cs g f)) = some (.cells cs g true) := nr rfl
theorem frozen_none : frozenObj none = none := nr rfl
theorem scl_int (k : IntKind) (n : Int) : (AV.int k n).scal = true := nr rfl
theorem scl_bool (b : Bool) : (AV.bool b).scal = true := nr rfl
theorem scl_ro (cs : List AV) (n : Nat) (f : Bool) : (AV.ro cs n f).scal = false := nr rfl
theorem scl_isl (l : List Int) : (isl l).scal = false := nr rfl
theorem scl_agg (l : List AV) : (AV.agg l).scal = AV.noRef.go l := nr (by simp only [AV.scal, AV.noRef])
theorem scl_tuple (l : List AV) : (AV.tuple l).scal = AV.noRef.go l := nr (by simp only [AV.scal, AV.noRef])
theorem scl_fresh (cs : List AV) (n sz : Nat) : (AV.fresh cs n sz).scal = AV.noRef.go cs := nr rfl
theorem nrf_ints (l : List Int) : AV.noRef.go (ints l) = true := nr (by
 unfold ints
 induction l with
 | nil => rfl
 | cons n l ih => rw [List.map_cons, AV.noRef.go, ih]; rfl)
theorem nrf_fresh (cs : List AV) (n sz : Nat) : (AV.fresh cs n sz).noRef = false := nr rfl
theorem nrf_int (k : IntKind) (n : Int) : (AV.int k n).noRef = true := nr rfl
theorem nrf_bool (b : Bool) : (AV.bool b).noRef = true := nr rfl
theorem nrf_ro (cs : List AV) (n : Nat) (f : Bool) : (AV.ro cs n f).noRef = false := nr rfl
theorem nrf_isl (l : List Int) : (isl l).noRef = false := nr rfl
theorem nrf_agg (l : List AV) : (AV.agg l).noRef = AV.noRef.go l := nr (by simp only [AV.noRef])
theorem nrf_tuple (l : List AV) : (AV.tuple l).noRef = AV.noRef.go l := nr (by simp only [AV.noRef])
theorem nrf_nil : AV.noRef.go [] = true := nr rfl
theorem nrf_cons (a : AV) (l : List AV) : AV.noRef.go (a :: l) = (a.noRef && AV.noRef.go l) := nr (by simp only [AV.noRef.go])
noncomputable def callS (h : Heap) (id next : Nat) (f : FuncId) (args : List AV) : CMode → Option (List AV × List Nat) → Option Eff
 | .inl, _ => mp (callI X f args h next) fun x => .glob x.1 x.2.1 x.2.2
 | _, none => mp (callI X f args h next) fun x => .glob x.1 x.2.1 x.2.2
 | _, some (xs, ids) => nx (M X f (AV.weak.go xs)) fun r => mp (instantiate id r) fun x => .loc ⟨x.1, ids, frz h ids r ++ x.2⟩
theorem aCall_eq (h : Heap) (id next : Nat) (f : FuncId) (args : List AV) : aCallFunc X (callI X) h id next f args = callS X h id next f args (X.mode f) (snaps (snap h 12) args) := by
 unfold aCallFunc
 show (if (X.mode f).isInl = true then _ else (match snaps (snap h 12) args with | none => _ | some (xs, ids) => _)) = _
 cases hm : X.mode f with
 | inl => rw [if_pos (by rfl)]; cases snaps (snap h 12) args <;> rfl
 | ro => rw [if_neg (by simp [CMode.isInl])]; cases snaps (snap h 12) args <;> rfl
 | top => rw [if_neg (by simp [CMode.isInl])]; cases snaps (snap h 12) args <;> rfl
 | spec g => rw [if_neg (by simp [CMode.isInl])]; cases snaps (snap h 12) args <;> rfl
theorem callS_spec (h : Heap) (id next : Nat) (f : FuncId) (args xs : List AV) (ids : List Nat) (g : List AV → Option AV) : callS X h id next f args (.spec g) (some (xs, ids)) = nx (M X f (AV.weak.go xs)) fun r => mp (instantiate id r) fun x => .loc ⟨x.1, ids, frz h ids r ++ x.2⟩ := nr rfl
theorem callS_ro (h : Heap) (id next : Nat) (f : FuncId) (args xs : List AV) (ids : List Nat) : callS X h id next f args .ro (some (xs, ids)) = nx (M X f (AV.weak.go xs)) fun r => mp (instantiate id r) fun x => .loc ⟨x.1, ids, frz h ids r ++ x.2⟩ := nr rfl
theorem callS_top (h : Heap) (id next : Nat) (f : FuncId) (args xs : List AV) (ids : List Nat) : callS X h id next f args .top (some (xs, ids)) = nx (M X f (AV.weak.go xs)) fun r => mp (instantiate id r) fun x => .loc ⟨x.1, ids, frz h ids r ++ x.2⟩ := nr rfl
theorem callS_inl (h : Heap) (id next : Nat) (f : FuncId) (args : List AV) (s : Option (List AV × List Nat)) : callS X h id next f args .inl s = mp (callI X f args h next) fun x => .glob x.1 x.2.1 x.2.2 := nr rfl
theorem callS_none (h : Heap) (id next : Nat) (f : FuncId) (args : List AV) (m : CMode) : callS X h id next f args m none = mp (callI X f args h next) fun x => .glob x.1 x.2.1 x.2.2 := by cases m <;> rfl
theorem inst_bool (id : Nat) (b : Bool) : instantiate id (.bool b) = some (.bool b, []) := nr rfl
theorem inst_int (id : Nat) (k : IntKind) (n : Int) : instantiate id (.int k n) = some (.int k n, []) := nr rfl
theorem inst_ro (id : Nat) (cs : List AV) (n : Nat) (f : Bool) : instantiate id (.ro cs n f) = some (.ro cs n f, []) := nr rfl
theorem inst_isl (id : Nat) (l : List Int) : instantiate id (isl l) = some (isl l, []) := nr rfl
theorem inst_tuple (id : Nat) (l : List AV) : instantiate id (.tuple l) = mp (insts id 0 l) fun x => (.tuple x.1, x.2) := nr rfl
theorem inst_agg (id : Nat) (l : List AV) : instantiate id (.agg l) = mp (insts id 0 l) fun x => (.agg x.1, x.2) := nr rfl
theorem insts_nil (id j : Nat) : insts id j [] = some ([], []) := nr rfl
theorem insts_cons (id j : Nat) (a : AV) (l : List AV) : insts id j (a :: l) = nx (inst1 id j a) fun x => mp (insts id x.2.2 l) fun y => (x.1 :: y.1, x.2.1 ++ y.2) := nr rfl
theorem inst1_bool (id j : Nat) (b : Bool) : inst1 id j (.bool b) = some (.bool b, [], j) := nr rfl
theorem inst1_int (id j : Nat) (k : IntKind) (n : Int) : inst1 id j (.int k n) = some (.int k n, [], j) := nr rfl
theorem inst1_ro (id j : Nat) (cs : List AV) (n : Nat) (f : Bool) : inst1 id j (.ro cs n f) = some (.ro cs n f, [], j) := nr rfl
theorem inst1_isl (id j : Nat) (l : List Int) : inst1 id j (isl l) = some (isl l, [], j) := nr rfl
theorem inst1_agg (id j : Nat) (l : List AV) : inst1 id j (.agg l) = some (.agg l, [], j) := nr rfl
theorem inst1_nil (id j : Nat) : inst1 id j (.fresh [] 0 0) = some (.ro [] 0 true, [], j) := nr rfl
theorem inst1_fresh (id j : Nat) (cs : List AV) (len sz : Nat) (h : j < 8) (hs : 0 < sz) : inst1 id j (.fresh cs len sz) = some (.sl (id + j) 0 len none sz, [(id + j, some (.cells cs true false))], j + 1) := by
 obtain ⟨sz, rfl⟩ : ∃ k, sz = k + 1 := ⟨sz - 1, by omega⟩
 cases cs <;> cases len <;> simp [inst1, h]
theorem inst_fresh (id : Nat) (cs : List AV) (len sz : Nat) : instantiate id (.fresh cs len sz) = mp (inst1 id 0 (.fresh cs len sz)) fun x => (x.1, x.2.1) := nr rfl
theorem insts_of {id j : Nat} : ∀ {l : List AV}, (∀ c ∈ l, inst1 id j c = some (c, [], j)) → insts id j l = some (l, [])
 | [], _ => rfl
 | c :: l, h => by
  rw [insts, h c (by simp), nx_some]
  simp only
  rw [insts_of (fun x hx => h x (by simp [hx]))]
  rfl
end
section
variable {X : Ctx}
def ixS (s : Nat) (x : AV) (n : Int) : Option Eff := match x with
  | .ro cs len _ => if 0 ≤ n ∧ n < len then valE (.rptr (cs.drop (n.toNat * s))) else none
  | .sl b off len _ sz => if 0 ≤ n ∧ n < len ∧ sz = s then valE (.ptr b (off + n.toNat * s)) else none
  | _ => none
theorem ix_slice {t e s : Nat} (hu : X.P.underlying t = some (.slice e)) (hs : sizeA X e = some (s + 1)) (x : AV) (k : IntKind) (n : Int) : aIndexAddr X t x (.int k n) = ixS (s + 1) x n := by
  unfold aIndexAddr; rw [hu]; simp only [hs, nx_some, Nat.succ_ne_zero, if_false]; rfl
def ixA (len s : Nat) (x : AV) (n : Int) : Option Eff := if 0 ≤ n ∧ n < len then
  match x with
  | .rptr cs => valE (.rptr (cs.drop (n.toNat * s)))
  | .ptr b off => valE (.ptr b (off + n.toNat * s))
  | _ => none
  else none
theorem ix_array {t e s len : Nat} (hu : X.P.underlying t = some (.array len e)) (hs : sizeA X e = some (s + 1)) (x : AV) (k : IntKind) (n : Int) : aIndexAddr X t x (.int k n) = ixA len (s + 1) x n := by
  unfold aIndexAddr; rw [hu]; simp only [hs, nx_some, Nat.succ_ne_zero, if_false]; rfl
def ld1 : Option (List AV × List Nat) → Option Eff
  | some (c :: _, rd) => some (.loc ⟨c, rd, []⟩)
  | _ => none
def ldn (n : Nat) : Option (List AV × List Nat) → Option Eff
  | some (cs, rd) => if n ≤ cs.length then some (.loc ⟨.agg (cs.take n), rd, []⟩) else none
  | _ => none
theorem ld_leaf {t n : Nat} (hs : shapeA X t = some (false, n)) (h : Heap) (p : AV) : aLoad X h t p = ld1 (cellsAt h p) := by
  unfold aLoad; rw [hs]
  cases cellsAt h p with
  | none => rfl
  | some x => obtain ⟨cs, rd⟩ := x; cases cs <;> rfl
theorem ld_agg {t n : Nat} (hs : shapeA X t = some (true, n)) (h : Heap) (p : AV) : aLoad X h t p = ldn n (cellsAt h p) := by
  unfold aLoad; rw [hs]
  cases cellsAt h p with
  | none => rfl
  | some x => obtain ⟨cs, rd⟩ := x; rfl
theorem ld1_cons (c : AV) (cs : List AV) (rd : List Nat) : ld1 (some (c :: cs, rd)) = some (.loc ⟨c, rd, []⟩) := nr rfl
theorem ldn_some (n : Nat) (cs : List AV) (rd : List Nat) (h : n ≤ cs.length) : ldn n (some (cs, rd)) = some (.loc ⟨.agg (cs.take n), rd, []⟩) := if_pos h
def st1 (n : Nat) (v : AV) (b off : Nat) : Option Obj → Option Eff
  | some (.cells cs g false) =>
      if v.cells.length = n ∧ off + n ≤ cs.length ∧ v.tupleB = false then
        some (.loc ⟨.tuple [], [b], [(b, some (.cells (splice cs off v.cells) g false))]⟩) else none
  | _ => none
def stS (n : Nat) (h : Heap) (p v : AV) : Option Eff := match p with
  | .ptr b off => st1 n v b off (h b)
  | _ => none
theorem st_type {t n : Nat} (hs : sizeA X t = some n) (h : Heap) (p v : AV) : aStore X h t p v = stS n h p v := by
  unfold aStore; rw [hs]; cases p <;> rfl
theorem stS_ptr (n : Nat) (h : Heap) (b off : Nat) (v : AV) : stS n h (.ptr b off) v = st1 n v b off (h b) := nr rfl
theorem st1_cells (n : Nat) (v : AV) (b off : Nat) (cs : List AV) (g : Bool) (h1 : off + n ≤ cs.length) (h0 : v.cells.length = n) (h2 : v.tupleB = false) :
    st1 n v b off (some (.cells cs g false)) = some (.loc ⟨.tuple [], [b], [(b, some (.cells (splice cs off v.cells) g false))]⟩) := if_pos ⟨h0, h1, h2⟩
def lenS : AV → Option AV
  | .ro _ n _ => some (.int .i64 n)
  | .sl _ _ n _ _ => some (.int .i64 n)
  | _ => none
theorem len_slice {t e : Nat} (hu : X.P.underlying t = some (.slice e)) (x : AV) : lenA X t x = lenS x := by
  unfold lenA; rw [hu]; cases x <;> rfl
theorem len_array {t e n : Nat} (hu : X.P.underlying t = some (.array n e)) (x : AV) : lenA X t x = some (.int .i64 n) := by
  unfold lenA; rw [hu]
theorem lenS_ro (cs : List AV) (n : Nat) (f : Bool) : lenS (.ro cs n f) = some (.int .i64 n) := nr rfl
theorem lenS_sl (b o n : Nat) (c : Option Nat) (s : Nat) : lenS (.sl b o n c s) = some (.int .i64 n) := nr rfl
theorem lenS_isl (l : List Int) : lenS (isl l) = some (.int .i64 l.length) := nr rfl
def sliS (size : Nat) (x : AV) (lo hi mx : Option AV) : Option Eff := match x with
    | .ro cs len full => nx (boundA lo 0) fun l => nx (boundA hi len) fun h =>
      match mx with
      | none => aSliceRo cs len full size l h none
      | some v => nx (boundA (some v) 0) fun m => aSliceRo cs len full size l h (some m)
    | .sl b off len cap sz => if sz ≠ size then none else nx (boundA lo 0) fun l => nx (boundA hi len) fun h =>
      match mx with
      | none => aSliceSl b off len cap size l h none
      | some v => nx (boundA (some v) 0) fun m => aSliceSl b off len cap size l h (some m)
    | _ => none
theorem sli_slice {t e s : Nat} (hu : X.P.underlying t = some (.slice e)) (hs : sizeA X e = some (s + 1)) (x : AV) (lo hi mx : Option AV) : aSlice X t x lo hi mx = sliS (s + 1) x lo hi mx := by
  unfold aSlice; rw [hu]; simp only [hs, nx_some, Nat.succ_ne_zero, if_false]; cases x <;> rfl
def slPO (n s b off l hh : Nat) : Option Obj → Option Eff
  | some (.cells cs _ _) => if off + n * s ≤ cs.length ∧ l ≤ hh ∧ hh ≤ n then
        (if l < n then some (.loc ⟨.sl b (off + l * s) (hh - l) (some (n - l)) s, [b], []⟩) else some (.loc ⟨.ro [] 0 true, [b], []⟩))
      else none
  | none => none
def slP (n s : Nat) (h : Heap) (b off : Nat) (lo hi : Option AV) : Option Eff := nx (boundA lo 0) fun l => nx (boundA hi n) fun hh => slPO n s b off l hh (h b)
theorem slp_array {t n e s : Nat} (hu : X.P.underlying t = some (.array n e)) (hs : sizeA X e = some (s + 1)) (h : Heap) (b off : Nat) (lo hi : Option AV) : aSliceP X h t b off lo hi none = slP n (s + 1) h b off lo hi := by
  unfold aSliceP; rw [hu]; simp only [hs, nx_some, Nat.succ_ne_zero, if_false, Option.isSome_none, Bool.false_eq_true]
  unfold slP
  apply congrArg; funext l
  apply congrArg; funext hh
  cases h b with
  | none => rfl
  | some o => cases o; rfl
theorem slP_eq (n s : Nat) (h : Heap) (b off : Nat) (lo hi : Option AV) : slP n s h b off lo hi = nx (boundA lo 0) fun l => nx (boundA hi n) fun hh => slPO n s b off l hh (h b) := nr rfl
theorem slPO_some (n s b off l hh : Nat) (cs : List AV) (g z : Bool) (hc : off + n * s ≤ cs.length ∧ l ≤ hh ∧ hh ≤ n ∧ l < n) : slPO n s b off l hh (some (.cells cs g z)) = some (.loc ⟨.sl b (off + l * s) (hh - l) (some (n - l)) s, [b], []⟩) := by
  show (if _ then (if _ then _ else _) else _) = _
  rw [if_pos ⟨hc.1, hc.2.1, hc.2.2.1⟩, if_pos hc.2.2.2]
def slRC (n s : Nat) (cs : List AV) (l hh : Nat) : Option Eff := if n * s ≤ cs.length then aSliceRo (cs.take (n * s)) n true s l hh none else none
def slR (n s : Nat) (cs : List AV) (lo hi : Option AV) : Option Eff := nx (boundA lo 0) fun l => nx (boundA hi n) fun hh => slRC n s cs l hh
theorem sla_array {t n e s : Nat} (hu : X.P.underlying t = some (.array n e)) (hs : sizeA X e = some (s + 1)) (cs : List AV) (lo hi : Option AV) : aSlice X t (.rptr cs) lo hi none = slR n (s + 1) cs lo hi := by
  unfold aSlice; rw [hu]; simp only [hs, nx_some, Nat.succ_ne_zero, if_false, Option.isSome_none, Bool.false_eq_true]; rfl
theorem slR_eq (n s : Nat) (cs : List AV) (lo hi : Option AV) : slR n s cs lo hi = nx (boundA lo 0) fun l => nx (boundA hi n) fun hh => slRC n s cs l hh := nr rfl
theorem slRC_eq (n s : Nat) (cs : List AV) (l hh : Nat) (hc : n * s ≤ cs.length) : slRC n s cs l hh = aSliceRo (cs.take (n * s)) n true s l hh none := if_pos hc
theorem boundA_none (d : Nat) : boundA none d = some d := nr rfl
theorem boundA_nat (k : IntKind) (n : Int) (d : Nat) (h : 0 ≤ n) : boundA (some (.int k n)) d = some n.toNat := if_pos h
theorem slice_isl (l : List Int) (a b : Nat) (h : a ≤ b ∧ b ≤ l.length) : aSliceRo (ints l) l.length false 1 a b none = some (.loc ⟨isl ((l.drop a).take (b - a)), [], []⟩) := by
  unfold aSliceRo; rw [if_pos h]
  simp only [Nat.mul_one, ints_drop, ints_take, Bool.false_and, isl, List.length_take, List.length_drop, valE]
  rw [Nat.min_eq_left (by omega)]
theorem slice_islm (l : List Int) (a b m : Nat) (h : a ≤ b ∧ b ≤ m ∧ m ≤ l.length) : aSliceRo (ints l) l.length false 1 a b (some m) = some (.loc ⟨.ro (ints ((l.drop a).take (b - a))) ((l.drop a).take (b - a)).length (b == m), [], []⟩) := by
  unfold aSliceRo; rw [if_pos ⟨h.1, by omega⟩]
  simp only
  rw [if_pos h.2]
  simp only [Nat.mul_one, ints_drop, ints_take, List.length_take, List.length_drop, valE]
  rw [Nat.min_eq_left (by omega)]
theorem sliS_isl (l : List Int) (lo hi : Option AV) : sliS 1 (isl l) lo hi none = nx (boundA lo 0) fun a => nx (boundA hi l.length) fun b => aSliceRo (ints l) l.length false 1 a b none := nr rfl
theorem sliS_islm (l : List Int) (lo hi : Option AV) (v : AV) : sliS 1 (isl l) lo hi (some v) = nx (boundA lo 0) fun a => nx (boundA hi l.length) fun b => nx (boundA (some v) 0) fun m => aSliceRo (ints l) l.length false 1 a b (some m) := nr rfl
theorem sliS_sl (s b off len : Nat) (c : Option Nat) (lo hi : Option AV) : sliS s (.sl b off len c s) lo hi none = nx (boundA lo 0) fun l => nx (boundA hi len) fun h => aSliceSl b off len c s l h none := by
  show (if s ≠ s then none else _) = _
  rw [if_neg (by simp)]
theorem sliS_slm (s b off len : Nat) (c : Option Nat) (lo hi : Option AV) (v : AV) : sliS s (.sl b off len c s) lo hi (some v) = nx (boundA lo 0) fun l => nx (boundA hi len) fun h => nx (boundA (some v) 0) fun m => aSliceSl b off len c s l h (some m) := by
  show (if s ≠ s then none else _) = _
  rw [if_neg (by simp)]
theorem slice_sl0 (b off len s l h : Nat) (hc : l ≤ h ∧ h ≤ len ∧ l < len) : aSliceSl b off len none s l h none = some (.loc ⟨.sl b (off + l * s) (h - l) none s, [], []⟩) := by
  show (if l ≤ h ∧ h ≤ len then (if l < len then _ else _) else none) = _
  rw [if_pos ⟨hc.1, hc.2.1⟩, if_pos hc.2.2]; rfl
theorem slice_sl0e (b off len s l h : Nat) (hc : l = len ∧ h = len) : aSliceSl b off len none s l h none = some (.loc ⟨.ro [] 0 false, [], []⟩) := by
  show (if l ≤ h ∧ h ≤ len then (if l < len then _ else _) else none) = _
  rw [if_pos (by omega), if_neg (by omega)]; rfl
theorem slice_slc (b off len c s l h : Nat) (hc : l ≤ h ∧ h ≤ c ∧ l < c) : aSliceSl b off len (some c) s l h none = some (.loc ⟨.sl b (off + l * s) (h - l) (some (c - l)) s, [], []⟩) := by
  show (if l ≤ h ∧ h ≤ c then (if l < c then _ else _) else none) = _
  rw [if_pos ⟨hc.1, hc.2.1⟩, if_pos hc.2.2]; rfl
theorem slice_slce (b off len c s l h : Nat) (hc : l = c ∧ h = c) : aSliceSl b off len (some c) s l h none = some (.loc ⟨.ro [] 0 true, [], []⟩) := by
  show (if l ≤ h ∧ h ≤ c then (if l < c then _ else _) else none) = _
  rw [if_pos (by omega), if_neg (by omega)]; rfl
theorem sliS_ro (s : Nat) (cs : List AV) (len : Nat) (f : Bool) (lo hi : Option AV) : sliS s (.ro cs len f) lo hi none = nx (boundA lo 0) fun l => nx (boundA hi len) fun h => aSliceRo cs len f s l h none := nr rfl
theorem slice_ro (cs : List AV) (len s l h : Nat) (f : Bool) (hc : l ≤ h ∧ h ≤ len) : aSliceRo cs len f s l h none = some (.loc ⟨.ro ((cs.drop (l * s)).take ((h - l) * s)) (h - l) (f && h == len), [], []⟩) := by
  unfold aSliceRo; rw [if_pos hc]; rfl
def faS (o : Nat) : AV → Option Eff
  | .ptr b off => valE (.ptr b (off + o))
  | .rptr cs => valE (.rptr (cs.drop o))
  | _ => none
theorem fa_field {s i n : Nat} {fs : Array Field} {f : Field} (hu : X.P.underlying s = some (.struct fs)) (hf : fs[i]? = some f) (hs : sizeA X f.type = some (n + 1)) (p : AV) : aFieldAddr X s p i = faS f.offset p := by
  unfold aFieldAddr; rw [hu]; simp only [hf, hs, nx_some, Nat.succ_ne_zero, if_false]; cases p <;> rfl
theorem fa_fieldN {s i n t o : Nat} {fs : Array Field} (hu : X.P.underlying s = some (.struct fs)) (hf : (fs[i]?).map (fun f => (f.type, f.offset)) = some (t, o)) (hs : sizeA X t = some (n + 1)) (p : AV) : aFieldAddr X s p i = faS o p := by
  obtain ⟨f, h1, h2⟩ := Option.map_eq_some_iff.1 hf
  cases h2
  exact fa_field hu h1 hs p
theorem faS_ptr (o b off : Nat) : faS o (.ptr b off) = some (.loc ⟨.ptr b (off + o), [], []⟩) := nr rfl
theorem faS_rptr (o : Nat) (cs : List AV) : faS o (.rptr cs) = some (.loc ⟨.rptr (cs.drop o), [], []⟩) := nr rfl
def fdS (agg : Bool) (n o : Nat) : AV → Option Eff
  | .agg cs => if agg then valE (.agg ((cs.drop o).take n)) else nx (cs[o]?) valE
  | _ => none
theorem fd_field {s i n : Nat} {a : Bool} {fs : Array Field} {f : Field} (hu : X.P.underlying s = some (.struct fs)) (hf : fs[i]? = some f) (hs : shapeA X f.type = some (a, n)) (x : AV) : aField X s x i = fdS a n f.offset x := by
  unfold aField; rw [hu]
  cases x with
  | agg cs => simp only [hf]; unfold partAV; rw [hs]; cases a <;> rfl
  | _ => rfl
theorem fd_fieldN {s i n t o : Nat} {a : Bool} {fs : Array Field} (hu : X.P.underlying s = some (.struct fs)) (hf : (fs[i]?).map (fun f => (f.type, f.offset)) = some (t, o)) (hs : shapeA X t = some (a, n)) (x : AV) : aField X s x i = fdS a n o x := by
  obtain ⟨f, h1, h2⟩ := Option.map_eq_some_iff.1 hf
  cases h2
  exact fd_field hu h1 hs x
theorem fdS_leaf (n o : Nat) (cs : List AV) : fdS false n o (.agg cs) = nx (cs[o]?) valE := nr rfl
theorem fdS_agg (n o : Nat) (cs : List AV) : fdS true n o (.agg cs) = some (.loc ⟨.agg ((cs.drop o).take n), [], []⟩) := nr rfl
theorem zeroN_of {t : Nat} {z : AV} (hs : X.strongA t = false) (hz : zeroA X t = some z) : zeroN X t = some z := by
  unfold zeroN; unfold zeroA at hz; rw [hs]; simpa using hz
theorem al_type {t : Nat} {z : AV} {zc : List AV} (hz : zeroN X t = some z) (hc : z.cells = zc) (ht : z.tupleB = false) (id : Nat) : aAlloc X id t = some (.loc ⟨.ptr id 0, [], [(id, some (.cells zc false false))]⟩) := by
  unfold aAlloc; rw [hz]; simp only [nx_some, ht, hc]; rfl
def blS (pl : Nat → Option (Nat × Nat)) (zc : List AV) (ps : List (Nat × AV)) : Option Eff := nx (fillA pl zc ps) fun cs => valE (.agg cs)
def plOf (l : List (Nat × Nat)) : Nat → Option (Nat × Nat) := fun i => l[i]?
theorem bl_struct {t : Nat} {z : AV} {zc : List AV} {fs : Array Field} {pl : List (Nat × Nat)} (hz : zeroA X t = some z) (hc : z.cells = zc) (ht : z.tupleB = false) (hu : X.P.underlying t = some (.struct fs)) (hp : fieldPlaces X fs.toList = some pl) (ps : List (Nat × AV)) :
    aBuild X t ps = blS (plOf pl) zc ps := by
  unfold aBuild; rw [hz]; simp only [nx_some, ht, hu, hp, hc]; rfl
def plEv (s : Nat) : Nat → Option (Nat × Nat) := fun i => some (i * s, s)
theorem bl_array {t e n s : Nat} {z : AV} {zc : List AV} (hz : zeroA X t = some z) (hc : z.cells = zc) (ht : z.tupleB = false) (hu : X.P.underlying t = some (.array n e)) (hs : sizeA X e = some s) (ps : List (Nat × AV)) :
    aBuild X t ps = blS (plEv s) zc ps := by
  unfold aBuild; rw [hz]; simp only [nx_some, ht, hu, hs, hc]; rfl
def bsS (id len size : Nat) (zc : List AV) (ps : List (Nat × AV)) : Option Eff := nx (fillA (plEv size) (replA len zc) ps) fun cs => some (.loc ⟨.sl id 0 len (some len) size, [], [(id, some (.cells cs false false))]⟩)
theorem bs_slice {t e s : Nat} {z : AV} {zc : List AV} (hu : X.P.underlying t = some (.slice e)) (hs : sizeA X e = some (s + 1)) (hz : zeroA X e = some z) (hc : z.cells = zc) (hl : zc.length = s + 1) (ht : z.tupleB = false) (id len : Nat) (hn : len * (s + 1) ≤ 2 ^ 24) (ps : List (Nat × AV)) :
    aBuildSlice X id t len ps = bsS id len (s + 1) zc ps := by
  unfold aBuildSlice; rw [hu]; simp only [hs, nx_some, hz, hc, hl, ht]
  rw [if_neg (by omega), if_neg (by simp)]; rfl
def mkS (id size bytes : Nat) (zc : List AV) (l c : AV) : Option Eff := match l, c with
  | .int _ ln, .int _ cn => if 0 ≤ ln ∧ ln ≤ cn ∧ bytes * cn ≤ 2 ^ 47 ∧ cn ≤ 2 ^ 47 then
          some (.loc ⟨.sl id 0 ln.toNat (some cn.toNat) size, [], [(id, some (.cells (replA cn.toNat zc) false false))]⟩)
        else none
  | _, _ => none
theorem mk_slice {t e s b : Nat} {z : AV} {zc : List AV} (hu : X.P.underlying t = some (.slice e)) (hs : sbA X e = some (s + 1, b)) (hz : zeroA X e = some z) (hc : z.cells = zc) (hl : zc.length = s + 1) (ht : z.tupleB = false) (id : Nat) (l c : AV) :
    aMakeSlice X id t l c = mkS id (s + 1) b zc l c := by
  unfold aMakeSlice; rw [hu]
  cases l with
  | int k ln =>
    cases c with
    | int k' cn =>
      simp only [hs, nx_some, hz, hc, hl, ht]
      rw [if_neg (by simp)]; rfl
    | _ => rfl
  | _ => rfl
theorem mkS_int (id size bytes : Nat) (zc : List AV) (k k' : IntKind) (ln cn : Int) (h : 0 ≤ ln ∧ ln ≤ cn ∧ bytes * cn ≤ 2 ^ 47 ∧ cn ≤ 2 ^ 47) :
    mkS id size bytes zc (.int k ln) (.int k' cn) = some (.loc ⟨.sl id 0 ln.toNat (some cn.toNat) size, [], [(id, some (.cells (replA cn.toNat zc) false false))]⟩) := if_pos h
def apS (size bytes : Nat) (h : Heap) (id : Nat) (s x : AV) : Option Eff :=
  nx (srcCells h size x) fun (xs, n, rd) =>
          match s with
          | .ro cs len full =>
            if n = 0 then some (.loc ⟨s, rd, []⟩)
            else if full = true ∧ len * size ≤ cs.length ∧ (len + n) * (bytes + 1) ≤ 2 ^ 40 then
              some (.loc ⟨.sl id 0 (len + n) none size, rd, [(id, some (.cells (cs.take (len * size) ++ xs) true false))]⟩)
            else none
          | .sl b off len cap sz =>
            if sz ≠ size then none else
            match h b with
            | some (.cells cs g frz) =>
              match cap with
              | some c =>
                if n = 0 then some (.loc ⟨s, b :: rd, []⟩)
                else if len + n ≤ c then
                  if frz = false ∧ off + (len + n) * size ≤ cs.length then
                    some (.loc ⟨.sl b off (len + n) (some c) sz, b :: rd, [(b, some (.cells (splice cs (off + len * size) xs) g false))]⟩)
                  else none
                else if off + len * size ≤ cs.length ∧ (len + n) * (bytes + 1) ≤ 2 ^ 40 then
                  some (.loc ⟨.sl id 0 (len + n) none size, b :: rd, [(id, some (.cells ((cs.drop off).take (len * size) ++ xs) true false))]⟩)
                else none
              | none =>
                if n = 0 then some (.loc ⟨s, b :: rd, []⟩)
                else if frz = false ∧ g = true ∧ off + len * size = cs.length ∧ (len + n) * (bytes + 1) ≤ 2 ^ 40 then
                  some (.loc ⟨.sl id 0 (len + n) none size, b :: rd, [(b, none), (id, some (.cells (cs.drop off ++ xs) true false))]⟩)
                else if frz = false ∧ g = true ∧ off + len * size < cs.length ∧ (len + n) * (bytes + 1) ≤ 2 ^ 40 then
                  some (.loc ⟨.sl id 0 (len + n) none size, b :: rd, [(b, none), (id, some (.cells ((cs.drop off).take (len * size) ++ xs) true false))]⟩)
                else none
            | _ => none
          | _ => none
theorem ap_slice {t t' e s b : Nat} {z : AV} {zc : List AV} {xd : TypeDesc} (hu : X.P.underlying t = some (.slice e)) (hu' : X.P.underlying t' = some xd) (hi : isIntD xd = false) (hs : sbA X e = some (s + 1, b)) (hz : zeroA X e = some z) (hc : z.cells = zc) (hl : zc.length = s + 1) (ht : z.tupleB = false) (h : Heap) (id : Nat) (a x : AV) :
    aAppend X h id #[t, t'] a x = apS (s + 1) b h id a x := by
  unfold aAppend
  simp only [List.getElem?_toArray, List.getElem?_cons_zero, List.getElem?_cons_succ, hu, hu', hi, hs, nx_some, hz, hc, hl, ht, Bool.false_eq_true, if_false, Nat.succ_ne_zero]
  have e1 : ¬ ((s + 1) ≠ (s + 1) ∨ False) := by simp
  rw [if_neg e1]; rfl
def srcO (size b off n : Nat) : Option Obj → Option (List AV × Nat × List Nat)
  | some (.cells cs _ _) => if off + n * size ≤ cs.length then some ((cs.drop off).take (n * size), n, [b]) else none
  | none => none
theorem src_ro (h : Heap) (size : Nat) (cs : List AV) (n : Nat) (f : Bool) : srcCells h size (.ro cs n f) = if n * size ≤ cs.length then some (cs.take (n * size), n, []) else none := nr rfl
theorem src_sl (h : Heap) (size b off n : Nat) (c : Option Nat) : srcCells h size (.sl b off n c size) = srcO size b off n (h b) := by
  show (match h b with | some (.cells cs _ _) => if size = size ∧ off + n * size ≤ cs.length then some ((cs.drop off).take (n * size), n, [b]) else none | _ => none) = srcO size b off n (h b)
  cases h b with
  | none => rfl
  | some o => cases o; simp [srcO]
theorem srcO_some (size b off n : Nat) (cs : List AV) (g f : Bool) : srcO size b off n (some (.cells cs g f)) = if off + n * size ≤ cs.length then some ((cs.drop off).take (n * size), n, [b]) else none := nr rfl
theorem src_isl (h : Heap) (l : List Int) : srcCells h 1 (isl l) = some (ints l, l.length, []) := by
  rw [isl_def, src_ro, if_pos (by simp [ints_length]), Nat.mul_one, List.take_of_length_le (by simp [ints_length])]
def cpO (size b off len : Nat) (xs : List AV) (n : Nat) (rd : List Nat) : Option Obj → Option Eff
  | some (.cells cs g false) => if off + len * size ≤ cs.length then some (.loc ⟨.int .i64 (min n len : Nat), b :: rd, [(b, some (.cells (splice cs off (xs.take (min n len * size))) g false))]⟩) else none
  | _ => none
def cpD (size : Nat) (h : Heap) (xs : List AV) (n : Nat) (rd : List Nat) : AV → Option Eff
  | .sl b off len _ sz => if sz ≠ size then none else cpO size b off len xs n rd (h b)
  | .ro _ len _ => if len = 0 then some (.loc ⟨.int .i64 0, rd, []⟩) else none
  | _ => none
theorem cp_slice {t e s : Nat} (hu : X.P.underlying t = some (.slice e)) (hs : sizeA X e = some s) (h : Heap) (t' : Nat) (d x : AV) : aCopy X h #[t, t'] d x = nx (srcCells h s x) fun y => cpD s h y.1 y.2.1 y.2.2 d := by
  unfold aCopy
  simp only [List.getElem?_toArray, List.getElem?_cons_zero, hu, hs, nx_some]
  apply congrArg; funext y
  obtain ⟨xs, n, rd⟩ := y
  cases d with
  | sl b off len c sz =>
    show (if sz ≠ s then none else (match h b with | some (.cells cs g false) => _ | _ => none)) = (if sz ≠ s then none else cpO s b off len xs n rd (h b))
    cases h b with
    | none => rfl
    | some o => obtain ⟨cs, g, f⟩ := o; cases f <;> rfl
  | _ => rfl
theorem cpD_sl (size : Nat) (h : Heap) (xs : List AV) (n : Nat) (rd : List Nat) (b off len : Nat) (c : Option Nat) : cpD size h xs n rd (.sl b off len c size) = cpO size b off len xs n rd (h b) := by simp [cpD]
theorem cpD_ro (size : Nat) (h : Heap) (xs : List AV) (n : Nat) (rd : List Nat) (cs : List AV) (len : Nat) (f : Bool) : cpD size h xs n rd (.ro cs len f) = if len = 0 then some (.loc ⟨.int .i64 0, rd, []⟩) else none := nr rfl
theorem cpO_some (size b off len : Nat) (xs : List AV) (n : Nat) (rd : List Nat) (cs : List AV) (g : Bool) : cpO size b off len xs n rd (some (.cells cs g false)) = if off + len * size ≤ cs.length then some (.loc ⟨.int .i64 (min n len : Nat), b :: rd, [(b, some (.cells (splice cs off (xs.take (min n len * size))) g false))]⟩) else none := nr rfl
def apO (size bytes id b off len : Nat) (s : AV) (xs : List AV) (n : Nat) (rd : List Nat) : Option Nat → Option Obj → Option Eff
  | some c, some (.cells cs g frz) =>
                if n = 0 then some (.loc ⟨s, b :: rd, []⟩)
                else if len + n ≤ c then
                  if frz = false ∧ off + (len + n) * size ≤ cs.length then
                    some (.loc ⟨.sl b off (len + n) (some c) size, b :: rd, [(b, some (.cells (splice cs (off + len * size) xs) g false))]⟩)
                  else none
                else if off + len * size ≤ cs.length ∧ (len + n) * (bytes + 1) ≤ 2 ^ 40 then
                  some (.loc ⟨.sl id 0 (len + n) none size, b :: rd, [(id, some (.cells ((cs.drop off).take (len * size) ++ xs) true false))]⟩)
                else none
  | none, some (.cells cs g frz) =>
                if n = 0 then some (.loc ⟨s, b :: rd, []⟩)
                else if frz = false ∧ g = true ∧ off + len * size = cs.length ∧ (len + n) * (bytes + 1) ≤ 2 ^ 40 then
                  some (.loc ⟨.sl id 0 (len + n) none size, b :: rd, [(b, none), (id, some (.cells (cs.drop off ++ xs) true false))]⟩)
                else if frz = false ∧ g = true ∧ off + len * size < cs.length ∧ (len + n) * (bytes + 1) ≤ 2 ^ 40 then
                  some (.loc ⟨.sl id 0 (len + n) none size, b :: rd, [(b, none), (id, some (.cells ((cs.drop off).take (len * size) ++ xs) true false))]⟩)
                else none
  | _, none => none
def apD (size bytes : Nat) (h : Heap) (id : Nat) (xs : List AV) (n : Nat) (rd : List Nat) (s : AV) : Option Eff := match s with
  | .ro cs len full =>
            if n = 0 then some (.loc ⟨s, rd, []⟩)
            else if full = true ∧ len * size ≤ cs.length ∧ (len + n) * (bytes + 1) ≤ 2 ^ 40 then
              some (.loc ⟨.sl id 0 (len + n) none size, rd, [(id, some (.cells (cs.take (len * size) ++ xs) true false))]⟩)
            else none
  | .sl b off len cap sz => if sz ≠ size then none else apO size bytes id b off len s xs n rd cap (h b)
  | _ => none
theorem apS_eq (size bytes : Nat) (h : Heap) (id : Nat) (s x : AV) : apS size bytes h id s x = nx (srcCells h size x) fun y => apD size bytes h id y.1 y.2.1 y.2.2 s := by
  unfold apS
  apply congrArg; funext y
  obtain ⟨xs, n, rd⟩ := y
  cases s with
  | sl b off len c sz =>
    simp only [apD]
    by_cases hz : sz = size
    · subst hz
      simp only [ne_eq, not_true_eq_false, if_false]
      cases h b with
      | none => cases c <;> rfl
      | some o => obtain ⟨cs, g, f⟩ := o; cases c <;> rfl
    · simp [hz]
  | _ => rfl
theorem apD_ro (size bytes : Nat) (h : Heap) (id : Nat) (xs : List AV) (n : Nat) (rd : List Nat) (cs : List AV) (len : Nat) (full : Bool) : apD size bytes h id xs n rd (.ro cs len full) =
    if n = 0 then some (.loc ⟨.ro cs len full, rd, []⟩)
            else if full = true ∧ len * size ≤ cs.length ∧ (len + n) * (bytes + 1) ≤ 2 ^ 40 then
              some (.loc ⟨.sl id 0 (len + n) none size, rd, [(id, some (.cells (cs.take (len * size) ++ xs) true false))]⟩)
            else none := nr rfl
theorem apD_sl (size bytes : Nat) (h : Heap) (id : Nat) (xs : List AV) (n : Nat) (rd : List Nat) (b off len : Nat) (c : Option Nat) : apD size bytes h id xs n rd (.sl b off len c size) = apO size bytes id b off len (.sl b off len c size) xs n rd c (h b) := by simp [apD]
theorem apO_cap (size bytes id b off len : Nat) (s : AV) (xs : List AV) (n : Nat) (rd : List Nat) (c : Nat) (cs : List AV) (g : Bool) : apO size bytes id b off len s xs n rd (some c) (some (.cells cs g false)) =
     if n = 0 then some (.loc ⟨s, b :: rd, []⟩)
                else if len + n ≤ c then
                  if off + (len + n) * size ≤ cs.length then
                    some (.loc ⟨.sl b off (len + n) (some c) size, b :: rd, [(b, some (.cells (splice cs (off + len * size) xs) g false))]⟩)
                  else none
                else if off + len * size ≤ cs.length ∧ (len + n) * (bytes + 1) ≤ 2 ^ 40 then
                  some (.loc ⟨.sl id 0 (len + n) none size, b :: rd, [(id, some (.cells ((cs.drop off).take (len * size) ++ xs) true false))]⟩)
                else none := by simp [apO]
theorem apO_open (size bytes id b off len : Nat) (s : AV) (xs : List AV) (n : Nat) (rd : List Nat) (cs : List AV) : apO size bytes id b off len s xs n rd none (some (.cells cs true false)) =
      if n = 0 then some (.loc ⟨s, b :: rd, []⟩)
                else if off + len * size = cs.length ∧ (len + n) * (bytes + 1) ≤ 2 ^ 40 then
                  some (.loc ⟨.sl id 0 (len + n) none size, b :: rd, [(b, none), (id, some (.cells (cs.drop off ++ xs) true false))]⟩)
                else if off + len * size < cs.length ∧ (len + n) * (bytes + 1) ≤ 2 ^ 40 then
                  some (.loc ⟨.sl id 0 (len + n) none size, b :: rd, [(b, none), (id, some (.cells ((cs.drop off).take (len * size) ++ xs) true false))]⟩)
                else none := by simp [apO]
end
section
variable (X : Ctx)
theorem evalA_tmp (env : Nat → AV) (t : Nat) : evalA X env (.tmp t) = some (env t) := nr rfl
theorem evalA_const (env : Nat → AV) (v : Value) : evalA X env (.const v) = constAV v := nr rfl
theorem evalA_global (env : Nat → AV) (g : Nat) : evalA X env (.global g) = mp (X.G g) .rptr := nr rfl
theorem evalA_func (env : Nat → AV) (f : Nat) : evalA X env (.func f) = some (.func (.func f) [] []) := nr rfl
theorem const_bool (b : Bool) : constAV (.bool b) = some (.bool b) := nr rfl
theorem const_int (k : IntKind) (n : Int) : constAV (.int k n) = some (.int k n) := nr rfl
theorem const_str (s : ByteArray) : constAV (.string s) = some (.str s) := nr rfl
theorem const_ptr : constAV (.pointer none) = some .nilptr := nr rfl
theorem const_slice : constAV (.slice none 0 0) = some (.ro [] 0 true) := nr rfl
theorem const_map : constAV (.map none) = some .nilmap := nr rfl
theorem const_func : constAV .nilFunc = some .nilfunc := nr rfl
theorem const_iface : constAV .nilIface = some .niliface := nr rfl
theorem evalsA_nil (env : Nat → AV) : evalsA X env [] = some [] := nr rfl
theorem evalsA_cons (env : Nat → AV) (x : Operand) (r : List Operand) : evalsA X env (x :: r) = nx (evalA X env x) fun a => mp (evalsA X env r) (a :: ·) := nr rfl
theorem optA_none (env : Nat → AV) : optA X env none = some none := nr rfl
theorem optA_some (env : Nat → AV) (x : Operand) : optA X env (some x) = mp (evalA X env x) some := nr rfl
theorem partsA_nil (env : Nat → AV) : partsA X env [] = some [] := nr rfl
theorem partsA_cons (env : Nat → AV) (i : Nat) (x : Operand) (r : List (Nat × Operand)) : partsA X env ((i, x) :: r) = nx (evalA X env x) fun a => mp (partsA X env r) ((i, a) :: ·) := nr rfl
theorem putEnv_some (env : Nat → AV) (t : Tmp) (v : AV) : putEnv env (some t) v = upd env t v := nr rfl
theorem putEnv_none (env : Nat → AV) (v : AV) : putEnv env none v = env := nr rfl
theorem applyWr_nil (h : Heap) : applyWr h [] = h := nr rfl
theorem applyWr_cons (h : Heap) (b : Nat) (o : Option Obj) (r : List (Nat × Option Obj)) : applyWr h ((b, o) :: r) = applyWr (upd h b o) r := nr rfl
theorem valE_eq (v : AV) : valE v = some (.loc ⟨v, [], []⟩) := nr rfl
theorem argEnv_eq (args : List AV) (i : Nat) : argEnv args i = args.getD i (.tuple []) := nr rfl
theorem getD_zero {α : Type} (a d : α) (l : List α) : (a :: l).getD 0 d = a := nr rfl
theorem getD_succ {α : Type} (a d : α) (l : List α) (n : Nat) : (a :: l).getD (n + 1) d = l.getD n d := nr rfl
def pickA (c a b : AV) : Option Eff := match c with
 | .bool t => valE (if t then a else b)
 | _ => none
theorem pickA_true (a b : AV) : pickA (.bool true) a b = some (.loc ⟨a, [], []⟩) := nr rfl
theorem pickA_false (a b : AV) : pickA (.bool false) a b = some (.loc ⟨b, [], []⟩) := nr rfl
theorem pickA_bools (t x y : Bool) : pickA (.bool t) (.bool x) (.bool y) = some (.loc ⟨.bool (if t then x else y), [], []⟩) := by cases t <;> rfl
def nilA : AV → Option Eff
  | .ptr b o => valE (.ptr b o)
  | .rptr cs => valE (.rptr cs)
  | .func (.func f) a b => valE (.func (.func f) a b)
  | _ => none
theorem nilA_ptr (b o : Nat) : nilA (.ptr b o) = some (.loc ⟨.ptr b o, [], []⟩) := nr rfl
theorem nilA_rptr (cs : List AV) : nilA (.rptr cs) = some (.loc ⟨.rptr cs, [], []⟩) := nr rfl
theorem nilA_func (f : Nat) (a b : List AV) : nilA (.func (.func f) a b) = some (.loc ⟨.func (.func f) a b, [], []⟩) := nr rfl
def exA (i : Nat) : AV → Option Eff
  | .tuple vs => nx (vs[i]?) valE
  | _ => none
theorem exA_zero (v : AV) (vs : List AV) : exA 0 (.tuple (v :: vs)) = some (.loc ⟨v, [], []⟩) := nr rfl
theorem exA_succ (i : Nat) (v : AV) (vs : List AV) : exA (i + 1) (.tuple (v :: vs)) = exA i (.tuple vs) := nr rfl
noncomputable def callA (call : CallFn) (h : Heap) (id next : Nat) (as : List AV) : AV → Option Eff
  | .func (.func f) first captured => aCallFunc X call h id next f (first ++ as ++ captured)
  | _ => none
theorem callA_plain (call : CallFn) (h : Heap) (id next : Nat) (as : List AV) (f : Nat) : callA X call h id next as (.func (.func f) [] []) = aCallFunc X call h id next f as := by
 show aCallFunc X call h id next f ([] ++ as ++ []) = _; rw [List.nil_append, List.append_nil]
theorem callA_func (call : CallFn) (h : Heap) (id next : Nat) (as : List AV) (f : Nat) (a b : List AV) : callA X call h id next as (.func (.func f) a b) = aCallFunc X call h id next f (a ++ (as ++ b)) := by
 show aCallFunc X call h id next f (a ++ as ++ b) = _; rw [List.append_assoc]
variable (call : CallFn) (env : Nat → AV) (h : Heap) (id next : Nat)
theorem op_move (x : Operand) : evalOp X call env h id next (.move x) = nx (evalA X env x) valE := nr rfl
theorem op_assign (x : Operand) : evalOp X call env h id next (.assign x) = nx (evalA X env x) valE := nr rfl
theorem op_pick (c a b : Operand) : evalOp X call env h id next (.pick c a b) = nx (evalA X env c) fun c => nx (evalA X env a) fun a => nx (evalA X env b) fun b => pickA c a b := nr rfl
theorem op_alloc (t : TypeId) : evalOp X call env h id next (.alloc t) = aAlloc X id t := nr rfl
theorem op_box (t : TypeId) (x : Operand) : evalOp X call env h id next (.box t x) = nx (evalA X env x) (aBox id) := nr rfl
theorem op_build (t : TypeId) (ps : List (Nat × Operand)) : evalOp X call env h id next (.build t ⟨ps⟩) = nx (partsA X env ps) (aBuild X t) := nr rfl
theorem op_buildSlice (t : TypeId) (len : Nat) (ps : List (Nat × Operand)) : evalOp X call env h id next (.buildSlice t len ⟨ps⟩) = nx (partsA X env ps) (aBuildSlice X id t len) := nr rfl
theorem op_load (t : TypeId) (p : Operand) : evalOp X call env h id next (.load t p) = nx (evalA X env p) (aLoad X h t) := nr rfl
theorem op_store (t : TypeId) (p v : Operand) : evalOp X call env h id next (.store t p v) = nx (evalA X env p) fun p => nx (evalA X env v) (aStore X h t p) := nr rfl
theorem op_nilCheck (x : Operand) : evalOp X call env h id next (.nilCheck x) = nx (evalA X env x) nilA := by
 show nx (evalA X env x) _ = _
 apply congrArg; funext v
 cases v <;> first | rfl | (rename_i f _ _; cases f <;> rfl)
theorem op_binOp (op : BinOp) (t : TypeId) (x y : Operand) (u : TypeId) : evalOp X call env h id next (.binOp op t x y u) = nx (evalA X env x) fun a => nx (evalA X env y) fun b => nx (binA X op t a b) valE := nr rfl
theorem op_unOp (op : UnOp) (t : TypeId) (x : Operand) : evalOp X call env h id next (.unOp op t x) = nx (evalA X env x) fun a => nx (unA op a) valE := nr rfl
theorem op_convert (src dst : TypeId) (x : Operand) : evalOp X call env h id next (.convert src dst x) = nx (evalA X env x) (aConv X h src dst) := nr rfl
theorem op_makeFunc (fn : Fn) (first captured : List Operand) : evalOp X call env h id next (.makeFunc fn ⟨first⟩ ⟨captured⟩) = nx (evalsA X env first) fun a => nx (evalsA X env captured) fun b => valE (.func fn a b) := nr rfl
theorem op_makeSlice (t : TypeId) (l c : Operand) : evalOp X call env h id next (.makeSlice t l c) = nx (evalA X env l) fun l => nx (evalA X env c) (aMakeSlice X id t l) := nr rfl
theorem op_slice (t : TypeId) (x : Operand) (lo hi : Option Operand) : evalOp X call env h id next (.slice t x lo hi none) = nx (evalA X env x) fun x => nx (optA X env lo) fun lo => nx (optA X env hi) fun hi => slcX X h t x lo hi none := nr rfl
theorem op_slice3 (t : TypeId) (x : Operand) (lo : Option Operand) (hi mx : Operand) : evalOp X call env h id next (.slice t x lo (some hi) (some mx)) = nx (evalA X env x) fun x => nx (optA X env lo) fun lo => nx (evalA X env hi) fun hi => nx (evalA X env mx) fun mx => slcX X h t x lo (some hi) (some mx) := by
 show nx (evalA X env x) (fun x => nx (optA X env lo) fun lo => nx (optA X env (some hi)) fun hi => nx (optA X env (some mx)) fun mx => _) = _
 apply congrArg; funext v
 apply congrArg; funext w
 show nx (mp (evalA X env hi) some) (fun hi => nx (mp (evalA X env mx) some) _) = _
 cases evalA X env hi with
 | none => rfl
 | some a => cases evalA X env mx <;> rfl
theorem slcX_ro (t : TypeId) (cs : List AV) (n : Nat) (f : Bool) (lo hi mx : Option AV) : slcX X h t (.ro cs n f) lo hi mx = aSlice X t (.ro cs n f) lo hi mx := nr rfl
theorem slcX_isl (t : TypeId) (l : List Int) (lo hi mx : Option AV) : slcX X h t (isl l) lo hi mx = aSlice X t (isl l) lo hi mx := nr rfl
theorem slcX_sl (t : TypeId) (b off len sz : Nat) (c : Option Nat) (lo hi mx : Option AV) : slcX X h t (.sl b off len c sz) lo hi mx = aSlice X t (.sl b off len c sz) lo hi mx := nr rfl
theorem slcX_rptr (t : TypeId) (cs : List AV) (lo hi mx : Option AV) : slcX X h t (.rptr cs) lo hi mx = aSlice X t (.rptr cs) lo hi mx := nr rfl
theorem slcX_str (t : TypeId) (s : ByteArray) (lo hi mx : Option AV) : slcX X h t (.str s) lo hi mx = aSlice X t (.str s) lo hi mx := nr rfl
theorem slcX_ptr (t : TypeId) (b off : Nat) (lo hi mx : Option AV) : slcX X h t (.ptr b off) lo hi mx = aSliceP X h t b off lo hi mx := nr rfl
theorem op_fieldAddr (s : TypeId) (x : Operand) (f : Nat) : evalOp X call env h id next (.fieldAddr s x f) = nx (evalA X env x) fun p => aFieldAddr X s p f := nr rfl
theorem op_field (t : TypeId) (x : Operand) (f : Nat) : evalOp X call env h id next (.field t x f) = nx (evalA X env x) fun x => aField X t x f := nr rfl
theorem op_indexAddr (t : TypeId) (x i : Operand) : evalOp X call env h id next (.indexAddr t x i) = nx (evalA X env x) fun x => nx (evalA X env i) (aIndexAddr X t x) := nr rfl
theorem op_index (t : TypeId) (x i : Operand) : evalOp X call env h id next (.index t x i) = nx (evalA X env x) fun x => nx (evalA X env i) (aIndex X t x) := nr rfl
theorem op_extract (t : Operand) (i : Nat) : evalOp X call env h id next (.extract t i) = nx (evalA X env t) (exA i) := by
 show nx (evalA X env t) _ = _
 apply congrArg; funext v
 cases v <;> rfl
theorem op_len (x : Operand) (t : TypeId) : evalOp X call env h id next (.call ⟨.builtin .len, ⟨[x]⟩, ⟨[t]⟩⟩) = nx (evalA X env x) fun a => nx (lenA X t a) valE := by
 show nx (evalsA X env [x]) (aBuiltin X h id .len #[t]) = _; simp only [evalsA]; cases evalA X env x <;> rfl
theorem op_append (x y : Operand) (t u : TypeId) : evalOp X call env h id next (.call ⟨.builtin .append, ⟨[x, y]⟩, ⟨[t, u]⟩⟩) = nx (evalA X env x) fun a => nx (evalA X env y) fun b => aAppend X h id #[t, u] a b := by
 show nx (evalsA X env [x, y]) (aBuiltin X h id .append #[t, u]) = _; simp only [evalsA]; cases evalA X env x <;> cases evalA X env y <;> rfl
theorem op_copy (x y : Operand) (t u : TypeId) : evalOp X call env h id next (.call ⟨.builtin .copy, ⟨[x, y]⟩, ⟨[t, u]⟩⟩) = nx (evalA X env x) fun a => nx (evalA X env y) fun b => aCopy X h #[t, u] a b := by
 show nx (evalsA X env [x, y]) (aBuiltin X h id .copy #[t, u]) = _; simp only [evalsA]; cases evalA X env x <;> cases evalA X env y <;> rfl
theorem op_min (x y : Operand) (ts : Array TypeId) : evalOp X call env h id next (.call ⟨.builtin .min, ⟨[x, y]⟩, ts⟩) = nx (evalA X env x) fun a => nx (evalA X env y) fun b => nx (min2A a b) valE := by
 show nx (evalsA X env [x, y]) (aBuiltin X h id .min ts) = _; simp only [evalsA]; cases evalA X env x <;> cases evalA X env y <;> rfl
theorem op_max (x y : Operand) (ts : Array TypeId) : evalOp X call env h id next (.call ⟨.builtin .max, ⟨[x, y]⟩, ts⟩) = nx (evalA X env x) fun a => nx (evalA X env y) fun b => nx (max2A a b) valE := by
 show nx (evalsA X env [x, y]) (aBuiltin X h id .max ts) = _; simp only [evalsA]; cases evalA X env x <;> cases evalA X env y <;> rfl
theorem op_call (f : Operand) (as : List Operand) (ts : Array TypeId) : evalOp X call env h id next (.call ⟨.value f, ⟨as⟩, ts⟩) = nx (evalA X env f) fun f => nx (evalsA X env as) fun as => callA X call h id next as f := by
 show nx (evalA X env f) (fun f => nx (evalsA X env as) _) = _
 apply congrArg; funext v
 apply congrArg; funext w
 cases v <;> first | rfl | (rename_i f _ _; cases f <;> rfl)
theorem min2A_int (k k' : IntKind) (x y : Int) : min2A (.int k x) (.int k' y) = some (.int k (if y < x then y else x)) := nr rfl
theorem max2A_int (k k' : IntKind) (x y : Int) : max2A (.int k x) (.int k' y) = some (.int k (if x < y then y else x)) := nr rfl
variable {call env h id next}
theorem bin_add (t : TypeId) (k : IntKind) (a b : Int) : binA X .add t (.int k a) (.int k b) = some (.int k (k.wrap (a + b))) := by simp [binA, arithA]
theorem bin_sub (t : TypeId) (k : IntKind) (a b : Int) : binA X .sub t (.int k a) (.int k b) = some (.int k (k.wrap (a - b))) := by simp [binA, arithA]
theorem bin_mul (t : TypeId) (k : IntKind) (a b : Int) : binA X .mul t (.int k a) (.int k b) = some (.int k (k.wrap (a * b))) := by simp [binA, arithA]
theorem bin_quo (t : TypeId) (k : IntKind) (a b : Int) (h : b ≠ 0) : binA X .quo t (.int k a) (.int k b) = some (.int k (k.wrap (a.tdiv b))) := by simp [binA, arithA, h]
theorem bin_rem (t : TypeId) (k : IntKind) (a b : Int) (h : b ≠ 0) : binA X .rem t (.int k a) (.int k b) = some (.int k (a.tmod b)) := by simp [binA, arithA, h]
theorem bin_eql (t : TypeId) (k : IntKind) (a b : Int) : binA X .eql t (.int k a) (.int k b) = some (.bool (decide (a = b))) := by simp [binA, arithA]
theorem bin_neq (t : TypeId) (k : IntKind) (a b : Int) : binA X .neq t (.int k a) (.int k b) = some (.bool (!decide (a = b))) := by simp [binA, arithA]
theorem bin_lss (t : TypeId) (k : IntKind) (a b : Int) : binA X .lss t (.int k a) (.int k b) = some (.bool (decide (a < b))) := by simp [binA, arithA]
theorem bin_leq (t : TypeId) (k : IntKind) (a b : Int) : binA X .leq t (.int k a) (.int k b) = some (.bool (decide (a ≤ b))) := by simp [binA, arithA]
theorem bin_gtr (t : TypeId) (k : IntKind) (a b : Int) : binA X .gtr t (.int k a) (.int k b) = some (.bool (decide (b < a))) := by simp [binA, arithA]
theorem bin_geq (t : TypeId) (k : IntKind) (a b : Int) : binA X .geq t (.int k a) (.int k b) = some (.bool (decide (b ≤ a))) := by simp [binA, arithA]
theorem bin_shl (t : TypeId) (k k' : IntKind) (a b : Int) (h : 0 ≤ b) : binA X .shl t (.int k a) (.int k' b) = some (.int k (k.wrap (a * 2 ^ (min b.toNat k.bits)))) := by
 have : ¬ b < 0 := by omega
 simp [binA, this]
theorem bin_shr (t : TypeId) (k k' : IntKind) (a b : Int) (h : 0 ≤ b) : binA X .shr t (.int k a) (.int k' b) = some (.int k (a.fdiv (2 ^ (min b.toNat k.bits)))) := by
 have : ¬ b < 0 := by omega
 simp [binA, this]
theorem bin_beql {t : TypeId} (hu : X.P.underlying t = some .bool) (a b : Bool) : binA X .eql t (.bool a) (.bool b) = some (.bool (a == b)) := by simp [binA, hu]
theorem bin_eq3 {t : TypeId} {k : IntKind} (h : ints3 X.P t k = true) (a b c a' b' c' : Int) : binA X .eql t (.agg [.int k a, .int k b, .int k c]) (.agg [.int k a', .int k b', .int k c']) = some (.bool (decide (a = a') && (decide (b = b') && decide (c = c')))) := by simp [binA, h]
theorem bin_ne3 {t : TypeId} {k : IntKind} (h : ints3 X.P t k = true) (a b c a' b' c' : Int) : binA X .neq t (.agg [.int k a, .int k b, .int k c]) (.agg [.int k a', .int k b', .int k c']) = some (.bool (!(decide (a = a') && (decide (b = b') && decide (c = c'))))) := by simp [binA, h]
theorem bin_bneq {t : TypeId} (hu : X.P.underlying t = some .bool) (a b : Bool) : binA X .neq t (.bool a) (.bool b) = some (.bool (!(a == b))) := by simp [binA, hu]
theorem un_neg (k : IntKind) (n : Int) : unA .neg (.int k n) = some (.int k (k.wrap (0 - n))) := nr rfl
theorem un_not (b : Bool) : unA .not (.bool b) = some (.bool (!b)) := nr rfl
theorem un_xor (k : IntKind) (n : Int) : unA .xor (.int k n) = some (.int k (k.wrap (BitVec.ofInt k.bits (if k.signed then -1 else k.max) ^^^ BitVec.ofInt k.bits n).toNat)) := nr rfl
theorem bin_and (t : TypeId) (k : IntKind) (a b : Int) : binA X .and t (.int k a) (.int k b) = some (.int k (k.wrap (BitVec.ofInt k.bits a &&& BitVec.ofInt k.bits b).toNat)) := by simp [binA, arithA]
theorem bin_or (t : TypeId) (k : IntKind) (a b : Int) : binA X .or t (.int k a) (.int k b) = some (.int k (k.wrap (BitVec.ofInt k.bits a ||| BitVec.ofInt k.bits b).toNat)) := by simp [binA, arithA]
theorem bin_xor (t : TypeId) (k : IntKind) (a b : Int) : binA X .xor t (.int k a) (.int k b) = some (.int k (k.wrap (BitVec.ofInt k.bits a ^^^ BitVec.ofInt k.bits b).toNat)) := by simp [binA, arithA]
theorem conv_int {s d : TypeId} {ks kd : IntKind} (h1 : X.P.underlying s = some (.int ks)) (h2 : X.P.underlying d = some (.int kd)) (h : Heap) (k : IntKind) (n : Int) : aConv X h s d (.int k n) = some (.loc ⟨.int kd (kd.wrap n), [], []⟩) := by simp [aConv, convertA, h1, h2, nx, valE]
theorem conv_str {s d : TypeId} (h1 : isBytesT X.P s = true) (h2 : X.P.underlying d = some .string) (h : Heap) (a : AV) (ha : a.isStr = false) : aConv X h s d a = strE (srcCells h 1 a) := by simp [aConv, h1, h2, ha]
theorem cellsAt_rptr (h : Heap) (cs : List AV) : cellsAt h (.rptr cs) = some (cs, []) := nr rfl
def cellsO (b off : Nat) : Option Obj → Option (List AV × List Nat)
 | some (.cells cs _ _) => some (cs.drop off, [b])
 | none => none
theorem cellsAt_ptr (h : Heap) (b off : Nat) : cellsAt h (.ptr b off) = cellsO b off (h b) := by
 show (match h b with | some (.cells cs _ _) => some (cs.drop off, [b]) | _ => none) = cellsO b off (h b)
 cases h b with
 | none => rfl
 | some o => cases o; rfl
theorem cellsO_some (b off : Nat) (cs : List AV) (g f : Bool) : cellsO b off (some (.cells cs g f)) = some (cs.drop off, [b]) := nr rfl
theorem tupleB_int (k : IntKind) (n : Int) : (AV.int k n).tupleB = false := nr rfl
theorem tupleB_bool (b : Bool) : (AV.bool b).tupleB = false := nr rfl
theorem tupleB_ro (cs : List AV) (n : Nat) (f : Bool) : (AV.ro cs n f).tupleB = false := nr rfl
theorem tupleB_isl (l : List Int) : (isl l).tupleB = false := nr rfl
theorem tupleB_agg (cs : List AV) : (AV.agg cs).tupleB = false := nr rfl
theorem tupleB_sl (b o n : Nat) (c : Option Nat) (s : Nat) : (AV.sl b o n c s).tupleB = false := nr rfl
theorem tupleB_ptr (b o : Nat) : (AV.ptr b o).tupleB = false := nr rfl
theorem tupleB_rptr (cs : List AV) : (AV.rptr cs).tupleB = false := nr rfl
theorem tupleB_func (f : Fn) (a b : List AV) : (AV.func f a b).tupleB = false := nr rfl
theorem tupleB_str (s : ByteArray) : (AV.str s).tupleB = false := nr rfl
theorem cells_int (k : IntKind) (n : Int) : (AV.int k n).cells = [.int k n] := nr rfl
theorem cells_bool (b : Bool) : (AV.bool b).cells = [.bool b] := nr rfl
theorem cells_ro (cs : List AV) (n : Nat) (f : Bool) : (AV.ro cs n f).cells = [.ro cs n f] := nr rfl
theorem cells_isl (l : List Int) : (isl l).cells = [isl l] := nr rfl
theorem cells_agg (cs : List AV) : (AV.agg cs).cells = cs := nr rfl
theorem cells_sl (b o n : Nat) (c : Option Nat) (s : Nat) : (AV.sl b o n c s).cells = [.sl b o n c s] := nr rfl
theorem cells_ptr (b o : Nat) : (AV.ptr b o).cells = [.ptr b o] := nr rfl
theorem cells_rptr (cs : List AV) : (AV.rptr cs).cells = [.rptr cs] := nr rfl
theorem cells_func (f : Fn) (a b : List AV) : (AV.func f a b).cells = [.func f a b] := nr rfl
theorem cells_str (s : ByteArray) : (AV.str s).cells = [.str s] := nr rfl
theorem aBox_eq (id : Nat) (v : AV) : aBox id v = if v.tupleB then none else some (.loc ⟨.ptr id 0, [], [(id, some (.cells v.cells false false))]⟩) := nr rfl
theorem st1_eq (n : Nat) (v : AV) (b off : Nat) (cs : List AV) (g : Bool) : st1 n v b off (some (.cells cs g false)) = if v.cells.length = n ∧ off + n ≤ cs.length ∧ v.tupleB = false then
    some (.loc ⟨.tuple [], [b], [(b, some (.cells (splice cs off v.cells) g false))]⟩) else none := nr rfl
theorem ldn_eq (n : Nat) (cs : List AV) (rd : List Nat) : ldn n (some (cs, rd)) = if n ≤ cs.length then some (.loc ⟨.agg (cs.take n), rd, []⟩) else none := nr rfl
theorem splice_eq (c : AV) (cs : List AV) (off : Nat) (vs : List AV) : splice (c :: cs) off vs = (c :: cs).take off ++ (vs ++ (c :: cs).drop (off + vs.length)) := by simp [splice]
def fillP (place : Nat → Option (Nat × Nat)) (cells : List AV) (v : AV) (rest : List (Nat × AV)) : Option (Nat × Nat) → Option (List AV)
 | none => none
 | some (off, size) => if v.cells.length ≠ size ∨ off + v.cells.length > cells.length ∨ v.tupleB then none else fillA place (splice cells off v.cells) rest
theorem fillA_nil (place : Nat → Option (Nat × Nat)) (cells : List AV) : fillA place cells [] = some cells := nr rfl
theorem fillA_cons (place : Nat → Option (Nat × Nat)) (cells : List AV) (i : Nat) (v : AV) (rest : List (Nat × AV)) : fillA place cells ((i, v) :: rest) = fillP place cells v rest (place i) := by
 unfold fillP; rw [fillA]; rfl
theorem fillP_some (place : Nat → Option (Nat × Nat)) (cells : List AV) (v : AV) (rest : List (Nat × AV)) (off size : Nat) : fillP place cells v rest (some (off, size)) =
  if v.cells.length = size ∧ off + v.cells.length ≤ cells.length ∧ v.tupleB = false then fillA place (splice cells off v.cells) rest else none := by
 show (if v.cells.length ≠ size ∨ off + v.cells.length > cells.length ∨ v.tupleB then none else fillA place (splice cells off v.cells) rest) = _
 by_cases h : v.cells.length = size ∧ off + v.cells.length ≤ cells.length ∧ v.tupleB = false
 ·rw [if_pos h, if_neg (by simp [h.1, h.2.2]; omega)]
 ·rw [if_neg h, if_pos]
  simp only [ne_eq, Bool.not_eq_false] at h ⊢
  rcases Classical.em (v.cells.length = size) with h1 | h1
  ·rcases Nat.lt_or_ge cells.length (off + v.cells.length) with h2 | h2
   ·exact .inr (.inl h2)
   ·refine .inr (.inr ?_); cases h3 : v.tupleB with
    | true => rfl
    | false => exact absurd ⟨h1, h2, h3⟩ h
  ·exact .inl h1
theorem plOf_zero (x : Nat × Nat) (l : List (Nat × Nat)) : plOf (x :: l) 0 = some x := nr rfl
theorem plOf_succ (x : Nat × Nat) (l : List (Nat × Nat)) (i : Nat) : plOf (x :: l) (i + 1) = plOf l i := nr rfl
theorem plEv_eq (s i : Nat) : plEv s i = some (i * s, s) := nr rfl
theorem blS_eq (pl : Nat → Option (Nat × Nat)) (zc : List AV) (ps : List (Nat × AV)) : blS pl zc ps = nx (fillA pl zc ps) fun cs => some (.loc ⟨.agg cs, [], []⟩) := nr rfl
theorem bsS_eq (id len size : Nat) (zc : List AV) (ps : List (Nat × AV)) : bsS id len size zc ps = nx (fillA (plEv size) (replA len zc) ps) fun cs => some (.loc ⟨.sl id 0 len (some len) size, [], [(id, some (.cells cs false false))]⟩) := nr rfl
theorem ixA_rptr (len s : Nat) (cs : List AV) (n : Int) (h : 0 ≤ n ∧ n < len) : ixA len s (.rptr cs) n = some (.loc ⟨.rptr (cs.drop (n.toNat * s)), [], []⟩) := if_pos h
theorem ixA_ptr (len s b off : Nat) (n : Int) (h : 0 ≤ n ∧ n < len) : ixA len s (.ptr b off) n = some (.loc ⟨.ptr b (off + n.toNat * s), [], []⟩) := if_pos h
theorem loadRess_nil (st : St) : loadRess X st [] = some [] := nr rfl
theorem loadRess_cons (st : St) (r : ResultVar) (rs : List ResultVar) : loadRess X st (r :: rs) = nx (loadRes X st r) fun a => mp (loadRess X st rs) (a :: ·) := nr rfl
theorem loadRes_tmp (st : St) (t : Nat) : loadRes X st (.tmp t) = some (st.env t) := nr rfl
def valOf : Eff → Option AV
 | .loc d => some d.val
 | _ => none
theorem valOf_loc (v : AV) (r : List Nat) (w : List (Nat × Option Obj)) : valOf (.loc ⟨v, r, w⟩) = some v := nr rfl
theorem loadRes_cell (st : St) (a : Nat) (t : TypeId) : loadRes X st (.cell a t) = nx (aLoad X st.heap t (st.env a)) valOf := by
 show nx (aLoad X st.heap t (st.env a)) _ = _
 apply congrArg; funext e; cases e <;> rfl
theorem weak_bool (b : Bool) : (AV.bool b).weak = .bool b := by simp [AV.weak]
theorem weak_int (k : IntKind) (n : Int) : (AV.int k n).weak = .int k n := by simp [AV.weak]
theorem weak_ro (cs : List AV) (n : Nat) (f : Bool) : (AV.ro cs n f).weak = .ro (AV.weak.go cs) n false := by simp [AV.weak]
theorem weak_agg (cs : List AV) : (AV.agg cs).weak = .agg (AV.weak.go cs) := by simp [AV.weak]
theorem weak_tuple (cs : List AV) : (AV.tuple cs).weak = .tuple (AV.weak.go cs) := by simp [AV.weak]
theorem weak_fresh (cs : List AV) (n s : Nat) : (AV.fresh cs n s).weak = .fresh (AV.weak.go cs) n s := by simp [AV.weak]
theorem weak_func (f : Fn) (a b : List AV) : (AV.func f a b).weak = .func f (AV.weak.go a) (AV.weak.go b) := by simp [AV.weak]
theorem weak_str (s : ByteArray) : (AV.str s).weak = .str s := by simp [AV.weak]
theorem weak_nilptr : AV.nilptr.weak = .nilptr := by simp [AV.weak]
theorem weak_nilfunc : AV.nilfunc.weak = .nilfunc := by simp [AV.weak]
theorem weakgo_nil : AV.weak.go [] = [] := by simp [AV.weak.go]
theorem weakgo_cons (a : AV) (l : List AV) : AV.weak.go (a :: l) = a.weak :: AV.weak.go l := by simp [AV.weak.go]
theorem up_add (a b : Nat) : (a : Int) + (b : Int) = ((a + b : Nat) : Int) := (Int.natCast_add a b).symm
theorem up_one (a : Nat) : (a : Int) + 1 = ((a + 1 : Nat) : Int) := (Int.natCast_add a 1).symm
theorem up_sub (a b : Nat) (h : b ≤ a) : (a : Int) - (b : Int) = ((a - b : Nat) : Int) := by omega
theorem up_two (a : Nat) (h : 2 ≤ a) : (a : Int) - 2 = ((a - 2 : Nat) : Int) := by omega
theorem up_pred (a : Nat) (h : 1 ≤ a) : (a : Int) - 1 = ((a - 1 : Nat) : Int) := by omega
end
end Go.Proofs.YtenhjccadhlgoaaGreat.Abs
