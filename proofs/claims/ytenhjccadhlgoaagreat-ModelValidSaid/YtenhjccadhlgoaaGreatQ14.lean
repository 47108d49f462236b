/-
  Arithmetic, comparison, the builtins. No conditions. The builtin append. No conditions. Calls of the program's functions. No conditions. A call of a function of the program is sound, if its callee is. No conditions.
-/
import Derived.Test.YtenhjccadhlgoaaGreatQ13
import Derived.Laws.Append
set_option linter.unusedSimpArgs false
set_option linter.unusedVariables false
set_option maxRecDepth 100000
set_option maxHeartbeats 16000000
namespace Go.Proofs.YtenhjccadhlgoaaGreat.Abs
open Go
section
variable {X : Ctx} {base : Nat} {W : Nat → Prop} {μ : Mu} {h : Heap} {w : World}
theorem arith_sound {op : BinOp} {k : IntKind} {a b : Int} {r : AV} (hev : arithA op k a b = some r) (t : TypeId) (hs : op ≠ .shl) (hs' : op ≠ .shr) :
    ∃ v, (binOp op t (.int k a) (.int k b)).run X.P w = .ok v w ∧ Rep w W μ v r := by
  have go : ∀ (o : BinOp) (v : Value), o = op → (match o with
      | .add | .sub | .mul => Op.intArith o k a b
      | .quo | .rem => Op.intDiv o k a b
      | .and | .or | .xor | .andNot => Op.intBits o k a b
      | _ => Op.intCmp o a b).run X.P w = .ok v w → (binOp op t (.int k a) (.int k b)).run X.P w = .ok v w := by
    intro o v ho hr
    subst ho
    cases o <;> first
      | (exact absurd rfl hs)
      | (exact absurd rfl hs')
      | (simp only [binOp, ne_eq, not_true_eq_false, if_false]; exact hr)
  cases op with
  | shl => exact absurd rfl hs
  | shr => exact absurd rfl hs'
  | add => simp only [arithA, Option.some.injEq] at hev; subst hev; exact ⟨_, go .add _ rfl rfl, .int _ _ _⟩
  | sub => simp only [arithA, Option.some.injEq] at hev; subst hev; exact ⟨_, go .sub _ rfl rfl, .int _ _ _⟩
  | mul => simp only [arithA, Option.some.injEq] at hev; subst hev; exact ⟨_, go .mul _ rfl rfl, .int _ _ _⟩
  | and => simp only [arithA, Option.some.injEq] at hev; subst hev; exact ⟨_, go .and _ rfl rfl, .int _ _ _⟩
  | or => simp only [arithA, Option.some.injEq] at hev; subst hev; exact ⟨_, go .or _ rfl rfl, .int _ _ _⟩
  | xor => simp only [arithA, Option.some.injEq] at hev; subst hev; exact ⟨_, go .xor _ rfl rfl, .int _ _ _⟩
  | andNot => simp only [arithA, Option.some.injEq] at hev; subst hev; exact ⟨_, go .andNot _ rfl rfl, .int _ _ _⟩
  | eql => simp only [arithA, Option.some.injEq] at hev; subst hev; exact ⟨_, go .eql _ rfl rfl, .bool _ _⟩
  | neq =>
    simp only [arithA, Option.some.injEq] at hev; subst hev
    refine ⟨.bool (a != b), go .neq _ rfl rfl, ?_⟩
    have : (a != b) = !decide (a = b) := by simp [bne, BEq.beq]
    rw [this]; exact .bool _ _
  | lss => simp only [arithA, Option.some.injEq] at hev; subst hev; exact ⟨_, go .lss _ rfl rfl, .bool _ _⟩
  | leq => simp only [arithA, Option.some.injEq] at hev; subst hev; exact ⟨_, go .leq _ rfl rfl, .bool _ _⟩
  | gtr => simp only [arithA, Option.some.injEq] at hev; subst hev; exact ⟨_, go .gtr _ rfl rfl, .bool _ _⟩
  | geq => simp only [arithA, Option.some.injEq] at hev; subst hev; exact ⟨_, go .geq _ rfl rfl, .bool _ _⟩
  | quo =>
    simp only [arithA] at hev
    split at hev
    · simp at hev
    · rename_i h0
      simp only [Option.some.injEq] at hev
      subst hev
      exact ⟨_, go .quo _ rfl (by simp only [Op.intDiv, if_neg h0]; rfl), .int _ _ _⟩
  | rem =>
    simp only [arithA] at hev
    split at hev
    · simp at hev
    · rename_i h0
      simp only [Option.some.injEq] at hev
      subst hev
      exact ⟨_, go .rem _ rfl (by simp only [Op.intDiv, if_neg h0]; rfl), .int _ _ _⟩
theorem eqGuard_int (op : BinOp) (t : TypeId) (x y : Operand) (a b : Value) (ha : a ≠ .nilIface) (ha' : ∀ l, a ≠ .agg l) (P : Program) (w : World) : (eqGuard op t x y a b).run P w = .ok () w := by
  unfold eqGuard
  cases op <;> simp only [Bool.not_true, Bool.not_false, if_true, if_false, Bool.false_eq_true] <;> first
    | rfl
    | skip
  all_goals
    cases a <;> first
      | (exact absurd rfl ha)
      | (exact absurd rfl (ha' _))
      | (cases b <;> rfl)
theorem equalIn_bool {P : Program} {t : TypeId} (hu : P.underlying t = some .bool) (d : Nat) (p q : Bool) (w : World) : (Op.equalIn (d + 1) t (.bool p) (.bool q)).run P w = .ok (p == q) w := by
  rw [Op.equalIn]
  simp only [Sem.run_bind, run_underlying hu, Result.andThen, Sem.run_pure]
theorem equal_bool {P : Program} {t : TypeId} (hu : P.underlying t = some .bool) (p q : Bool) (w : World) : (Op.equal t (.bool p) (.bool q)).run P w = .ok (p == q) w :=
  equalIn_bool hu 9999 p q w
theorem part_int {P : Program} {e : TypeId} {k : IntKind} (hu : P.underlying e = some (.int k)) {xs : Array Value} {i : Nat} {v : Value} (hx : xs[i]? = some v) (w : World) : (part e xs i).run P w = .ok v w := by
  simp only [part, Sem.run_bind, run_isAgg' hu, Result.andThen, isAggD, Bool.false_eq_true, if_false, hx, Sem.run_pure]
theorem equalIn_int {P : Program} {e : TypeId} {k : IntKind} (hu : P.underlying e = some (.int k)) (d : Nat) (a b : Int) (w : World) : (Op.equalIn (d + 1) e (.int k a) (.int k b)).run P w = .ok (a == b) w := by
  rw [Op.equalIn]
  simp only [Sem.run_bind, run_underlying hu, Result.andThen, if_true, Sem.run_pure]
theorem eqGuardIn_int {P : Program} {e : TypeId} {k : IntKind} (hu : P.underlying e = some (.int k)) (d : Nat) (a b : Int) (w : World) : (Op.eqGuardIn (d + 1) e (.int k a) (.int k b)).run P w = .ok false w := by
  rw [Op.eqGuardIn]
  simp only [Sem.run_bind, run_underlying hu, Result.andThen, Sem.run_pure]
theorem eqGuardIn_arr {P : Program} {t e : TypeId} {k : IntKind} {i : TypeInfo} (hu : P.underlying t = some (.array 2 e)) (he : P.underlying e = some (.int k)) (hi : P.info? e = some i) (hs : i.size = 1) (d : Nat) (a b a' b' : Int) (w : World) :
    (Op.eqGuardIn (d + 2) t (.agg #[.int k a, .int k b]) (.agg #[.int k a', .int k b'])).run P w = .ok false w := by
  rw [Op.eqGuardIn]
  have p0 : ∀ (x y : Int), (part e #[.int k x, .int k y] (0 * 1)).run P w = .ok (.int k x) w := fun x y => part_int he rfl w
  have p1 : ∀ (x y : Int), (part e #[.int k x, .int k y] (1 * 1)).run P w = .ok (.int k y) w := fun x y => part_int he rfl w
  simp only [Sem.run_bind, run_underlying hu, Result.andThen, run_sizeOf' hi, hs]
  simp [Std.Legacy.Range.forIn_eq_forIn_range', Std.Legacy.Range.size, List.range', p0, p1, eqGuardIn_int he, Result.andThen]
theorem equalIn_arr {P : Program} {t e : TypeId} {k : IntKind} {i : TypeInfo} (hu : P.underlying t = some (.array 2 e)) (he : P.underlying e = some (.int k)) (hi : P.info? e = some i) (hs : i.size = 1) (d : Nat) (a b a' b' : Int) (w : World) :
    (Op.equalIn (d + 2) t (.agg #[.int k a, .int k b]) (.agg #[.int k a', .int k b'])).run P w = .ok (decide (a = a') && decide (b = b')) w := by
  rw [Op.equalIn]
  have p0 : ∀ (x y : Int), (part e #[.int k x, .int k y] (0 * 1)).run P w = .ok (.int k x) w := fun x y => part_int he rfl w
  have p1 : ∀ (x y : Int), (part e #[.int k x, .int k y] (1 * 1)).run P w = .ok (.int k y) w := fun x y => part_int he rfl w
  simp only [Sem.run_bind, run_underlying hu, Result.andThen, run_sizeOf' hi, hs]
  by_cases ha : a = a' <;> by_cases hb : b = b' <;> simp [Std.Legacy.Range.forIn_eq_forIn_range', Std.Legacy.Range.size, List.range', p0, p1, equalIn_int he, Result.andThen, ha, hb]
theorem eqGuardIn_st3 {P : Program} {t : TypeId} {k : IntKind} {fs : Array Field} {f g h : Field} (hu : P.underlying t = some (.struct fs)) (hfs : fs.toList = [f, g, h]) (of : f.offset = 0) (og : g.offset = 1) (oh : h.offset = 2)
    (hf : P.underlying f.type = some (.int k)) (hg : P.underlying g.type = some (.int k)) (hh : P.underlying h.type = some (.int k)) (d : Nat) (a b c a' b' c' : Int) (w : World) :
    (Op.eqGuardIn (d + 2) t (.agg #[.int k a, .int k b, .int k c]) (.agg #[.int k a', .int k b', .int k c'])).run P w = .ok false w := by
  rw [Op.eqGuardIn]
  have p0 : ∀ (x y z : Int), (part f.type #[.int k x, .int k y, .int k z] f.offset).run P w = .ok (.int k x) w := fun x y z => part_int hf (by rw [of]; rfl) w
  have p1 : ∀ (x y z : Int), (part g.type #[.int k x, .int k y, .int k z] g.offset).run P w = .ok (.int k y) w := fun x y z => part_int hg (by rw [og]; rfl) w
  have p2 : ∀ (x y z : Int), (part h.type #[.int k x, .int k y, .int k z] h.offset).run P w = .ok (.int k z) w := fun x y z => part_int hh (by rw [oh]; rfl) w
  simp only [Sem.run_bind, run_underlying hu, Result.andThen]
  rw [← Array.forIn_toList, hfs]
  by_cases n0 : f.name = "_" <;> by_cases n1 : g.name = "_" <;> by_cases n2 : h.name = "_" <;>
    simp [List.forIn_cons, p0, p1, p2, eqGuardIn_int hf, eqGuardIn_int hg, eqGuardIn_int hh, Result.andThen, n0, n1, n2]
theorem equalIn_st3 {P : Program} {t : TypeId} {k : IntKind} {fs : Array Field} {f g h : Field} (hu : P.underlying t = some (.struct fs)) (hfs : fs.toList = [f, g, h]) (nf : f.name ≠ "_") (ng : g.name ≠ "_") (nh : h.name ≠ "_") (of : f.offset = 0) (og : g.offset = 1) (oh : h.offset = 2)
    (hf : P.underlying f.type = some (.int k)) (hg : P.underlying g.type = some (.int k)) (hh : P.underlying h.type = some (.int k)) (hs : P.stoodInHeld t = false) (d : Nat) (a b c a' b' c' : Int) (w : World) :
    (Op.equalIn (d + 2) t (.agg #[.int k a, .int k b, .int k c]) (.agg #[.int k a', .int k b', .int k c'])).run P w = .ok (decide (a = a') && (decide (b = b') && decide (c = c'))) w := by
  rw [Op.equalIn]
  have p0 : ∀ (x y z : Int), (part f.type #[.int k x, .int k y, .int k z] f.offset).run P w = .ok (.int k x) w := fun x y z => part_int hf (by rw [of]; rfl) w
  have p1 : ∀ (x y z : Int), (part g.type #[.int k x, .int k y, .int k z] g.offset).run P w = .ok (.int k y) w := fun x y z => part_int hg (by rw [og]; rfl) w
  have p2 : ∀ (x y z : Int), (part h.type #[.int k x, .int k y, .int k z] h.offset).run P w = .ok (.int k z) w := fun x y z => part_int hh (by rw [oh]; rfl) w
  simp only [Sem.run_bind, run_underlying hu, run_program, Result.andThen, hs, Bool.false_eq_true, if_false]
  rw [← Array.forIn_toList, hfs]
  by_cases ha : a = a' <;> by_cases hb : b = b' <;> by_cases hc : c = c' <;>
    simp [List.forIn_cons, p0, p1, p2, equalIn_int hf, equalIn_int hg, equalIn_int hh, Result.andThen, nf, ng, nh, ha, hb, hc]
theorem intTy_of {P : Program} {t : TypeId} {k : IntKind} (h : intTy P t k = true) : P.underlying t = some (.int k) := by
  unfold intTy at h
  split at h
  · rename_i k' hu
    simp only [decide_eq_true_eq] at h
    rw [hu, h]
  · cases h
theorem ints3_of {P : Program} {t : TypeId} {k : IntKind} (h : ints3 P t k = true) : ∃ fs f g h, P.underlying t = some (.struct fs) ∧ fs.toList = [f, g, h] ∧ (f.name ≠ "_" ∧ g.name ≠ "_" ∧ h.name ≠ "_") ∧ (f.offset = 0 ∧ g.offset = 1 ∧ h.offset = 2) ∧
    (P.underlying f.type = some (.int k) ∧ P.underlying g.type = some (.int k) ∧ P.underlying h.type = some (.int k)) ∧ P.stoodInHeld t = false := by
  unfold ints3 at h
  split at h
  · rename_i fs hu
    split at h
    · rename_i f g i hl
      simp only [Bool.and_eq_true, bne_iff_ne, beq_iff_eq, decide_eq_true_eq, Bool.not_eq_true'] at h
      exact ⟨fs, f, g, i, hu, hl, ⟨h.1.1.1.1.1.1.1, h.1.1.1.1.1.1.2, h.1.1.1.1.1.2⟩, ⟨h.1.1.1.1.2, h.1.1.1.2, h.1.1.2⟩, ⟨intTy_of h.1.2.1.1, intTy_of h.1.2.1.2, intTy_of h.1.2.2⟩, h.2⟩
    · cases h
  · cases h
theorem repI3 {v : Value} {k k1 k2 : IntKind} {m n o : Int} (hr : Rep w W μ v (.agg [.int k m, .int k1 n, .int k2 o])) : v = .agg #[.int k m, .int k1 n, .int k2 o] := by
  cases hr with
  | agg _ vs _ h1 h2 _ =>
    have e0 : vs[0]? = some (Value.int k m) := by
      obtain ⟨u, hu⟩ : ∃ u, vs[0]? = some u := ⟨_, Array.getElem?_eq_getElem (by simp at h1; omega)⟩
      have := h2 0 u _ hu rfl
      cases this; exact hu
    have e1 : vs[1]? = some (Value.int k1 n) := by
      obtain ⟨u, hu⟩ : ∃ u, vs[1]? = some u := ⟨_, Array.getElem?_eq_getElem (by simp at h1; omega)⟩
      have := h2 1 u _ hu rfl
      cases this; exact hu
    have e2 : vs[2]? = some (Value.int k2 o) := by
      obtain ⟨u, hu⟩ : ∃ u, vs[2]? = some u := ⟨_, Array.getElem?_eq_getElem (by simp at h1; omega)⟩
      have := h2 2 u _ hu rfl
      cases this; exact hu
    congr 1
    apply Array.ext_getElem?
    intro i
    rcases i with _ | _ | _ | i
    · rw [e0]; rfl
    · rw [e1]; rfl
    · rw [e2]; rfl
    · rw [Array.getElem?_eq_none (by simp at h1; omega), Array.getElem?_eq_none (by simp)]
theorem binOp_sound {op : BinOp} {t : TypeId} {x y : Operand} {a b : Value} {aa ba r : AV} (ha : Rep w W μ a aa) (hb : Rep w W μ b ba) (hev : binA X op t aa ba = some r) :
    ∃ v, (do eqGuard op t x y a b; binOp op t a b : Sem Value).run X.P w = .ok v w ∧ Rep w W μ v r := by
  have main : (∃ v, (binOp op t a b).run X.P w = .ok v w ∧ Rep w W μ v r) → a ≠ .nilIface → (∀ l, a ≠ .agg l) → ∃ v, (do eqGuard op t x y a b; binOp op t a b : Sem Value).run X.P w = .ok v w ∧ Rep w W μ v r := by
    rintro ⟨v, hv, hr⟩ h1 h2
    exact ⟨v, by simp only [Sem.run_bind, eqGuard_int op t x y a b h1 h2, Result.andThen, hv], hr⟩
  unfold binA at hev
  split at hev
  · rename_i k n k' m
    cases ha
    cases hb
    refine main ?_ (by simp) (by simp)
    split at hev
    · split at hev
      · simp at hev
      · rename_i h0
        simp only [Option.some.injEq] at hev
        subst hev
        exact ⟨_, by simp only [binOp, Op.shift, if_neg h0]; rfl, .int _ _ _⟩
    · split at hev
      · simp at hev
      · rename_i h0
        simp only [Option.some.injEq] at hev
        subst hev
        exact ⟨_, by simp only [binOp, Op.shift, if_neg h0]; rfl, .int _ _ _⟩
    · rename_i op' hns hns'
      split at hev
      · rename_i hk
        subst hk
        exact arith_sound hev t hns hns'
      · simp at hev
  · rename_i p q
    cases ha
    cases hb
    refine main ?_ (by simp) (by simp)
    split at hev
    · rename_i hu
      simp only [Option.some.injEq] at hev
      subst hev
      exact ⟨.bool (p == q), by simp only [binOp, Sem.run_bind, equal_bool hu, Result.andThen, Sem.run_pure], .bool _ _⟩
    · rename_i hu
      simp only [Option.some.injEq] at hev
      subst hev
      exact ⟨.bool (!(p == q)), by simp only [binOp, Sem.run_bind, equal_bool hu, Result.andThen, Sem.run_pure], .bool _ _⟩
    · simp at hev
  · rename_i s s'
    cases ha
    cases hb
    refine main ?_ (by simp) (by simp)
    split at hev
    · simp only [Option.some.injEq] at hev
      subst hev
      exact ⟨_, by simp only [binOp, Op.stringOp]; rfl, .bool _ _⟩
    · simp only [Option.some.injEq] at hev
      subst hev
      exact ⟨_, by simp only [binOp, Op.stringOp]; rfl, .bool _ _⟩
    · split at hev
      · rename_i hle
        simp only [Option.some.injEq] at hev
        subst hev
        refine ⟨_, ?_, .str _ _⟩
        have hm : ¬ ((s.size + s'.size : Nat) : Int) > IntKind.i64.max := by
          rw [show IntKind.i64.max = 9223372036854775807 from rfl]; omega
        simp only [binOp, Op.stringOp, if_neg hm]; rfl
      · simp at hev
    · simp at hev
  · rename_i k a0 k1 b0 k' a0' k1' b0'
    have two : ∀ {v : Value} {k k1 : IntKind} {m n : Int}, Rep w W μ v (.agg [.int k m, .int k1 n]) → v = .agg #[.int k m, .int k1 n] := by
      intro v k k1 m n hr
      cases hr with
      | agg _ vs _ h1 h2 _ =>
        have e0 : vs[0]? = some (Value.int k m) := by
          obtain ⟨u, hu⟩ : ∃ u, vs[0]? = some u := ⟨_, Array.getElem?_eq_getElem (by simp at h1; omega)⟩
          have := h2 0 u _ hu rfl
          cases this; exact hu
        have e1 : vs[1]? = some (Value.int k1 n) := by
          obtain ⟨u, hu⟩ : ∃ u, vs[1]? = some u := ⟨_, Array.getElem?_eq_getElem (by simp at h1; omega)⟩
          have := h2 1 u _ hu rfl
          cases this; exact hu
        congr 1
        apply Array.ext_getElem?
        intro i
        rcases i with _ | _ | i
        · rw [e0]; rfl
        · rw [e1]; rfl
        · rw [Array.getElem?_eq_none (by simp at h1; omega), Array.getElem?_eq_none (by simp)]
    have ea := two ha
    have eb := two hb
    subst ea eb
    split at hev
    · rename_i e hu
      split at hev
      · rename_i kk i he hi
        split at hev
        · rename_i hk
          obtain ⟨rfl, rfl, rfl, rfl, hs⟩ := hk
          have guard : (eqGuard op t x y (.agg #[.int k1' a0, .int k1' b0]) (.agg #[.int k1' a0', .int k1' b0'])).run X.P w = .ok () w := by
            unfold eqGuard
            cases op <;> simp only [Bool.not_true, Bool.not_false, if_true, if_false, Bool.false_eq_true, Sem.run_bind, Sem.run_pure, run_program, Result.andThen] <;> (try rfl) <;>
              (split
               · rfl
               · rw [show Op.maxDepth = 9998 + 2 from rfl]
                 simp only [Sem.run_bind, eqGuardIn_arr hu he hi hs, Result.andThen, Bool.false_eq_true, if_false, Sem.run_pure])
          have eq := equalIn_arr hu he hi hs 9998 a0 b0 a0' b0' w
          split at hev
          · simp only [Option.some.injEq] at hev
            subst hev
            refine ⟨.bool (decide (a0 = a0') && decide (b0 = b0')), ?_, .bool _ _⟩
            simp only [Sem.run_bind, guard, Result.andThen, binOp, Op.equal]
            rw [show Op.maxDepth = 9998 + 2 from rfl, eq]
            rfl
          · simp only [Option.some.injEq] at hev
            subst hev
            refine ⟨.bool (!(decide (a0 = a0') && decide (b0 = b0'))), ?_, .bool _ _⟩
            simp only [Sem.run_bind, guard, Result.andThen, binOp, Op.equal]
            rw [show Op.maxDepth = 9998 + 2 from rfl, eq]
            rfl
          · simp at hev
        · simp at hev
      · simp at hev
    · simp at hev
  · rename_i k a0 k1 b0 k2 c0 k' a0' k1' b0' k2' c0'
    have ea := repI3 ha
    have eb := repI3 hb
    subst ea eb
    split at hev
    · rename_i hk
      obtain ⟨rfl, rfl, rfl, rfl, rfl, h3⟩ := hk
      obtain ⟨fs, f, g, h, hu, hl, ⟨nf, ng, nh⟩, ⟨of, og, oh⟩, ⟨hf, hg, hh⟩, hs⟩ := ints3_of h3
      have guard : (eqGuard op t x y (.agg #[.int k2' a0, .int k2' b0, .int k2' c0]) (.agg #[.int k2' a0', .int k2' b0', .int k2' c0'])).run X.P w = .ok () w := by
        unfold eqGuard
        cases op <;> simp only [Bool.not_true, Bool.not_false, if_true, if_false, Bool.false_eq_true, Sem.run_bind, Sem.run_pure, run_program, Result.andThen] <;> (try rfl) <;>
          (split
           · rfl
           · rw [show Op.maxDepth = 9998 + 2 from rfl]
             simp only [Sem.run_bind, eqGuardIn_st3 hu hl of og oh hf hg hh, Result.andThen, Bool.false_eq_true, if_false, Sem.run_pure])
      have eq := equalIn_st3 hu hl nf ng nh of og oh hf hg hh hs 9998 a0 b0 c0 a0' b0' c0' w
      split at hev
      · simp only [Option.some.injEq] at hev
        subst hev
        refine ⟨.bool (decide (a0 = a0') && (decide (b0 = b0') && decide (c0 = c0'))), ?_, .bool _ _⟩
        simp only [Sem.run_bind, guard, Result.andThen, binOp, Op.equal]
        rw [show Op.maxDepth = 9998 + 2 from rfl, eq]
        rfl
      · simp only [Option.some.injEq] at hev
        subst hev
        refine ⟨.bool (!(decide (a0 = a0') && (decide (b0 = b0') && decide (c0 = c0')))), ?_, .bool _ _⟩
        simp only [Sem.run_bind, guard, Result.andThen, binOp, Op.equal]
        rw [show Op.maxDepth = 9998 + 2 from rfl, eq]
        rfl
      · simp at hev
    · simp at hev
  · simp at hev
theorem unOp_sound {op : UnOp} {a : Value} {aa r : AV} (ha : Rep w W μ a aa) (hev : unA op aa = some r) : ∃ v, (Op.unary op a).run X.P w = .ok v w ∧ Rep w W μ v r := by
  unfold unA at hev
  split at hev
  · cases ha
    simp only [Option.some.injEq] at hev
    subst hev
    exact ⟨_, by simp only [Op.unary, Op.intArith]; rfl, .int _ _ _⟩
  · cases ha
    simp only [Option.some.injEq] at hev
    subst hev
    exact ⟨_, by simp only [Op.unary]; rfl, .bool _ _⟩
  · cases ha
    simp only [Option.some.injEq] at hev
    subst hev
    exact ⟨_, by simp only [Op.unary, Op.intBits]; rfl, .int _ _ _⟩
  · simp at hev
theorem convert_sound {src dst : TypeId} {a : Value} {aa r : AV} (ha : Rep w W μ a aa) (hev : convertA X src dst aa = some r) : ∃ v, (convert src dst a).run X.P w = .ok v w ∧ Rep w W μ v r := by
  unfold convertA at hev
  split at hev
  · rename_i h1 h2
    cases ha
    simp only [Option.some.injEq] at hev
    subst hev
    refine ⟨_, ?_, .int _ _ _⟩
    simp only [convert, Sem.run_bind, run_underlying h1, run_underlying h2, Result.andThen, Conv.intToInt]
    rfl
  · simp at hev
theorem len_sound {t : TypeId} {x : Value} {xa r : AV} (hx : Rep w W μ x xa) (hev : lenA X t xa = some r) (argTypes : Array TypeId) (h0 : argTypes[0]? = some t) (ty : TypeId) :
    ∃ v, (Builtin.len_ argTypes ty #[x]).run X.P w = .ok v w ∧ Rep w W μ v r := by
  unfold lenA at hev
  split at hev
  · rename_i hu
    simp only [Option.some.injEq] at hev
    subst hev
    cases hx <;> refine ⟨_, ?_, .int _ _ _⟩ <;> simp [Builtin.len_, h0, run_underlying hu, goInt]
  · rename_i hu
    simp only [Option.some.injEq] at hev
    subst hev
    cases hx <;> refine ⟨_, ?_, .int _ _ _⟩ <;> simp [Builtin.len_, h0, run_underlying hu, goInt]
  · rename_i hu
    simp only [Option.some.injEq] at hev
    subst hev
    cases hx <;> refine ⟨_, ?_, .int _ _ _⟩ <;> simp [Builtin.len_, h0, run_underlying hu, goInt]
  · rename_i hu
    simp only [Option.some.injEq] at hev
    subst hev
    exact ⟨_, by simp [Builtin.len_, h0, run_underlying hu, goInt], .int _ _ _⟩
  · rename_i hu
    split at hev
    · rename_i hu2
      simp only [Option.some.injEq] at hev
      subst hev
      exact ⟨_, by simp [Builtin.len_, h0, run_underlying hu, run_underlying hu2, goInt], .int _ _ _⟩
    · simp at hev
  · rename_i hu
    simp only [Option.some.injEq] at hev
    subst hev
    cases hx <;> refine ⟨_, ?_, .int _ _ _⟩ <;> simp [Builtin.len_, h0, run_underlying hu, goInt]
  · simp at hev
theorem min2_sound {a b : Value} {aa ba r : AV} (ha : Rep w W μ a aa) (hb : Rep w W μ b ba) (hev : min2A aa ba = some r) : ∃ v, (Builtin.min2 a b).run X.P w = .ok v w ∧ Rep w W μ v r := by
  unfold min2A at hev
  split at hev
  · cases ha; cases hb
    simp only [Option.some.injEq] at hev
    subst hev
    exact ⟨_, by simp only [Builtin.min2]; rfl, .int _ _ _⟩
  · simp at hev
theorem max2_sound {a b : Value} {aa ba r : AV} (ha : Rep w W μ a aa) (hb : Rep w W μ b ba) (hev : max2A aa ba = some r) : ∃ v, (Builtin.max2 a b).run X.P w = .ok v w ∧ Rep w W μ v r := by
  unfold max2A at hev
  split at hev
  · cases ha; cases hb
    simp only [Option.some.injEq] at hev
    subst hev
    exact ⟨_, by simp only [Builtin.max2]; rfl, .int _ _ _⟩
  · simp at hev
theorem src_sound (hs : Sim X base W μ h w) {size : Nat} {x : Value} {xa : AV} (hx : Rep w W μ x xa) {xs : List AV} {n : Nat} {rd : List Nat} (hev : srcCells h size xa = some (xs, n, rd)) :
    (Builtin.lenOf x).run X.P w = .ok n w ∧ (∀ m, m ≤ n → ∃ vs : Array Value, (Builtin.firstCells size m x).run X.P w = .ok vs w ∧ vs.size = m * size ∧ ∀ (i : Nat) (a : AV), (xs.take (m * size))[i]? = some a → ∃ u, vs[i]? = some u ∧ Rep w W μ u a ∧ a.isCell = true) ∧ xs.length = n * size := by
  have mem : ∀ (B o len cap : Nat) (cs : List AV), CellsAre w W μ B o cs → n * size ≤ cs.length → xs = cs.take (n * size) → n = len →
      (Builtin.lenOf (.slice (some ⟨B, o, none⟩) len cap)).run X.P w = .ok n w ∧ (∀ m, m ≤ n → ∃ vs : Array Value, (Builtin.firstCells size m (.slice (some ⟨B, o, none⟩) len cap)).run X.P w = .ok vs w ∧ vs.size = m * size ∧ ∀ (i : Nat) (a : AV), (xs.take (m * size))[i]? = some a → ∃ u, vs[i]? = some u ∧ Rep w W μ u a ∧ a.isCell = true) ∧ xs.length = n * size := by
    intro B o len cap cs hc hle hxs hn
    subst hn
    refine ⟨rfl, fun m hm => ?_, by rw [hxs, List.length_take]; omega⟩
    have hms : m * size ≤ n * size := Nat.mul_le_mul_right _ hm
    obtain ⟨vs, h1, h2, h3⟩ := run_loadCells' hc X.P (m * size) (by omega)
    refine ⟨vs, h1, h2, fun i a ha => ?_⟩
    rw [List.getElem?_take] at ha
    split at ha
    · rename_i hi
      rw [hxs, List.getElem?_take, if_pos (by omega)] at ha
      have hv : vs[i]? = some vs[i] := Array.getElem?_eq_getElem (by omega)
      exact ⟨_, hv, (h3 i _ a hv ha).1, (h3 i _ a hv ha).2⟩
    · simp at ha
  unfold srcCells at hev
  split at hev
  · rename_i cs n' full
    split at hev
    · rename_i hle
      simp only [Option.some.injEq, Prod.mk.injEq] at hev
      obtain ⟨rfl, rfl, rfl⟩ := hev
      cases hx with
      | ro0 _ a c _ hf =>
        refine ⟨rfl, fun m hm => ?_, by simp⟩
        have : m = 0 := by omega
        subst this
        cases a with
        | none => exact ⟨#[], rfl, by simp, by simp⟩
        | some a => exact ⟨#[], by simp [Builtin.firstCells, loadCells, loadCellsFrom], by simp, by simp⟩
      | ro _ B o _ cap _ _ us hB hW hl hf hc hr hi =>
        exact mem B o n' cap cs (fun i a ha => ⟨us i, hc i a ha, (hr i a ha).anyMu μ, hi i a ha⟩) hle rfl rfl
    · simp at hev
  · rename_i b off n' cap sz
    split at hev
    · rename_i cs g f hb
      split at hev
      · rename_i hcond
        obtain ⟨rfl, hle⟩ := hcond
        simp only [Option.some.injEq, Prod.mk.injEq] at hev
        obtain ⟨rfl, rfl, rfl⟩ := hev
        cases hx with
        | sl _ _ B o _ _ c _ _ hm hl hk hsz =>
          obtain ⟨_, _, _, arr, e, harr, hle', hcell⟩ := hs.block hb hm
          refine mem B (o + off) n' c (cs.drop off) (fun i a ha => ?_) (by rw [List.length_drop]; omega) rfl rfl
          rw [List.getElem?_drop] at ha
          obtain ⟨u, hu, hr, hc⟩ := hcell _ a ha
          exact ⟨u, by rw [cell?_arr harr, Nat.add_assoc]; exact hu, hr, hc⟩
      · simp at hev
    · simp at hev
  · rename_i s
    split at hev
    · rename_i hsz
      subst hsz
      simp only [Option.some.injEq, Prod.mk.injEq] at hev
      obtain ⟨rfl, rfl, rfl⟩ := hev
      cases hx
      have hss : s.data.size = s.size := rfl
      refine ⟨rfl, fun m hm => ⟨(s.extract 0 m).data.map fun b => .int .u8 b.toNat, rfl, ?_, ?_⟩, ?_⟩
      · rw [Array.size_map, ByteArray.data_extract, Array.size_extract]; omega
      · intro i a ha
        rw [List.getElem?_take] at ha
        split at ha
        · rename_i hi
          rw [List.getElem?_map] at ha
          obtain ⟨c, hc, rfl⟩ := Option.map_eq_some_iff.1 ha
          refine ⟨_, ?_, .int _ _ _, rfl⟩
          rw [Array.getElem?_map]
          have : (s.extract 0 m).data[i]? = some c := by
            rw [ByteArray.data_extract, Array.getElem?_extract]
            rw [Array.getElem?_toList] at hc
            rw [if_pos (by omega)]
            simpa using hc
          rw [this]; rfl
        · simp at ha
      · rw [List.length_map, Array.length_toList]; omega
    · simp at hev
  · simp at hev
theorem bts_run {P : Program} {A : Addr} {len cap : Nat} {vs : Array Value} {cs : List AV} {l : List UInt8} (hld : (loadCells A len).run P w = .ok vs w) (hlen : vs.size = cs.length)
    (hc : ∀ (i : Nat) (a : AV), cs[i]? = some a → ∃ u, vs[i]? = some u ∧ Rep w W μ u a) (hl : bytesA cs = some l) :
    (Conv.bytesToString (.slice (some A) len cap)).run P w = .ok (.string ⟨l.toArray⟩) w := by
  have key : ∀ (vs : List Value) (cs : List AV) (l : List UInt8) (s : ByteArray), vs.length = cs.length → (∀ (i : Nat) (a : AV), cs[i]? = some a → ∃ u, vs[i]? = some u ∧ Rep w W μ u a) → bytesA cs = some l →
      ∀ (f : Value → ByteArray → Sem (ForInStep ByteArray)), (∀ n r w', (f (.int .u8 n) r).run P w' = .ok (.yield (r.push (UInt8.ofNat n.toNat))) w') → (forIn (m := Sem) vs s f).run P w = .ok ⟨s.data ++ l.toArray⟩ w := by
    intro vs
    induction vs with
    | nil =>
      intro cs l s hle hc hl f hf
      have : cs = [] := List.length_eq_zero_iff.1 (by simpa using hle.symm)
      subst this
      simp only [bytesA, Option.some.injEq] at hl
      subst hl
      simp
    | cons v vs ih =>
      intro cs l s hle hc hl f hf
      cases cs with
      | nil => simp at hle
      | cons c cs =>
        obtain ⟨u, hu, hr⟩ := hc 0 c rfl
        simp only [List.getElem?_cons_zero, Option.some.injEq] at hu
        subst hu
        cases c with
        | int k n =>
          cases k <;> simp only [bytesA] at hl <;> try (exact absurd hl (by simp))
          obtain ⟨l', hl', rfl⟩ := mp_eq_some.1 hl
          cases hr
          have := ih cs l' (s.push (UInt8.ofNat n.toNat)) (by simpa using hle) (fun i a ha => hc (i + 1) a (by simpa using ha)) hl' f hf
          simp only [List.forIn_cons, Sem.run_bind, hf, Result.andThen, this]
          simp [ByteArray.push]
        | _ => simp [bytesA] at hl
  unfold Conv.bytesToString
  simp only [Sem.run_bind, hld, Result.andThen, ← Array.forIn_toList]
  rw [key vs.toList cs l ByteArray.empty (by simpa using hlen) (fun i a ha => by simpa using hc i a ha) hl]
  · show Result.ok (Value.string ⟨#[] ++ l.toArray⟩) w = _
    rw [Array.empty_append]
  · intro n r w'; rfl
theorem conv_sound (hs : Sim X base W μ h w) {src dst : TypeId} {a : Value} {aa : AV} {e : Eff} (ha : Rep w W μ a aa) (hev : aConv X h src dst aa = some e) : Pure1 X W μ w (convert src dst a) e := by
  unfold aConv at hev
  split at hev
  · rename_i hd
    split at hev
    · rename_i hc
      rw [Bool.and_eq_true] at hc
      obtain ⟨hb, hns⟩ := hc
      unfold isBytesT at hb
      split at hb
      · rename_i el hsl
        split at hb
        · rename_i hel
          unfold strE at hev
          split at hev
          · rename_i cs n rd hsrc
            obtain ⟨l, hl, he⟩ := mp_eq_some.1 hev
            subst he
            obtain ⟨s1, s2, s3⟩ := src_sound hs ha hsrc
            obtain ⟨vs, f1, f2, f3⟩ := s2 n (Nat.le_refl _)
            have f3' : ∀ (i : Nat) (b : AV), cs[i]? = some b → ∃ u, vs[i]? = some u ∧ Rep w W μ u b := by
              intro i b hb'
              obtain ⟨u, hu, hr, _⟩ := f3 i b (by rw [List.take_of_length_le (by omega)]; exact hb')
              exact ⟨u, hu, hr⟩
            refine ⟨_, .string ⟨l.toArray⟩, rfl, rfl, ?_, .str _ _⟩
            simp only [convert, Sem.run_bind, run_underlying hsl, run_underlying hd, Result.andThen]
            have fin : ∀ A len cap, a = .slice (some A) len cap → (Conv.bytesToString a).run X.P w = .ok (.string ⟨l.toArray⟩) w := by
              intro A len cap e
              subst e
              simp only [Builtin.lenOf, Sem.run_pure, Result.ok.injEq] at s1
              obtain ⟨rfl, _⟩ := s1
              exact bts_run (by simpa [Builtin.firstCells] using f1) (by omega) f3' hl
            cases ha with
            | ro0 _ A c _ hf =>
              cases A with
              | none =>
                simp only [run_underlying hel, Result.andThen, Sem.run_bind]
                simp [srcCells] at hsrc
                obtain ⟨rfl, rfl, rfl⟩ := hsrc
                simp only [bytesA, Option.some.injEq] at hl
                subst hl
                rfl
              | some A => simp only [run_underlying hel, Result.andThen, Sem.run_bind]; exact fin _ _ _ rfl
            | ro _ B o _ cap _ _ us hB hW hl' hf hc hr hi => simp only [run_underlying hel, Result.andThen, Sem.run_bind]; exact fin _ _ _ rfl
            | sl _ _ B o _ _ c _ _ hm hl' hk hsz => simp only [run_underlying hel, Result.andThen, Sem.run_bind]; exact fin _ _ _ rfl
            | str => simp [AV.isStr] at hns
            | _ => simp [srcCells] at hsrc
          · simp at hev
        · simp at hb
      · simp at hb
    · simp at hev
  · obtain ⟨r, hr, hk⟩ := nx_eq_some.1 hev
    obtain ⟨v, hv, hrep⟩ := convert_sound ha hr
    exact Pure1.mk hk hv hrep
theorem copy_sound (hs : Sim X base W μ h w) {argTypes : Array TypeId} {d x : Value} {da xa : AV} (hd : Rep w W μ d da) (hx : Rep w W μ x xa) {e : Eff} (hev : aCopy X h argTypes da xa = some e) (id : Nat) (ty : TypeId) :
    ∃ dl v w', e = .loc dl ∧ (Builtin.copy_ argTypes ty #[d, x]).run X.P w = .ok v w' ∧ Out X base W μ h w id dl v w' := by
  unfold aCopy at hev
  split at hev
  · rename_i st hst
    split at hev
    · rename_i elem hu
      obtain ⟨size, hsize, hk⟩ := nx_eq_some.1 hev
      obtain ⟨j, hj, hsz⟩ := sizeA_some hsize
      obtain ⟨⟨xs, n, rd⟩, hsrc, hk2⟩ := nx_eq_some.1 hk
      clear hk hev
      obtain ⟨s1, s2, s3⟩ := src_sound hs hx hsrc
      cases hd with
      | sl _ b B o off len c cap sz hm hl hkc hsz' =>
        simp only at hk2
        split at hk2
        · simp at hk2
        rename_i hne
        simp only [Decidable.not_not] at hne
        subst hne
        split at hk2
        · rename_i cs g hb
          split at hk2
          · rename_i hle
            simp only [Option.some.injEq] at hk2
            subst hk2
            obtain ⟨hbase, hW, _, arr, ty', harr, hlen, hc⟩ := hs.block hb hm
            obtain ⟨vs, v1, v2, v3⟩ := s2 (min n len) (by omega)
            have hmn : min n len * sz ≤ len * sz := Nat.mul_le_mul_right _ (by omega)
            have hmn' : min n len * sz ≤ n * sz := Nat.mul_le_mul_right _ (by omega)
            have hxl : (xs.take (min n len * sz)).length = min n len * sz := by rw [List.length_take, s3]; omega
            have hvl0 : vs.toList.length = min n len * sz := by simpa using v2
            have hone : ∀ v ∈ vs.toList, v.oneCell' = true := by
              intro v hv
              obtain ⟨i, hi', hv⟩ := List.getElem_of_mem hv
              have hvs : vs[i]? = some v := by rw [Array.getElem?_eq_getElem (by simpa using hi')]; simp only [Array.getElem_toList] at hv; rw [hv]
              obtain ⟨u, hu', hr, hcell⟩ := v3 i _ (List.getElem?_eq_getElem (by omega))
              rw [hvs] at hu'; cases hu'
              exact hr.oneCell hcell
            have hrun := run_storeCells_at (P := X.P) B (o + off) ty' vs.toList 0 arr w harr (by omega) hone
            simp only [Nat.add_zero] at hrun
            obtain ⟨p1, p2⟩ := hs.put hb hm (cs' := splice cs off (xs.take (min n len * sz))) (arr' := (arr.toList.take (o + off) ++ vs.toList ++ arr.toList.drop (o + off + vs.toList.length)).toArray) harr
              (by simp; omega) (by rw [splice_length (by omega)]; simp; omega)
              (splice_content (by omega) (by omega) hlen hc fun i c hc => by simpa using v3 i c hc)
            refine ⟨_, goInt (min n len : Nat), _, rfl, ?_, W, μ, p1, p2, .int _ _ _, fun _ hb => .inl hb⟩
            have e0 : (#[Value.slice (some ⟨B, o + off, none⟩) len c, x] : Array Value)[0]? = some (.slice (some ⟨B, o + off, none⟩) len c) := rfl
            have e1 : (#[Value.slice (some ⟨B, o + off, none⟩) len c, x] : Array Value)[1]? = some x := rfl
            have v1' : (Builtin.firstCells sz (n.min len) x).run X.P w = .ok vs w := v1
            simp only [Builtin.copy_, hst, e0, e1, Sem.run_bind, run_underlying hu, Result.andThen, s1, run_sizeOf' hj, hsz, v1', hrun, Sem.run_pure]
          · simp at hk2
        · simp at hk2
      | ro0 _ a c _ hf =>
        simp only [if_true, Option.some.injEq] at hk2
        subst hk2
        obtain ⟨vs, v1, v2, v3⟩ := s2 0 (by omega)
        have hvs : vs = #[] := by simpa using v2
        have v1' : (Builtin.firstCells size (n.min 0) x).run X.P w = .ok #[] w := by rw [← hvs]; simpa using v1
        have e0 : (#[Value.slice a 0 c, x] : Array Value)[0]? = some (.slice a 0 c) := rfl
        have e1 : (#[Value.slice a 0 c, x] : Array Value)[1]? = some x := rfl
        refine ⟨_, goInt 0, w, rfl, ?_, Out.same hs (.int _ _ _)⟩
        simp only [Builtin.copy_, hst, e0, e1, Sem.run_bind, run_underlying hu, Result.andThen, s1, run_sizeOf' hj, hsz, v1']
        cases a <;> simp [storeCells, goInt]
      | ro _ B o len cap _ _ us hB hW hl hf hc hr hi =>
        simp only at hk2
        by_cases h0 : len = 0
        · rw [if_pos h0] at hk2
          subst h0
          cases hk2
          obtain ⟨vs, v1, v2, v3⟩ := s2 0 (by omega)
          have hvs : vs = #[] := by simpa using v2
          have v1' : (Builtin.firstCells size (n.min 0) x).run X.P w = .ok #[] w := by rw [← hvs]; simpa using v1
          have e0 : (#[Value.slice (some ⟨B, o, none⟩) 0 cap, x] : Array Value)[0]? = some (.slice (some ⟨B, o, none⟩) 0 cap) := rfl
          have e1 : (#[Value.slice (some ⟨B, o, none⟩) 0 cap, x] : Array Value)[1]? = some x := rfl
          refine ⟨_, goInt 0, w, rfl, ?_, Out.same hs (.int _ _ _)⟩
          simp only [Builtin.copy_, hst, e0, e1, Sem.run_bind, run_underlying hu, Result.andThen, s1, run_sizeOf' hj, hsz, v1']
          simp [storeCells, goInt]
        · rw [if_neg h0] at hk2; simp at hk2
      | _ => simp at hk2
    · simp at hev
  · simp at hev
theorem grown_are {old new : Array Value} {rest : Array Value} {as bs : List AV} (h1 : old.size = as.length) (h2 : new.size = bs.length)
    (e1 : ∀ (i : Nat) (a : AV), as[i]? = some a → ∃ u, old[i]? = some u ∧ Rep w W μ u a ∧ a.isCell = true) (e2 : ∀ (i : Nat) (a : AV), bs[i]? = some a → ∃ u, new[i]? = some u ∧ Rep w W μ u a ∧ a.isCell = true) :
    ∀ (i : Nat) (a : AV), (as ++ bs)[i]? = some a → ∃ u, (old ++ new ++ rest)[i]? = some u ∧ Rep w W μ u a ∧ a.isCell = true := by
  intro i a ha
  by_cases hi : i < as.length
  · rw [List.getElem?_append_left hi] at ha
    obtain ⟨u, hu, hr, hc⟩ := e1 i a ha
    refine ⟨u, ?_, hr, hc⟩
    rw [Array.getElem?_append_left (by simp; omega), Array.getElem?_append_left (by omega)]
    exact hu
  · rw [List.getElem?_append_right (by omega)] at ha
    obtain ⟨u, hu, hr, hc⟩ := e2 _ a ha
    have hlt : i - as.length < bs.length := by
      rcases Nat.lt_or_ge (i - as.length) bs.length with hl | hl
      · exact hl
      · simp [List.getElem?_eq_none hl] at ha
    refine ⟨u, ?_, hr, hc⟩
    rw [Array.getElem?_append_left (by simp; omega), Array.getElem?_append_right (by omega), h1]
    exact hu
theorem step_drawn (w : World) (W : Nat → Prop) (μ : Mu) (base : Nat) : Step base w W μ { w with drawn := w.drawn + 1 } W μ :=
  ⟨rfl, rfl, rfl, Nat.le_refl _, fun _ _ _ => rfl, fun _ _ h => h, fun _ _ h => h, fun _ arr _ _ h => ⟨arr, h, rfl⟩, fun _ _ h => h, Nat.le_succ _⟩
theorem append_grow {argTypes : Array TypeId} {st xt elem : TypeId} {xd : TypeDesc} {i : TypeInfo} (h0 : argTypes[0]? = some st) (h1 : argTypes[1]? = some xt) (hu : X.P.underlying st = some (.slice elem))
    (hx : X.P.underlying xt = some xd) (hxd : isIntD xd = false) (hi : X.P.info? elem = some i) {z : Value} (hz : i.zero = some z) {a : Option Addr} {len cap n : Nat} {x : Value} (ty : TypeId)
    (hn : (Builtin.lenOf x).run X.P w = .ok n w) (hgrow : cap < len + n) (hbig : (len + n) * (i.bytes + 1) ≤ 2 ^ 40) {old new : Array Value}
    (ho' : (Builtin.firstCells i.size len (.slice a len cap)).run X.P { w with drawn := w.drawn + 1 } = .ok old { w with drawn := w.drawn + 1 }) (hw' : (Builtin.firstCells i.size n x).run X.P { w with drawn := w.drawn + 1 } = .ok new { w with drawn := w.drawn + 1 }) :
    ∃ (c : Nat) (rest : Array Value), len + n ≤ c ∧ rest.size = (c - (len + n)) * z.cells.size ∧ (Builtin.append_ argTypes ty #[.slice a len cap, x]).run X.P w =
      .ok (.slice (some ⟨w.heap.size, 0, none⟩) (len + n) c) (({ w with drawn := w.drawn + 1 } : World).alloc (.cells (old ++ new ++ rest) elem)) := by
  have hb1 : (len + n) * i.bytes ≤ 140737488355328 := by
    have : (len + n) * i.bytes ≤ (len + n) * (i.bytes + 1) := Nat.mul_le_mul_left _ (by omega)
    omega
  have hfit := growslice_fits hgrow hb1
  have hlen : len + n ≤ 2 ^ 40 := by
    have : (len + n) * 1 ≤ (len + n) * (i.bytes + 1) := Nat.mul_le_mul_left _ (by omega)
    omega
  have hc : len + n ≤ (Question.appendCap (len + n) cap elem).cut (w.tape w.drawn (.appendCap (len + n) cap elem)) := Nat.le_add_right _ _
  refine ⟨_, Builtin.zeroCells z.cells ((Question.appendCap (len + n) cap elem).cut (w.tape w.drawn (.appendCap (len + n) cap elem)) - (len + n)), hc, by simp [Builtin.zeroCells], ?_⟩
  have e0 : (#[Value.slice a len cap, x] : Array Value)[0]? = some (.slice a len cap) := rfl
  have e1 : (#[Value.slice a len cap, x] : Array Value)[1]? = some x := rfl
  have hmax : ¬ (((len + n : Nat) : Int) > IntKind.i64.max) := by
    have : IntKind.i64.max = 9223372036854775807 := by decide
    rw [this]; omega
  have hle : ¬ len + n ≤ cap := by omega
  have hfit' : ¬ Builtin.nextslicecap (len + n) cap * i.bytes > 2 ^ 48 := by omega
  cases xd with
  | int k => simp [isIntD] at hxd
  | _ =>
    simp only [Builtin.append_, h0, h1, e0, e1, Sem.run_bind, run_underlying hu, run_underlying hx, Result.andThen, run_sizeOf' hi, Sem.run_pure, Bool.false_eq_true, if_false, hn, if_neg hle, Sem.run_ite, run_typeInfo' hi, hmax, false_and,
      if_neg hfit', run_choose, Question.forced, run_askRoom, Bool.not_false, if_true]
    simp only [ho', hw', run_zeroValue' hi hz, run_newRow']
theorem Sim.drawn (hs : Sim X base W μ h w) : Sim X base W μ h { w with drawn := w.drawn + 1 } :=
  hs.keep (step_drawn w W μ base) (fun _ _ => rfl) (fun _ _ _ _ _ => ⟨rfl, Iff.rfl⟩) hs.wlt
end
section
variable {X : Ctx} {base : Nat} {W : Nat → Prop} {μ : Mu} {h : Heap} {w : World}
theorem append_room {argTypes : Array TypeId} {st xt elem : TypeId} {xd : TypeDesc} {i : TypeInfo} (h0 : argTypes[0]? = some st) (h1 : argTypes[1]? = some xt) (hu : X.P.underlying st = some (.slice elem))
  (hx : X.P.underlying xt = some xd) (hxd : isIntD xd = false) (hi : X.P.info? elem = some i) {a : Option Addr} {len cap n : Nat} {x : Value} (ty : TypeId)
  (hn : (Builtin.lenOf x).run X.P w = .ok n w) (hroom : len + n ≤ cap) {new : Array Value} (hw' : (Builtin.firstCells i.size n x).run X.P w = .ok new w) {w' : World}
  (hst : match a with | some a => (storeCells (a.add (len * i.size)) new.toList).run X.P w = .ok () w' | none => w' = w) :
  (Builtin.append_ argTypes ty #[.slice a len cap, x]).run X.P w = .ok (.slice a (len + n) cap) w' := by
 have e0 : (#[Value.slice a len cap, x] : Array Value)[0]? = some (.slice a len cap) := rfl
 have e1 : (#[Value.slice a len cap, x] : Array Value)[1]? = some x := rfl
 cases xd with
 | int k => simp [isIntD] at hxd
 | _ =>
  cases a with
  | none =>
   simp only at hst
   subst hst
   simp only [Builtin.append_, h0, h1, e0, e1, Sem.run_bind, run_underlying hu, run_underlying hx, Result.andThen, run_sizeOf' hi, Sem.run_pure, Bool.false_eq_true, if_false, hn, if_pos hroom, Bool.not_false, if_true, hw']
  | some a =>
   simp only at hst
   simp only [Builtin.append_, h0, h1, e0, e1, Sem.run_bind, run_underlying hu, run_underlying hx, Result.andThen, run_sizeOf' hi, Sem.run_pure, Bool.false_eq_true, if_false, hn, if_pos hroom, Bool.not_false, if_true, hw', hst]
theorem upd_twice {α : Type} (f : Nat → α) (i : Nat) (a b : α) : upd (upd f i a) i b = upd f i b := by
 funext j; by_cases hj : j = i <;> simp [upd, hj]
theorem arr_ones {arr : Array Value} {cs : List AV} (hl : arr.size = cs.length) (hc : ∀ (i : Nat) (a : AV), cs[i]? = some a → ∃ u, arr[i]? = some u ∧ Rep w W μ u a ∧ a.isCell = true) : ∀ v ∈ arr.toList, v.oneCell' = true := by
 intro v hv
 obtain ⟨i, hi', hv⟩ := List.getElem_of_mem hv
 have hi2 : i < arr.size := by simpa using hi'
 have hvs : arr[i]? = some v := by rw [Array.getElem?_eq_getElem hi2]; simp only [Array.getElem_toList] at hv; rw [hv]
 obtain ⟨u, hu', hr, hcell⟩ := hc i _ (List.getElem?_eq_getElem (by omega))
 rw [hvs] at hu'; cases hu'
 exact hr.oneCell hcell
theorem append_sound (hs : Sim X base W μ h w) {id : Nat} (hid : μ id = none) {argTypes : Array TypeId} {s x : Value} {sa xa : AV} (hsv : Rep w W μ s sa) (hx : Rep w W μ x xa) {e : Eff} (hev : aAppend X h id argTypes sa xa = some e) (ty : TypeId) :
  ∃ d v w', e = .loc d ∧ (Builtin.append_ argTypes ty #[s, x]).run X.P w = .ok v w' ∧ Out X base W μ h w id d v w' := by
 unfold aAppend at hev
 split at hev
 case h_2 => simp at hev
 rename_i st xt hst hxt
 split at hev
 case h_2 => simp at hev
 rename_i elem xd hu hxu
 split at hev
 ·simp at hev
 rename_i hxd
 have hxd : isIntD xd = false := by simpa using hxd
 obtain ⟨⟨size, bytes⟩, hsb, hk⟩ := nx_eq_some.1 hev
 clear hev
 obtain ⟨i, hi, hh⟩ := mp_eq_some.1 hsb
 simp only [Prod.mk.injEq] at hh
 obtain ⟨rfl, rfl⟩ := hh
 simp only at hk
 split at hk
 ·simp at hk
 rename_i hs0
 obtain ⟨z, hz, hk⟩ := nx_eq_some.1 hk
 split at hk
 ·simp at hk
 rename_i hzc
 simp only [not_or, Decidable.not_not] at hzc
 obtain ⟨i', zv, hi', hzv, hzr⟩ := zeroA_some hz w W μ
 rw [hi] at hi'
 cases hi'
 have hzs : zv.cells.size = i.size := by rw [(cells_sound hzr (by simpa using hzc.2)).1, hzc.1]
 obtain ⟨⟨xs, n, rd⟩, hsrc, hk⟩ := nx_eq_some.1 hk
 obtain ⟨s1, s2, s3⟩ := src_sound hs hx hsrc
 obtain ⟨new, n1, n2, n3⟩ := s2 n (Nat.le_refl _)
 have hxt' : xs.take (n * i.size) = xs := List.take_of_length_le (by omega)
 rw [hxt'] at n3
 have hs1 := hs.drawn
 have hd := step_drawn w W μ base
 have sx1 := src_sound hs1 (hx.step hd) hsrc
 obtain ⟨t1, t2, _⟩ := sx1
 obtain ⟨new1, m1, m2, m3⟩ := t2 n (Nat.le_refl _)
 rw [hxt'] at m3
 have noth : ∀ (a : Option Addr) (len cap : Nat) (a' : AV) (rd : List Nat), s = .slice a len cap → Rep w W μ s a' → len ≤ cap → n = 0 → some (Eff.loc ⟨a', rd, []⟩) = some e →
   ∃ d v w', e = .loc d ∧ (Builtin.append_ argTypes ty #[s, x]).run X.P w = .ok v w' ∧ Out X base W μ h w id d v w' := by
  intro a len cap a' rd hsa hr hle hn he
  simp only [Option.some.injEq] at he
  subst he hsa hn
  have hnew : new = #[] := by simpa using n2
  subst hnew
  refine ⟨_, .slice a (len + 0) cap, w, rfl, append_room hst hxt hu hxu hxd hi ty s1 (by omega) n1 ?_, Out.same hs hr⟩
  cases a <;> simp [storeCells]
 have grow : ∀ (a : Option Addr) (len cap : Nat) (os : List AV) (old : Array Value) (h' : Heap), s = .slice a len cap → cap < len + n → (len + n) * (i.bytes + 1) ≤ 2 ^ 40 →
   (Builtin.firstCells i.size len (.slice a len cap)).run X.P { w with drawn := w.drawn + 1 } = .ok old { w with drawn := w.drawn + 1 } → old.size = len * i.size → os.length = len * i.size →
   (∀ (i : Nat) (a : AV), os[i]? = some a → ∃ u, old[i]? = some u ∧ Rep ({ w with drawn := w.drawn + 1 } : World) W μ u a ∧ a.isCell = true) → Sim X base W μ h' ({ w with drawn := w.drawn + 1 } : World) →
   ∃ v w', (Builtin.append_ argTypes ty #[s, x]).run X.P w = .ok v w' ∧ ∃ W' μ', Step base w W μ w' W' μ' ∧ Sim X base W' μ' (upd h' id (some (.cells (os ++ xs) true false))) w' ∧ Rep w' W' μ' v (.sl id 0 (len + n) none i.size) ∧ ∀ b, μ' b ≠ none → μ b ≠ none ∨ (id ≤ b ∧ b < id + 8) := by
  intro a len cap os old h' hsa hgr hbig hold hos1 hos2 hos3 hs'
  subst hsa
  obtain ⟨c, rest, hc, hrest, hrun⟩ := append_grow hst hxt hu hxu hxd hi hzv ty s1 hgr hbig hold m1
  refine ⟨_, _, hrun, ?_⟩
  have hcs : c * i.size ≤ (old ++ new1 ++ rest).size := by
   simp only [Array.size_append, hos1, m2, hrest, hzs]
   rw [← Nat.add_mul, ← Nat.add_mul]
   exact Nat.le_of_eq (by congr 1; omega)
  obtain ⟨W', μ', p1, p2, p3, p4⟩ := new_out hs' hid (t := elem) (arr := old ++ new1 ++ rest) (cs := os ++ xs) true (by simp; omega) (grown_are (by omega) (by omega) hos3 m3) (len := len + n) (cap := c) (sz := i.size) none (by simp) hc hcs []
  exact ⟨W', μ', hd.trans p1, p2, p3, p4⟩
 cases hsv with
 | ro0 _ a c full hf =>
  simp only at hk
  by_cases hn0 : n = 0
  ·rw [if_pos hn0] at hk
   exact noth a 0 c _ _ rfl (.ro0 _ a c full hf) (Nat.zero_le _) hn0 hk
  ·rw [if_neg hn0] at hk
   split at hk
   ·rename_i hb
    simp only [Option.some.injEq] at hk
    subst hk
    have hc0 := hf hb.1
    subst hc0
    have hold : (Builtin.firstCells i.size 0 (.slice a 0 0)).run X.P { w with drawn := w.drawn + 1 } = .ok #[] { w with drawn := w.drawn + 1 } := by
     cases a <;> simp [Builtin.firstCells, loadCells, loadCellsFrom]
    obtain ⟨v, w', r1, W', μ', r2, r3, r4, r5⟩ := grow a 0 0 [] #[] h rfl (by omega) hb.2.2 hold (by simp) (by simp) (by simp) hs1
    exact ⟨_, v, w', rfl, r1, W', μ', r2, by simpa [applyWr] using r3, r4, r5⟩
   ·simp at hk
 | ro _ B o len cap cs full us hB hW hl hf hc hr hi' =>
  have hro : Rep w W μ (.slice (some ⟨B, o, none⟩) len cap) (.ro cs len full) := .ro _ B o len cap cs full us hB hW hl hf hc hr hi'
  simp only at hk
  by_cases hn0 : n = 0
  ·rw [if_pos hn0] at hk
   exact noth _ len cap _ _ rfl hro hl hn0 hk
  ·rw [if_neg hn0] at hk
   split at hk
   ·rename_i hb
    simp only [Option.some.injEq] at hk
    subst hk
    have hcl := hf hb.1
    obtain ⟨_, d2, d3⟩ := src_sound hs1 (size := i.size) (hro.step hd) (xs := cs.take (len * i.size)) (n := len) (rd := []) (by simp only [srcCells, if_pos hb.2.1])
    obtain ⟨old, o1, o2, o3⟩ := d2 len (Nat.le_refl _)
    rw [List.take_of_length_le (by omega)] at o3
    obtain ⟨v, w', r1, W', μ', r2, r3, r4, r5⟩ := grow _ len cap (cs.take (len * i.size)) old h rfl (by omega) hb.2.2 o1 o2 d3 o3 hs1
    exact ⟨_, v, w', rfl, r1, W', μ', r2, r3, r4, r5⟩
   ·simp at hk
 | sl _ b B o off len c cap sz hm hl hkc hsz' =>
  have hsl : Rep w W μ (.slice (some ⟨B, o + off, none⟩) len c) (.sl b off len cap sz) := .sl _ b B o off len c cap sz hm hl hkc hsz'
  simp only at hk
  split at hk
  ·simp at hk
  rename_i hne
  simp only [Decidable.not_not] at hne
  subst hne
  split at hk
  case h_2 => simp at hk
  rename_i cs g frz hb
  obtain ⟨hbase, hWB, _, arr, ty', harr, hlen, hcc⟩ := hs.block hb hm
  have vis : off + len * i.size ≤ cs.length → ∃ old, (Builtin.firstCells i.size len (.slice (some ⟨B, o + off, none⟩) len c)).run X.P { w with drawn := w.drawn + 1 } = .ok old { w with drawn := w.drawn + 1 } ∧ old.size = len * i.size ∧ ((cs.drop off).take (len * i.size)).length = len * i.size ∧
    ∀ (k : Nat) (a : AV), ((cs.drop off).take (len * i.size))[k]? = some a → ∃ u, old[k]? = some u ∧ Rep ({ w with drawn := w.drawn + 1 } : World) W μ u a ∧ a.isCell = true := by
   intro hv
   obtain ⟨_, d2, d3⟩ := src_sound hs1 (size := i.size) (hsl.step hd) (xs := (cs.drop off).take (len * i.size)) (n := len) (rd := [b]) (by simp only [srcCells, hb]; rw [if_pos ⟨trivial, hv⟩])
   obtain ⟨old, o1, o2, o3⟩ := d2 len (Nat.le_refl _)
   rw [List.take_of_length_le (by omega)] at o3
   exact ⟨old, o1, o2, d3, o3⟩
  have room : ∀ (cs' : List AV), frz = false → len + n ≤ c → off + len * i.size ≤ cs.length → cs'.length + o ≤ arr.size → (∀ (k : Nat) (a : AV), cs'[k]? = some a → k < off + len * i.size ∧ cs[k]? = some a ∨ off + len * i.size ≤ k ∧ k < off + len * i.size + n * i.size ∧ xs[k - (off + len * i.size)]? = some a ∨ off + len * i.size + n * i.size ≤ k ∧ cs[k]? = some a) →
    ∃ w', (Builtin.append_ argTypes ty #[.slice (some ⟨B, o + off, none⟩) len c, x]).run X.P w = .ok (.slice (some ⟨B, o + off, none⟩) (len + n) c) w' ∧ Step base w W μ w' W μ ∧ Sim X base W μ (upd h b (some (.cells cs' g false))) w' := by
   intro cs' hfz hroom hv hcl' hget
   subst hfz
   obtain ⟨arr0, e0, f0, harr0, hle0⟩ := hsz'
   rw [harr] at harr0
   cases harr0
   have hcn : (len + n) * i.size ≤ c * i.size := Nat.mul_le_mul_right _ hroom
   rw [Nat.add_mul] at hcn
   have hnl : new.toList.length = n * i.size := by simpa using n2
   have hrun := run_storeCells_at (P := X.P) B (o + off + len * i.size) ty' new.toList 0 arr w harr (by omega) (arr_ones (by omega) n3)
   simp only [Nat.add_zero] at hrun
   obtain ⟨p1, p2⟩ := hs.put hb hm (cs' := cs') (arr' := (arr.toList.take (o + off + len * i.size) ++ new.toList ++ arr.toList.drop (o + off + len * i.size + new.toList.length)).toArray) harr (by simp; omega) (by simp; omega) (by
    intro k a ha
    rw [List.getElem?_toArray, splice_get (by simp; omega)]
    rcases hget k a ha with ⟨k1, k2⟩ | ⟨k1, k2, k3⟩ | ⟨k1, k2⟩
    ·rw [if_pos (by omega)]; simpa using hcc k a k2
    ·rw [if_neg (by omega), if_pos (by omega), show o + k - (o + off + len * i.size) = k - (off + len * i.size) by omega]
     simpa using n3 _ a k3
    ·rw [if_neg (by omega), if_neg (by omega)]; simpa using hcc k a k2)
   exact ⟨_, append_room hst hxt hu hxu hxd hi ty s1 hroom n1 (by simp only [add_none]; exact hrun), p1, p2⟩
  cases cap with
  | some k =>
   have hck := hkc k rfl
   subst hck
   simp only at hk
   by_cases hn0 : n = 0
   ·rw [if_pos hn0] at hk
    exact noth _ len c _ _ rfl hsl hl hn0 hk
   ·rw [if_neg hn0] at hk
    by_cases hroom : len + n ≤ c
    ·rw [if_pos hroom] at hk
     split at hk
     ·rename_i hcond
      obtain ⟨hfz, hle⟩ := hcond
      simp only [Option.some.injEq] at hk
      subst hk
      rw [Nat.add_mul] at hle
      obtain ⟨w', r1, r2, r3⟩ := room (splice cs (off + len * i.size) xs) hfz hroom (by omega) (by rw [splice_length (by omega)]; omega) (fun k a ha => by
       unfold splice at ha
       rw [splice_get (by omega)] at ha
       by_cases h1 : k < off + len * i.size
       ·rw [if_pos h1] at ha; exact .inl ⟨h1, ha⟩
       ·rw [if_neg h1] at ha
        by_cases h2 : k < off + len * i.size + xs.length
        ·rw [if_pos h2] at ha; exact .inr (.inl ⟨by omega, by omega, ha⟩)
        ·rw [if_neg h2] at ha; exact .inr (.inr ⟨by omega, ha⟩))
      refine ⟨_, _, w', rfl, r1, W, μ, r2, by subst hfz; exact r3, ?_, fun _ hb => .inl hb⟩
      obtain ⟨arr0, e0, f0, ha0, hl0⟩ := hsz'
      obtain ⟨arr1, ha1, hsz1⟩ := r2.shape B arr0 e0 f0 ha0
      exact .sl _ b B o off (len + n) c (some c) i.size hm hroom (by simp) ⟨arr1, e0, f0, ha1, by omega⟩
     ·simp at hk
    ·rw [if_neg hroom] at hk
     split at hk
     ·rename_i hcond
      simp only [Option.some.injEq] at hk
      subst hk
      obtain ⟨old, o1, o2, o3, o4⟩ := vis hcond.1
      obtain ⟨v, w', r1, W', μ', r2, r3, r4, r5⟩ := grow _ len c _ old h rfl (by omega) hcond.2 o1 o2 o3 o4 hs1
      exact ⟨_, v, w', rfl, r1, W', μ', r2, r3, r4, r5⟩
     ·simp at hk
  | none =>
   simp only at hk
   by_cases hn0 : n = 0
   ·rw [if_pos hn0] at hk
    exact noth _ len c _ _ rfl hsl hl hn0 hk
   ·rw [if_neg hn0] at hk
    split at hk
    ·rename_i hcond
     obtain ⟨hfz, hg, hend, hbig⟩ := hcond
     simp only [Option.some.injEq] at hk
     subst hk
     have hdr : (cs.drop off).take (len * i.size) = cs.drop off := List.take_of_length_le (by rw [List.length_drop]; omega)
     by_cases hroom : len + n ≤ c
     ·obtain ⟨arr0, e0, f0, harr0, hle0⟩ := hsz'
      rw [harr] at harr0
      cases harr0
      have hcn : (len + n) * i.size ≤ c * i.size := Nat.mul_le_mul_right _ hroom
      rw [Nat.add_mul] at hcn
      obtain ⟨w', r1, r2, r3⟩ := room (cs ++ xs) hfz hroom (by omega) (by simp; omega) (fun k a ha => by
       by_cases h1 : k < cs.length
       ·rw [List.getElem?_append_left h1] at ha; exact .inl ⟨by omega, ha⟩
       ·rw [List.getElem?_append_right (by omega)] at ha
        have : k - cs.length < xs.length := by
         rcases Nat.lt_or_ge (k - cs.length) xs.length with hl | hl
         ·exact hl
         ·simp [List.getElem?_eq_none hl] at ha
        exact .inr (.inl ⟨by omega, by omega, by rw [hend]; exact ha⟩))
      obtain ⟨_, hW', _, arr2, ty2, harr2, hlen2, hcc2⟩ := r3.block (upd_eq _ _ _) hm
      have r4 := r3.drop b
      rw [upd_twice] at r4
      obtain ⟨q1, q2⟩ := r4.alias (id := id) (B := B) (o := o + off) (arr := arr2) (e := ty2) (cs := cs.drop off ++ xs) true hid hbase (hW' rfl) harr2 (fun b' o' hb' hm' => by
        have hne : b' ≠ b := fun he => by subst he; simp [upd_eq] at hb'
        rw [upd_ne _ _ hne] at hb'
        exact hne (hs.inj b' b B o' o hb' (by simp [hb]) hm' hm)) (by simp at hlen2 ⊢; omega) (fun k a ha => by
        rw [Nat.add_assoc]
        refine hcc2 (off + k) a ?_
        rw [← List.getElem?_drop, List.drop_append_of_le_length (by omega)]
        exact ha)
      refine ⟨_, _, w', rfl, r1, W, _, r2.trans q1, q2, ?_, fun b' hb' => ?_⟩
      ·obtain ⟨arr1, ha1, hsz1⟩ := r2.shape B arr ty' (0, 0) harr
       exact .sl _ id B (o + off) 0 (len + n) c none i.size (upd_eq _ _ _) hroom (by simp) ⟨arr1, ty', (0, 0), ha1, by omega⟩
      ·by_cases hbe : b' = id
       ·right; omega
       ·rw [upd_ne _ _ hbe] at hb'; exact .inl hb'
     ·obtain ⟨old, o1, o2, o3, o4⟩ := vis (by omega)
      obtain ⟨v, w', r1, W', μ', r2, r3, r4, r5⟩ := grow _ len c _ old (upd h b none) rfl (by omega) hbig o1 o2 o3 o4 (hs1.drop b)
      rw [hdr] at r3
      exact ⟨_, v, w', rfl, r1, W', μ', r2, r3, r4, r5⟩
    ·split at hk
     ·rename_i hcond
      obtain ⟨hfz, hg, hend, hbig⟩ := hcond
      simp only [Option.some.injEq] at hk
      subst hk
      have hcl : (cs.take (off + len * i.size)).length = off + len * i.size := by rw [List.length_take]; omega
      have hdl : ((cs.drop off).take (len * i.size)).length = len * i.size := by rw [List.length_take, List.length_drop]; omega
      by_cases hroom : len + n ≤ c
      ·obtain ⟨arr0, e0, f0, harr0, hle0⟩ := hsz'
       rw [harr] at harr0
       cases harr0
       have hcn : (len + n) * i.size ≤ c * i.size := Nat.mul_le_mul_right _ hroom
       rw [Nat.add_mul] at hcn
       obtain ⟨w', r1, r2, r3⟩ := room (cs.take (off + len * i.size) ++ xs) hfz hroom (by omega) (by simp; omega) (fun k a ha => by
        by_cases h1 : k < off + len * i.size
        ·rw [List.getElem?_append_left (by omega), List.getElem?_take_of_lt h1] at ha; exact .inl ⟨by omega, ha⟩
        ·rw [List.getElem?_append_right (by omega), hcl] at ha
         have : k - (off + len * i.size) < xs.length := by
          rcases Nat.lt_or_ge (k - (off + len * i.size)) xs.length with hl | hl
          ·exact hl
          ·simp [List.getElem?_eq_none hl] at ha
         exact .inr (.inl ⟨by omega, by omega, ha⟩))
       obtain ⟨_, hW', _, arr2, ty2, harr2, hlen2, hcc2⟩ := r3.block (upd_eq _ _ _) hm
       have r4 := r3.drop b
       rw [upd_twice] at r4
       obtain ⟨q1, q2⟩ := r4.alias (id := id) (B := B) (o := o + off) (arr := arr2) (e := ty2) (cs := (cs.drop off).take (len * i.size) ++ xs) true hid hbase (hW' rfl) harr2 (fun b' o' hb' hm' => by
         have hne : b' ≠ b := fun he => by subst he; simp [upd_eq] at hb'
         rw [upd_ne _ _ hne] at hb'
         exact hne (hs.inj b' b B o' o hb' (by simp [hb]) hm' hm)) (by simp at hlen2 ⊢; omega) (fun k a ha => by
         rw [Nat.add_assoc]
         refine hcc2 (off + k) a ?_
         rw [← List.getElem?_drop, List.drop_append_of_le_length (by omega), List.drop_take, Nat.add_sub_cancel_left]
         exact ha)
       refine ⟨_, _, w', rfl, r1, W, _, r2.trans q1, q2, ?_, fun b' hb' => ?_⟩
       ·obtain ⟨arr1, ha1, hsz1⟩ := r2.shape B arr ty' (0, 0) harr
        exact .sl _ id B (o + off) 0 (len + n) c none i.size (upd_eq _ _ _) hroom (by simp) ⟨arr1, ty', (0, 0), ha1, by omega⟩
       ·by_cases hbe : b' = id
        ·right; omega
        ·rw [upd_ne _ _ hbe] at hb'; exact .inl hb'
      ·obtain ⟨old, o1, o2, o3, o4⟩ := vis (by omega)
       obtain ⟨v, w', r1, W', μ', r2, r3, r4, r5⟩ := grow _ len c _ old (upd h b none) rfl (by omega) hbig o1 o2 o3 o4 (hs1.drop b)
       exact ⟨_, v, w', rfl, r1, W', μ', r2, r3, r4, r5⟩
     ·simp at hk
 | _ => simp at hk
end
section
variable {X : Ctx} {base : Nat} {W : Nat → Prop} {μ : Mu} {h : Heap} {w : World}
def ArgsRep (w : World) (W : Nat → Prop) (μ : Mu) (vs : Array Value) (as : List AV) : Prop :=
 vs.size = as.length ∧ ∀ (i : Nat) (v : Value) (a : AV), vs[i]? = some v → as[i]? = some a → Rep w W μ v a
def CallSound1 (X : Ctx) (call : CallFn) : Prop := ∀ (f : FuncId) (args : List AV) (h : Heap) (next : Nat) (v : AV) (h' : Heap) (next' : Nat), call f args h next = some (v, h', next') →
 (∃ fn, X.P.funcs[f]? = some fn ∧ funcOk fn = true) ∧
 ∀ (base : Nat) (W : Nat → Prop) (μ : Mu) (w : World) (vals : Array Value), Sim X base W μ h w → (∀ b, next ≤ b → μ b = none) → ArgsRep w W μ vals args →
  Calls X.P f vals w fun e w' => ∃ u W' μ', e = .returned u ∧ Step base w W μ w' W' μ' ∧ Sim X base W' μ' h' w' ∧ Rep w' W' μ' u v ∧ next ≤ next' ∧ ∀ b, μ' b ≠ none → μ b ≠ none ∨ (next ≤ b ∧ b < next')
def SpecSound (X : Ctx) : Prop := ∀ (f : FuncId) (g : List AV → Option AV), X.mode f = .spec g → ∀ (args : List AV) (r : AV), g args = some r →
 (∃ fn, X.P.funcs[f]? = some fn ∧ funcOk fn = true) ∧
 ∀ (W : Nat → Prop) (w : World) (vals : Array Value), Sim X w.heap.size W noMu emptyHeap w → ArgsRep w W noMu vals args →
  Calls X.P f vals w fun e w' => ∃ u v h2 W2 μ2, e = .returned u ∧ Step w.heap.size w W noMu w' W2 μ2 ∧ Sim X w.heap.size W2 μ2 h2 w' ∧ Rep w' W2 μ2 u v ∧
   ((∃ x ids, snap h2 depthA v = some (x, ids) ∧ r = x.weak) ∨ (∃ x, resultTop h2 depthA v = some x ∧ r = x.weak))
def CallSound (X : Ctx) (call : CallFn) : Prop := SpecSound X ∧ CallSound1 X call
inductive Leaf (w : World) (W3 : Nat → Prop) (h : Heap) (μ : Mu) : List Nat → Value → AV → Prop where
 | plain (u : Value) (x : AV) (hr : Rep w W3 noMu u x) : Leaf w W3 h μ [] u x
 | nil (a : Option Addr) : Leaf w W3 h μ [] (.slice a 0 0) (.fresh [] 0 0)
 | fresh (b B o off len c sz : Nat) (cs : List AV) (arr : Array Value) (e : TypeId) (hb : h b ≠ none) (hm : μ b = some (.at B o)) (hl : len ≤ c) (harr : w.heap[B]? = some (Go.Obj.cells arr e (0, 0)))
   (h1 : o + off + c * sz ≤ arr.size) (h2 : o + off + cs.length ≤ arr.size) (h3 : sz ≠ 0) (hc : ∀ (i : Nat) (a : AV), cs[i]? = some a → ∃ u, arr[o + off + i]? = some u ∧ Rep w W3 noMu u a ∧ a.isCell = true) :
   Leaf w W3 h μ [b] (.slice (some ⟨B, o + off, none⟩) len c) (.fresh cs len sz)
theorem Leaf.weak {W3 : Nat → Prop} {i : List Nat} {u : Value} {x : AV} (hl : Leaf w W3 h μ i u x) : Leaf w W3 h μ i u x.weak := by
 cases hl with
 | plain _ _ hr => exact .plain u _ hr.weak
 | nil a => exact .nil a
 | fresh b B o off len c sz cs arr e hb hm hl harr h1 h2 h3 hc =>
  refine .fresh b B o off len c sz (weaks cs) arr e hb hm hl harr h1 (by rw [weaks_length]; exact h2) h3 fun i a ha => ?_
  rw [weaks_get] at ha
  obtain ⟨a', ha', rfl⟩ := Option.map_eq_some_iff.1 ha
  obtain ⟨u, hu, hr, hcell⟩ := hc i a' ha'
  exact ⟨u, hu, hr.weak, by rw [isCell_weak]; exact hcell⟩
theorem freshen_live {d : Nat} {a x : AV} {i j : List Nat} (hf : freshen h d a = some (x, i, j)) : (∀ b ∈ i, ∃ cs g, h b = some (.cells cs g false)) ∧ ∀ b ∈ j, h b ≠ none := by
 unfold freshen at hf
 split at hf
 ·split at hf
  ·rename_i cs g hb
   split at hf
   ·obtain ⟨⟨xs, ids⟩, hx, hk⟩ := mp_eq_some.1 hf
    simp only [Prod.mk.injEq] at hk
    obtain ⟨_, rfl, rfl⟩ := hk
    exact ⟨fun b hb' => by simp at hb'; subst hb'; exact ⟨_, _, hb⟩, snaps_live hx⟩
   ·simp at hf
  ·simp at hf
 ·simp only [Option.some.injEq, Prod.mk.injEq] at hf
  obtain ⟨_, rfl, rfl⟩ := hf
  simp
 ·obtain ⟨⟨y, ids⟩, hx, hk⟩ := mp_eq_some.1 hf
  simp only [Prod.mk.injEq] at hk
  obtain ⟨_, rfl, rfl⟩ := hk
  exact ⟨by simp, snap_live _ _ _ _ hx⟩
theorem freshen_sound (hs : Sim X base W μ h w) {d : Nat} {u : Value} {a x : AV} {i j : List Nat} (hf : freshen h d a = some (x, i, j)) (hr : Rep w W μ u a) {W3 : Nat → Prop} (hsub : ∀ B, W3 B → W B)
  (hj : ∀ b ∈ j, ∀ B o, μ b = some (.at B o) → ¬ W3 B) : Leaf w W3 h μ i u x := by
 unfold freshen at hf
 split at hf
 ·rename_i b off len cap sz
  split at hf
  ·rename_i cs g hb
   split at hf
   ·rename_i hle
    obtain ⟨⟨xs, ids⟩, hx, hk⟩ := mp_eq_some.1 hf
    simp only [Prod.mk.injEq] at hk
    obtain ⟨rfl, rfl, rfl⟩ := hk
    cases hr with
    | sl _ _ B o _ _ c _ _ hm hl hkc hsz =>
     obtain ⟨_, _, _, arr, e, harr, hlen, hcell⟩ := hs.block hb hm
     obtain ⟨arr0, e0, f0, harr0, hle0⟩ := hsz
     rw [harr] at harr0
     cases harr0
     obtain ⟨l1, g1⟩ := snaps_get hx
     have hle1 := hle.1
     have hvl : ((cs.drop off).take (len * sz)).length = len * sz := by rw [List.length_take, List.length_drop]; omega
     refine .fresh b B o off len c sz xs arr e (by simp [hb]) hm hl harr hle0 (by omega) hle.2 fun k y hy => ?_
     have hk' : k < ((cs.drop off).take (len * sz)).length := by
      have : k < xs.length := by
       rcases Nat.lt_or_ge k xs.length with hl | hl
       ·exact hl
       ·simp [List.getElem?_eq_none hl] at hy
      omega
     obtain ⟨x', ids', hx', hf', hsub'⟩ := g1 k _ (List.getElem?_eq_getElem hk')
     rw [hx'] at hy; cases hy
     obtain ⟨_, hca⟩ := drop_take_get (List.getElem?_eq_getElem hk')
     obtain ⟨v, hv, hrv, hcv⟩ := hcell _ _ hca
     exact ⟨v, by rw [Nat.add_assoc]; exact hv, snap_sound hs d v _ y ids' hf' hrv W3 hsub fun b hb' => hj b (hsub' b hb'), snap_isCell h d _ y ids' hf' hcv⟩
   ·simp at hf
  ·simp at hf
 ·simp only [Option.some.injEq, Prod.mk.injEq] at hf
  obtain ⟨rfl, rfl, rfl⟩ := hf
  cases hr with
  | ro0 _ a c _ hf => have := hf rfl; subst this; exact .nil a
  | ro _ B o len cap cs full us hB hW hl hf' hc hr hi => have := hf' rfl; subst this; exact .nil _
 ·obtain ⟨⟨y, ids⟩, hx, hk⟩ := mp_eq_some.1 hf
  simp only [Prod.mk.injEq] at hk
  obtain ⟨rfl, rfl, rfl⟩ := hk
  exact .plain u y (snap_sound hs d u a y ids hx hr W3 hsub hj)
inductive Leaves (w : World) (W3 : Nat → Prop) (h : Heap) (μ : Mu) : List Nat → List Value → List AV → Prop where
 | nil : Leaves w W3 h μ [] [] []
 | cons (i i' : List Nat) (u : Value) (us : List Value) (x : AV) (xs : List AV) (h1 : Leaf w W3 h μ i u x) (h2 : Leaves w W3 h μ i' us xs) : Leaves w W3 h μ (i ++ i') (u :: us) (x :: xs)
theorem Leaves.weak {W3 : Nat → Prop} {i : List Nat} {us : List Value} {xs : List AV} (hl : Leaves w W3 h μ i us xs) : Leaves w W3 h μ i us (weaks xs) := by
 induction hl with
 | nil => exact .nil
 | cons i i' u us x xs h1 _ ih => exact .cons i i' u us x.weak (weaks xs) h1.weak ih
theorem freshens_live {d : Nat} : ∀ {as xs : List AV} {i j : List Nat}, freshens h d as = some (xs, i, j) → (∀ b ∈ i, ∃ cs g, h b = some (.cells cs g false)) ∧ ∀ b ∈ j, h b ≠ none := by
 intro as
 induction as with
 | nil => intro xs i j hf; simp [freshens] at hf; obtain ⟨rfl, rfl, rfl⟩ := hf; simp
 | cons a as ih =>
  intro xs i j hf
  obtain ⟨⟨x, i1, j1⟩, h1, hk⟩ := nx_eq_some.1 hf
  obtain ⟨⟨ys, i2, j2⟩, h2, hk⟩ := mp_eq_some.1 hk
  simp only [Prod.mk.injEq] at hk
  obtain ⟨rfl, rfl, rfl⟩ := hk
  obtain ⟨a1, a2⟩ := freshen_live h1
  obtain ⟨b1, b2⟩ := ih h2
  exact ⟨fun b hb => (List.mem_append.1 hb).elim (a1 b) (b1 b), fun b hb => (List.mem_append.1 hb).elim (a2 b) (b2 b)⟩
theorem freshens_sound (hs : Sim X base W μ h w) {d : Nat} {W3 : Nat → Prop} (hsub : ∀ B, W3 B → W B) : ∀ {as xs : List AV} {us : List Value} {i j : List Nat}, freshens h d as = some (xs, i, j) → us.length = as.length →
  (∀ (k : Nat) (v : Value) (a : AV), us[k]? = some v → as[k]? = some a → Rep w W μ v a) → (∀ b ∈ j, ∀ B o, μ b = some (.at B o) → ¬ W3 B) → Leaves w W3 h μ i us xs := by
 intro as
 induction as with
 | nil => intro xs us i j hf hl _ _; simp [freshens] at hf; obtain ⟨rfl, rfl, rfl⟩ := hf; cases us with | nil => exact .nil | cons u us => simp at hl
 | cons a as ih =>
  intro xs us i j hf hl hr hj
  obtain ⟨⟨x, i1, j1⟩, h1, hk⟩ := nx_eq_some.1 hf
  obtain ⟨⟨ys, i2, j2⟩, h2, hk⟩ := mp_eq_some.1 hk
  simp only [Prod.mk.injEq] at hk
  obtain ⟨rfl, rfl, rfl⟩ := hk
  cases us with
  | nil => simp at hl
  | cons u us =>
   exact .cons i1 i2 u us x ys (freshen_sound hs h1 (hr 0 u a (by simp) (by simp)) hsub fun b hb => hj b (List.mem_append.2 (.inl hb)))
    (ih h2 (by simpa using hl) (fun k v a hv ha => hr (k + 1) v a (by simpa using hv) (by simpa using ha)) fun b hb => hj b (List.mem_append.2 (.inr hb)))
theorem Leaves.live {W3 : Nat → Prop} {i : List Nat} {us : List Value} {xs : List AV} (hl : Leaves w W3 h μ i us xs) : ∀ b ∈ i, h b ≠ none := by
 induction hl with
 | nil => simp
 | cons i i' u us x xs h1 _ ih =>
  intro b hb
  rcases List.mem_append.1 hb with hb | hb
  ·cases h1 with
   | plain => simp at hb
   | nil => simp at hb
   | fresh b' B o off len c sz cs arr e hb' => simp at hb; subst hb; exact hb'
  ·exact ih b hb
theorem inst1_freshC (id j : Nat) (cs : List AV) (len : Nat) {sz : Nat} (hz : sz ≠ 0) : inst1 id j (.fresh cs len sz) = if j < 8 then some (AV.sl (id + j) 0 len none sz, [(id + j, some (Obj.cells cs true false))], j + 1) else none := by
 cases sz with
 | zero => exact absurd rfl hz
 | succ n => cases cs <;> cases len <;> rfl
theorem insts_sound {W3 : Nat → Prop} {hc : Heap} {μc : Mu} {basec : Nat} {id : Nat} (hsc : ∀ b b' B o o', hc b ≠ none → hc b' ≠ none → μc b = some (.at B o) → μc b' = some (.at B o') → b = b')
  (hlive : ∀ b B o, hc b ≠ none → μc b = some (.at B o) → basec ≤ B) (hbb : base ≤ basec) :
  ∀ {i : List Nat} {us : List Value} {xs : List AV}, Leaves w W3 hc μc i us xs → nodupB i = true → (∀ b ∈ i, ∀ B o, μc b = some (.at B o) → W3 B) → ∀ (j : Nat) (h : Heap) (μ : Mu) (ys : List AV) (wr : List (Nat × Option Obj)), insts id j xs = some (ys, wr) →
   Sim X base W3 μ h w → (∀ k, j ≤ k → k < 8 → μ (id + k) = none) → (∀ b ∈ i, ∀ B o, μc b = some (.at B o) → ∀ b' o', h b' ≠ none → μ b' ≠ some (.at B o')) →
   ∃ μ', Step base w W3 μ w W3 μ' ∧ Sim X base W3 μ' (applyWr h wr) w ∧ us.length = ys.length ∧ (∀ (k : Nat) (v : Value) (a : AV), us[k]? = some v → ys[k]? = some a → Rep w W3 μ' v a) ∧ ∀ b, μ' b ≠ none → μ b ≠ none ∨ (id ≤ b ∧ b < id + 8) := by
 intro i us xs hl
 induction hl with
 | nil =>
  intro _ _ j h μ ys wr hi hs _ _
  simp [insts] at hi
  obtain ⟨rfl, rfl⟩ := hi
  exact ⟨μ, Step.refl _ _ _ _, hs, rfl, by simp, fun b hb => .inl hb⟩
 | cons i i' u us x xs hleaf hrest ih =>
  intro hnd hW j h μ ys wr hi hs hfree hno
  obtain ⟨⟨y, w1, j'⟩, h1, hk⟩ := nx_eq_some.1 hi
  obtain ⟨⟨ys', w2⟩, h2, hk⟩ := mp_eq_some.1 hk
  simp only [Prod.mk.injEq] at hk
  obtain ⟨rfl, rfl⟩ := hk
  have tl : ∀ (l l' : List Nat), nodupB (l ++ l') = true → nodupB l' = true := by
   intro l
   induction l with
   | nil => intro l' hh; exact hh
   | cons a as iha => intro l' hh; simp only [List.cons_append, nodupB, Bool.and_eq_true] at hh; exact iha l' hh.2
  have same : ∀ (hw1 : w1 = []) (hj' : j' = j) (hy : ∀ μ', Rep w W3 μ' u y), ∃ μ', Step base w W3 μ w W3 μ' ∧ Sim X base W3 μ' (applyWr h (w1 ++ w2)) w ∧ (u :: us).length = (y :: ys').length ∧ (∀ (k : Nat) (v : Value) (a : AV), (u :: us)[k]? = some v → (y :: ys')[k]? = some a → Rep w W3 μ' v a) ∧ ∀ b, μ' b ≠ none → μ b ≠ none ∨ (id ≤ b ∧ b < id + 8) := by
   intro hw1 hj' hy
   subst hw1 hj'
   obtain ⟨μ', p1, p2, p3, p4, p5⟩ := ih (tl _ _ hnd) (fun b hb => hW b (List.mem_append.2 (.inr hb))) j' h μ ys' w2 h2 hs hfree (fun b hb => hno b (List.mem_append.2 (.inr hb)))
   refine ⟨μ', p1, p2, by simp [p3], fun k v a hv ha => ?_, p5⟩
   cases k with
   | zero => simp at hv ha; subst hv; subst ha; exact hy μ'
   | succ k => exact p4 k v a (by simpa using hv) (by simpa using ha)
  cases hleaf with
  | plain _ _ hr =>
   cases hr <;> (simp only [inst1, Option.some.injEq, Prod.mk.injEq] at h1; obtain ⟨rfl, rfl, rfl⟩ := h1; refine same rfl rfl fun μ' => Rep.anyMu ?_ μ')
   ·exact .bool _ _
   ·exact .int _ _ _
   ·exact .str _ _
   ·exact .nilptr _
   ·exact .nilmap _
   ·exact .extm _ _
   ·exact .extp _ _
   ·exact .nilfunc _
   ·exact .niliface _
   ·exact .ro0 _ _ _ _ (by assumption)
   ·exact .ro _ _ _ _ _ _ _ _ (by assumption) (by assumption) (by assumption) (by assumption) (by assumption) (by assumption) (by assumption)
   ·exact .rptr _ _ _ _ _ (by assumption) (by assumption) (by assumption) (by assumption) (by assumption)
   ·exact absurd (show noMu _ = some _ by assumption) (by simp [noMu])
   ·exact absurd (show noMu _ = some _ by assumption) (by simp [noMu])
   ·exact .func _ _ _ _ _ _ (by assumption) (by assumption) (by assumption) (by assumption)
   ·exact .iface _ _ _ _ (by assumption)
   ·exact .agg _ _ _ (by assumption) (by assumption) (by assumption)
   ·exact .tuple _ _ _ (by assumption) (by assumption)
  | nil a =>
   simp only [inst1, Option.some.injEq, Prod.mk.injEq] at h1
   obtain ⟨rfl, rfl, rfl⟩ := h1
   exact same rfl rfl fun μ' => .ro0 μ' a 0 true (fun _ => rfl)
  | fresh b B o off len c sz cs arr e hb hm hle harr g1 g2 g3 hcell =>
    rw [inst1_freshC id j cs len g3] at h1
    have h1' := h1
    split at h1'
    ·rename_i hj8
     simp only [Option.some.injEq, Prod.mk.injEq] at h1'
     obtain ⟨rfl, rfl, rfl⟩ := h1'
     have hWB := hW b (by simp) B o hm
     obtain ⟨q1, q2⟩ := hs.alias (id := id + j) (B := B) (o := o + off) (arr := arr) (e := e) (cs := cs) true (hfree j (Nat.le_refl _) hj8) (Nat.le_trans hbb (hlive b B o hb hm)) hWB harr
      (hno b (by simp) B o hm) g2 (fun k a ha => by obtain ⟨u, hu, hr, hc⟩ := hcell k a ha; exact ⟨u, hu, hr.anyMu μ, hc⟩)
     have hnot : b ∉ i' := by
      simp only [List.cons_append, List.nil_append, nodupB, Bool.and_eq_true, Bool.not_eq_true', List.contains_eq_mem, decide_eq_false_iff_not] at hnd
      exact hnd.1
     obtain ⟨μ', p1, p2, p3, p4, p5⟩ := ih (tl [b] _ hnd) (fun b' hb' => hW b' (by simp [hb'])) (j + 1) _ _ ys' w2 h2 q2
      (fun k hk hk8 => by rw [upd_ne _ _ (by omega)]; exact hfree k (by omega) hk8)
      (fun b' hb' B' o' hm' b2 o2 hb2 hm2 => by
       by_cases hbe : b2 = id + j
       ·subst hbe
        rw [upd_eq] at hm2
        simp only [Option.some.injEq, MB.at.injEq] at hm2
        obtain ⟨rfl, _⟩ := hm2
        have := hsc b' b _ o' o (hrest.live b' hb') hb hm' hm
        subst this
        exact hnot hb'
       ·rw [upd_ne _ _ hbe] at hm2 hb2
        exact hno b' (by simp [hb']) B' o' hm' b2 o2 hb2 hm2)
     refine ⟨μ', q1.trans p1, by simpa [applyWr] using p2, by simp [p3], fun k v a hv ha => ?_, fun b' hb' => ?_⟩
     ·cases k with
      | zero =>
       simp at hv ha
       subst hv; subst ha
       exact .sl _ (id + j) B (o + off) 0 len c none sz (p1.mu _ _ (upd_eq _ _ _)) hle (by simp) ⟨arr, e, (0, 0), harr, by omega⟩
      | succ k => exact p4 k v a (by simpa using hv) (by simpa using ha)
     ·rcases p5 b' hb' with hb'' | hb''
      ·by_cases hbe : b' = id + j
       ·right; omega
       ·rw [upd_ne _ _ hbe] at hb''; exact .inl hb''
      ·exact .inr hb''
    ·simp at h1'
theorem inst_noRef {id : Nat} {r v : AV} {wr : List (Nat × Option Obj)} (hn : r.noRef = true) (hi : instantiate id r = some (v, wr)) : v = r ∧ wr = [] := by
 have one : ∀ (j : Nat) (a y : AV) (w : List (Nat × Option Obj)) (j' : Nat), a.noRef = true → inst1 id j a = some (y, w, j') → y = a ∧ w = [] ∧ j' = j := by
  intro j a y w j' ha h
  cases a <;> first
   | (simp [AV.noRef] at ha; done)
   | (simp only [inst1, Option.some.injEq, Prod.mk.injEq] at h; obtain ⟨rfl, rfl, rfl⟩ := h; exact ⟨rfl, rfl, rfl⟩)
 have many : ∀ (l : List AV) (j : Nat) (ys : List AV) (w : List (Nat × Option Obj)), AV.noRef.go l = true → insts id j l = some (ys, w) → ys = l ∧ w = [] := by
  intro l
  induction l with
  | nil => intro j ys w _ h; simp [insts] at h; exact ⟨h.1, h.2⟩
  | cons a as ih =>
   intro j ys w hl h
   simp only [AV.noRef.go, Bool.and_eq_true] at hl
   obtain ⟨⟨y, w1, j'⟩, h1, hk⟩ := nx_eq_some.1 h
   obtain ⟨⟨ys', w2⟩, h2, hk⟩ := mp_eq_some.1 hk
   simp only [Prod.mk.injEq] at hk
   obtain ⟨rfl, rfl⟩ := hk
   obtain ⟨rfl, rfl, rfl⟩ := one j a y w1 j' hl.1 h1
   obtain ⟨rfl, rfl⟩ := ih _ _ _ hl.2 h2
   exact ⟨rfl, rfl⟩
 cases r <;> first
  | (simp [AV.noRef] at hn; done)
  | (simp only [instantiate] at hi; obtain ⟨⟨ys, w⟩, h1, hk⟩ := mp_eq_some.1 hi; simp only [Prod.mk.injEq] at hk; obtain ⟨rfl, rfl⟩ := hk; obtain ⟨rfl, rfl⟩ := many _ _ _ _ hn h1; exact ⟨rfl, rfl⟩)
  | (simp only [instantiate] at hi; obtain ⟨⟨ys, w, j⟩, h1, hk⟩ := mp_eq_some.1 hi; simp only [Prod.mk.injEq] at hk; obtain ⟨rfl, rfl⟩ := hk; obtain ⟨rfl, rfl, _⟩ := one _ _ _ _ _ hn h1; exact ⟨rfl, rfl⟩)
theorem insts_plain {W3 : Nat → Prop} {id : Nat} : ∀ (l : List AV) (us : List Value) (j : Nat) (ys : List AV) (wr : List (Nat × Option Obj)), us.length = l.length → (∀ (k : Nat) (v : Value) (a : AV), us[k]? = some v → l[k]? = some a → Rep w W3 noMu v a) → insts id j l = some (ys, wr) → ys = l ∧ wr = [] := by
 intro l
 induction l with
 | nil => intro us j ys wr _ _ h; simp [insts] at h; exact ⟨h.1, h.2⟩
 | cons a as ih =>
  intro us j ys wr hl hr h
  cases us with
  | nil => simp at hl
  | cons u us =>
   obtain ⟨⟨y, w1, j'⟩, h1, hk⟩ := nx_eq_some.1 h
   obtain ⟨⟨ys', w2⟩, h2, hk⟩ := mp_eq_some.1 hk
   simp only [Prod.mk.injEq] at hk
   obtain ⟨rfl, rfl⟩ := hk
   have ha := hr 0 u a (by simp) (by simp)
   have hy : y = a ∧ w1 = [] ∧ j' = j := by
    cases ha <;> (simp only [inst1, Option.some.injEq, Prod.mk.injEq] at h1; obtain ⟨rfl, rfl, rfl⟩ := h1; exact ⟨rfl, rfl, rfl⟩)
   obtain ⟨rfl, rfl, rfl⟩ := hy
   obtain ⟨rfl, rfl⟩ := ih us _ _ _ (by simpa using hl) (fun k v a hv ha => hr (k + 1) v a (by simpa using hv) (by simpa using ha)) h2
   exact ⟨rfl, rfl⟩
theorem inst_plain {W3 : Nat → Prop} {id : Nat} {u : Value} {r v : AV} {wr : List (Nat × Option Obj)} (hr : Rep w W3 noMu u r) (hi : instantiate id r = some (v, wr)) : v = r ∧ wr = [] := by
 cases hr with
 | agg _ vs as h1 hel hi' =>
  obtain ⟨⟨ys, w1⟩, h2, hk⟩ := mp_eq_some.1 hi
  simp only [Prod.mk.injEq] at hk
  obtain ⟨rfl, rfl⟩ := hk
  obtain ⟨rfl, rfl⟩ := insts_plain (w := w) (W3 := W3) as vs.toList _ _ _ (by simpa using h1) (fun k v a hv ha => hel k v a (by simpa using hv) ha) h2
  exact ⟨rfl, rfl⟩
 | tuple _ vs as h1 hel =>
  obtain ⟨⟨ys, w1⟩, h2, hk⟩ := mp_eq_some.1 hi
  simp only [Prod.mk.injEq] at hk
  obtain ⟨rfl, rfl⟩ := hk
  obtain ⟨rfl, rfl⟩ := insts_plain (w := w) (W3 := W3) as vs.toList _ _ _ (by simpa using h1) (fun k v a hv ha => hel k v a (by simpa using hv) ha) h2
  exact ⟨rfl, rfl⟩
 | _ => (simp only [instantiate, inst1, mp, Option.some.injEq, Prod.mk.injEq] at hi; exact ⟨hi.1.symm, hi.2.symm⟩)
end
section
variable {X : Ctx} {base : Nat} {W : Nat → Prop} {μ : Mu} {h : Heap} {w : World}
theorem Sim.behind {W1 : Nat → Prop} (hs : Sim X base W1 μ h w) {w' : World} {W2 : Nat → Prop} {μ2 : Mu} (hst : Step w.heap.size w W1 noMu w' W2 μ2) {W3 : Nat → Prop} (h3 : ∀ B, B < w.heap.size → (W3 B ↔ W1 B)) (h4 : ∀ B, W3 B → B < w'.heap.size) :
  Step base w W1 μ w' W3 μ ∧ Sim X base W3 μ h w' := by
 have st : Step base w W1 μ w' W3 μ :=
  {os := hst.os, tape := hst.tape, output := hst.output, size := hst.size
   same := fun B hB _ => hst.same B hB (.inl hB)
   wsub := fun B hB hW => (h3 B hB).1 hW
   wsup := fun B hB hW => (h3 B (Nat.lt_of_lt_of_le hB hs.ble)).2 hW
   shape := fun B arr e f ha => ⟨arr, by rw [hst.same B (heap_lt ha) (.inl (heap_lt ha))]; exact ha, rfl⟩
   mu := fun _ _ h => h, drawn := hst.drawn }
 refine ⟨st, hs.keep st (fun _ _ => rfl) (fun b B o hb hm => ?_) h4⟩
 obtain ⟨B', o', hm', hlt, _⟩ := hs.lives hb
 rw [hm] at hm'
 simp only [Option.some.injEq, MB.at.injEq] at hm'
 obtain ⟨rfl, rfl⟩ := hm'
 exact ⟨hst.same B hlt (.inl hlt), h3 B hlt⟩
theorem freshen_cell {d : Nat} {a x : AV} {i j : List Nat} (hf : freshen h d a = some (x, i, j)) (ha : a.isCell = true) : x.isCell = true ∨ ∃ cs len sz, x = .fresh cs len sz := by
 unfold freshen at hf
 split at hf
 ·split at hf
  ·split at hf
   ·obtain ⟨⟨xs, ids⟩, hx, hk⟩ := mp_eq_some.1 hf
    simp only [Prod.mk.injEq] at hk
    exact .inr ⟨_, _, _, hk.1.symm⟩
   ·simp at hf
  ·simp at hf
 ·simp only [Option.some.injEq, Prod.mk.injEq] at hf
  exact .inr ⟨_, _, _, hf.1.symm⟩
 ·obtain ⟨⟨y, ids⟩, hx, hk⟩ := mp_eq_some.1 hf
  simp only [Prod.mk.injEq] at hk
  obtain ⟨rfl, _, _⟩ := hk
  exact .inl (snap_isCell h d _ _ ids hx ha)
theorem freshen_shape {d : Nat} {a x : AV} {i j : List Nat} (hf : freshen h d a = some (x, i, j)) (h1 : ∀ l, a ≠ .agg l) (h2 : ∀ l, a ≠ .tuple l) : (∀ l, x.weak ≠ .agg l) ∧ ∀ l, x.weak ≠ .tuple l := by
 unfold freshen at hf
 split at hf
 ·split at hf
  ·split at hf
   ·obtain ⟨⟨xs, ids⟩, hx, hk⟩ := mp_eq_some.1 hf
    simp only [Prod.mk.injEq] at hk
    obtain ⟨rfl, _, _⟩ := hk
    exact ⟨by simp [AV.weak], by simp [AV.weak]⟩
   ·simp at hf
  ·simp at hf
 ·simp only [Option.some.injEq, Prod.mk.injEq] at hf
  obtain ⟨rfl, _, _⟩ := hf
  exact ⟨by simp [AV.weak], by simp [AV.weak]⟩
 ·obtain ⟨⟨y, ids⟩, hx, hk⟩ := mp_eq_some.1 hf
  simp only [Prod.mk.injEq] at hk
  obtain ⟨rfl, _, _⟩ := hk
  cases d with
  | zero => simp [snap] at hx
  | succ d =>
   cases a <;> simp only [snap] at hx <;> first
    | (exact absurd rfl (h1 _))
    | (exact absurd rfl (h2 _))
    | (simp at hx; done)
    | (simp only [Option.some.injEq, Prod.mk.injEq] at hx; obtain ⟨rfl, _⟩ := hx; exact ⟨by simp [AV.weak], by simp [AV.weak]⟩)
    | skip
   ·split at hx
    ·split at hx
     ·obtain ⟨z, _, hk⟩ := mp_eq_some.1 hx; simp only [Prod.mk.injEq] at hk; rw [← hk.1]; exact ⟨by simp [AV.weak], by simp [AV.weak]⟩
     ·simp at hx
    ·simp at hx
   ·split at hx
    ·obtain ⟨z, _, hk⟩ := mp_eq_some.1 hx; simp only [Prod.mk.injEq] at hk; rw [← hk.1]; exact ⟨by simp [AV.weak], by simp [AV.weak]⟩
    ·simp at hx
   ·obtain ⟨z, _, hk⟩ := nx_eq_some.1 hx; obtain ⟨z', _, hk⟩ := mp_eq_some.1 hk; simp only [Prod.mk.injEq] at hk; rw [← hk.1]; exact ⟨by simp [AV.weak], by simp [AV.weak]⟩
   ·obtain ⟨z, _, hk⟩ := mp_eq_some.1 hx; simp only [Prod.mk.injEq] at hk; rw [← hk.1]; exact ⟨by simp [AV.weak], by simp [AV.weak]⟩
theorem insts_cells {id : Nat} {d : Nat} : ∀ (as xs : List AV) (i j : List Nat) (k : Nat) (ys : List AV) (wr : List (Nat × Option Obj)), freshens h d as = some (xs, i, j) → (∀ (k : Nat) (a : AV), as[k]? = some a → a.isCell = true) → insts id k (weaks xs) = some (ys, wr) →
  ∀ (k : Nat) (a : AV), ys[k]? = some a → a.isCell = true := by
 intro as
 induction as with
 | nil => intro xs i j k ys wr hf _ hi; simp [freshens] at hf; obtain ⟨rfl, rfl, rfl⟩ := hf; simp [AV.weak.go, insts] at hi; obtain ⟨rfl, rfl⟩ := hi; simp
 | cons a as ih =>
  intro xs i j k ys wr hf ha hi
  obtain ⟨⟨x, i1, j1⟩, h1, hk⟩ := nx_eq_some.1 hf
  obtain ⟨⟨xs', i2, j2⟩, h2, hk⟩ := mp_eq_some.1 hk
  simp only [Prod.mk.injEq] at hk
  obtain ⟨rfl, rfl, rfl⟩ := hk
  obtain ⟨⟨y, w1, k'⟩, h3, hk⟩ := nx_eq_some.1 (show nx (inst1 id k x.weak) _ = _ from hi)
  obtain ⟨⟨ys', w2⟩, h4, hk⟩ := mp_eq_some.1 hk
  simp only [Prod.mk.injEq] at hk
  obtain ⟨rfl, rfl⟩ := hk
  have hrest := ih xs' i2 j2 k' ys' w2 h2 (fun k a h => ha (k + 1) a (by simpa using h)) h4
  have hy : y.isCell = true := by
   rcases freshen_cell h1 (ha 0 a (by simp)) with hc | ⟨cs, len, sz, rfl⟩
   ·cases x <;> first
     | (simp [AV.isCell] at hc; done)
     | (simp only [AV.weak, inst1, Option.some.injEq, Prod.mk.injEq] at h3; obtain ⟨rfl, _, _⟩ := h3; rfl)
   ·simp only [AV.weak] at h3
    by_cases hz : sz = 0
    ·subst hz
     cases hcs : AV.weak.go cs with
     | nil =>
      cases len with
      | zero => rw [hcs] at h3; simp only [inst1, Option.some.injEq, Prod.mk.injEq] at h3; obtain ⟨rfl, _, _⟩ := h3; rfl
      | succ n =>
       rw [hcs] at h3
       have h3' : (if k < 8 then some (AV.sl (id + k) 0 (n + 1) none 0, [(id + k, some (Obj.cells [] true false))], k + 1) else none) = some (y, w1, k') := h3
       split at h3'
       ·simp only [Option.some.injEq, Prod.mk.injEq] at h3'; obtain ⟨rfl, _, _⟩ := h3'; rfl
       ·simp at h3'
     | cons z zs =>
      rw [hcs] at h3
      have h3' : (if k < 8 then some (AV.sl (id + k) 0 len none 0, [(id + k, some (Obj.cells (z :: zs) true false))], k + 1) else none) = some (y, w1, k') := by rw [← h3]; cases len <;> rfl
      split at h3'
      ·simp only [Option.some.injEq, Prod.mk.injEq] at h3'; obtain ⟨rfl, _, _⟩ := h3'; rfl
      ·simp at h3'
    ·rw [inst1_freshC id k _ _ hz] at h3
     split at h3
     ·simp only [Option.some.injEq, Prod.mk.injEq] at h3; obtain ⟨rfl, _, _⟩ := h3; rfl
     ·simp at h3
  intro k a hk
  cases k with
  | zero => simp at hk; subst hk; exact hy
  | succ k => exact hrest k a (by simpa using hk)
theorem pure_out {W1 : Nat → Prop} (hs1 : Sim X base W1 μ h w) {w' : World} {W2 : Nat → Prop} {μ2 : Mu} {h2 : Heap} (hst : Step w.heap.size w W1 noMu w' W2 μ2) (hs2 : Sim X w.heap.size W2 μ2 h2 w') {u : Value} {v : AV} (hr : Rep w' W2 μ2 u v)
  {id : Nat} (hid : ∀ k, k < 8 → μ (id + k) = none) {r v' : AV} {wr : List (Nat × Option Obj)} (hi : instantiate id r = some (v', wr))
  (hmode : (∃ x ids, snap h2 depthA v = some (x, ids) ∧ r = x.weak) ∨ (∃ x, resultTop h2 depthA v = some x ∧ r = x.weak)) :
  ∃ W3 μ', Step base w W1 μ w' W3 μ' ∧ Sim X base W3 μ' (applyWr h wr) w' ∧ Rep w' W3 μ' u v' ∧ ∀ b, μ' b ≠ none → μ b ≠ none ∨ (id ≤ b ∧ b < id + 8) := by
 have hw1 : ∀ B, W1 B → W2 B := fun B hB => hst.wsup B (hs1.wlt B hB) hB
 rcases hmode with ⟨x, ids, hx, rfl⟩ | ⟨x, hx, rfl⟩
 ·have hrx : Rep w' W1 noMu u x := snap_sound hs2 depthA u v x ids hx hr W1 hw1 fun b hb B o hm hB => by
   obtain ⟨B', o', hm', _, hge⟩ := hs2.lives (snap_live _ _ _ _ hx b hb)
   rw [hm] at hm'
   simp only [Option.some.injEq, MB.at.injEq] at hm'
   have := hs1.wlt B hB
   omega
  obtain ⟨rfl, rfl⟩ := inst_plain hrx.weak hi
  obtain ⟨p1, p2⟩ := hs1.behind hst (W3 := W1) (fun _ _ => Iff.rfl) (fun B hB => Nat.lt_of_lt_of_le (hs1.wlt B hB) hst.size)
  exact ⟨W1, μ, p1, p2, hrx.weak.anyMu μ, fun b hb => .inl hb⟩
 ·
  have key : ∀ (as xs : List AV) (us : List Value) (i j : List Nat), freshens h2 depthA as = some (xs, i, j) → nodupB i = true → j.all (fun b => !i.contains b) = true → us.length = as.length →
    (∀ (k : Nat) (v : Value) (a : AV), us[k]? = some v → as[k]? = some a → Rep w' W2 μ2 v a) → ∀ ys wr, insts id 0 (weaks xs) = some (ys, wr) →
    ∃ W3 μ', Step base w W1 μ w' W3 μ' ∧ Sim X base W3 μ' (applyWr h wr) w' ∧ us.length = ys.length ∧ (∀ (k : Nat) (v : Value) (a : AV), us[k]? = some v → ys[k]? = some a → Rep w' W3 μ' v a) ∧ ∀ b, μ' b ≠ none → μ b ≠ none ∨ (id ≤ b ∧ b < id + 8) := by
   intro as xs us i j hf hnd hdj hul hur ys wr hin
   obtain ⟨l1, l2⟩ := freshens_live hf
   let W3 : Nat → Prop := fun B => W1 B ∨ ∃ b ∈ i, ∃ o, μ2 b = some (.at B o)
   have hsub : ∀ B, W3 B → W2 B := by
    rintro B (hB | ⟨b, hb, o, hm⟩)
    ·exact hw1 B hB
    ·obtain ⟨cs, g, hcb⟩ := l1 b hb
     exact (hs2.block hcb hm).2.1 rfl
   have hge : ∀ b, h2 b ≠ none → ∀ B o, μ2 b = some (.at B o) → w.heap.size ≤ B ∧ B < w'.heap.size := by
    intro b hb B o hm
    obtain ⟨B', o', hm', hlt, hge⟩ := hs2.lives hb
    rw [hm] at hm'
    simp only [Option.some.injEq, MB.at.injEq] at hm'
    omega
   have hi1 : ∀ b ∈ i, h2 b ≠ none := fun b hb => by obtain ⟨cs, g, hcb⟩ := l1 b hb; simp [hcb]
   have hleaves := freshens_sound hs2 (W3 := W3) hsub hf hul hur fun b hb B o hm hB => by
    rcases hB with hB | ⟨b', hb', o', hm'⟩
    ·have := hs1.wlt B hB; have := (hge b (l2 b hb) B o hm).1; omega
    ·have := hs2.inj b b' B o o' (l2 b hb) (hi1 b' hb') hm hm'
     subst this
     have := List.all_eq_true.1 hdj b hb
     simp at this
     exact this hb'
   obtain ⟨p1, p2⟩ := hs1.behind hst (W3 := W3) (fun B hB => ⟨fun h => h.elim (fun x => x) fun ⟨b, hb, o, hm⟩ => by have := (hge b (hi1 b hb) B o hm).1; omega, .inl⟩)
    (fun B hB => hB.elim (fun hB => Nat.lt_of_lt_of_le (hs1.wlt B hB) hst.size) fun ⟨b, hb, o, hm⟩ => (hge b (hi1 b hb) B o hm).2)
   obtain ⟨μ', q1, q2, q3, q4, q5⟩ := insts_sound (X := X) (base := base) hs2.inj (fun b B o hb hm => (hge b hb B o hm).1) hs1.ble hleaves.weak hnd (fun b hb B o hm => .inr ⟨b, hb, o, hm⟩) 0 h μ ys wr hin p2 (fun k _ hk => hid k hk)
    (fun b hb B o hm b' o' hb' hm' => by
     obtain ⟨B', o2, hm2, hlt, _⟩ := hs1.lives hb'
     rw [hm'] at hm2
     simp only [Option.some.injEq, MB.at.injEq] at hm2
     have := (hge b (hi1 b hb) B o hm).1
     omega)
   exact ⟨W3, μ', p1.trans q1, q2, q3, q4, q5⟩
  have single : ∀ (hna : ∀ l, v ≠ .agg l) (hnt : ∀ l, v ≠ .tuple l) (hxx : (nx (freshen h2 depthA v) fun (x, i, j) => if j.all (fun b => !i.contains b) then some x else none) = some x), ∃ W3 μ', Step base w W1 μ w' W3 μ' ∧ Sim X base W3 μ' (applyWr h wr) w' ∧ Rep w' W3 μ' u v' ∧ ∀ b, μ' b ≠ none → μ b ≠ none ∨ (id ≤ b ∧ b < id + 8) := by
   intro hna hnt hxx
   obtain ⟨⟨x', i, j⟩, hf, hk⟩ := nx_eq_some.1 hxx
   simp only at hk
   split at hk
   ·rename_i hdj
    simp only [Option.some.injEq] at hk
    subst hk
    have hff : freshens h2 depthA [v] = some ([x'], i, j) := by simp [freshens, hf, nx, mp]
    have hnd : nodupB i = true := by
     unfold freshen at hf
     split at hf
     ·split at hf
      ·split at hf
       ·obtain ⟨⟨xs, ids⟩, hx, hk⟩ := mp_eq_some.1 hf
        simp only [Prod.mk.injEq] at hk
        obtain ⟨_, rfl, _⟩ := hk; rfl
       ·simp at hf
      ·simp at hf
     ·simp only [Option.some.injEq, Prod.mk.injEq] at hf; obtain ⟨_, rfl, _⟩ := hf; rfl
     ·obtain ⟨⟨y, ids⟩, hx, hk⟩ := mp_eq_some.1 hf
      simp only [Prod.mk.injEq] at hk
      obtain ⟨_, rfl, _⟩ := hk; rfl
    have hin : insts id 0 (weaks [x']) = some ([v'], wr) := by
     have hi' : (mp (inst1 id 0 x'.weak) fun (x, w, _) => (x, w)) = some (v', wr) := by
      have hxn := freshen_shape hf hna hnt
      rw [← hi]
      generalize x'.weak = z at hxn
      cases z <;> first
       | rfl
       | (exact absurd rfl (hxn.1 _))
       | (exact absurd rfl (hxn.2 _))
     obtain ⟨⟨y, w1, k⟩, h3, hk⟩ := mp_eq_some.1 hi'
     simp only [Prod.mk.injEq] at hk
     obtain ⟨rfl, rfl⟩ := hk
     simp [insts, AV.weak.go, h3, nx, mp]
    obtain ⟨W3, μ', q1, q2, q3, q4, q5⟩ := key [v] [x'] [u] i j hff hnd hdj rfl (fun k a b ha hb => by cases k with | zero => simp at ha hb; subst ha; subst hb; exact hr | succ k => simp at ha) [v'] wr hin
    exact ⟨W3, μ', q1, q2, q4 0 u v' (by simp) (by simp), q5⟩
   ·simp at hk
  unfold resultTop at hx
  split at hx
  ·rename_i vs
   cases hr with
   | tuple _ us _ h1 hel =>
    obtain ⟨⟨xs, i, j⟩, hf, hk⟩ := nx_eq_some.1 hx
    simp only at hk
    split at hk
    ·rename_i hnd
     simp only [Bool.and_eq_true] at hnd
     simp only [Option.some.injEq] at hk
     subst hk
     obtain ⟨⟨ys, w1⟩, hin, hk⟩ := mp_eq_some.1 (show mp (insts id 0 (weaks xs)) _ = _ from hi)
     simp only [Prod.mk.injEq] at hk
     obtain ⟨rfl, rfl⟩ := hk
     obtain ⟨W3, μ', q1, q2, q3, q4, q5⟩ := key vs xs us.toList i j hf hnd.1 hnd.2 (by simpa using h1) (fun k v a hv ha => hel k v a (by simpa using hv) ha) ys w1 hin
     exact ⟨W3, μ', q1, q2, .tuple _ us ys (by simpa using q3) (fun k v a hv ha => q4 k v a (by simpa using hv) ha), q5⟩
    ·simp at hk
  ·rename_i vs
   cases hr with
   | agg _ us _ h1 hel hcells =>
    obtain ⟨⟨xs, i, j⟩, hf, hk⟩ := nx_eq_some.1 hx
    simp only at hk
    split at hk
    ·rename_i hnd
     simp only [Bool.and_eq_true] at hnd
     simp only [Option.some.injEq] at hk
     subst hk
     obtain ⟨⟨ys, w1⟩, hin, hk⟩ := mp_eq_some.1 (show mp (insts id 0 (weaks xs)) _ = _ from hi)
     simp only [Prod.mk.injEq] at hk
     obtain ⟨rfl, rfl⟩ := hk
     obtain ⟨W3, μ', q1, q2, q3, q4, q5⟩ := key vs xs us.toList i j hf hnd.1 hnd.2 (by simpa using h1) (fun k v a hv ha => hel k v a (by simpa using hv) ha) ys w1 hin
     exact ⟨W3, μ', q1, q2, .agg _ us ys (by simpa using q3) (fun k v a hv ha => q4 k v a (by simpa using hv) ha) (insts_cells vs xs i j 0 ys w1 hf hcells hin), q5⟩
    ·simp at hk
  ·rename_i hnt hna
   exact single (fun l he => hna l he) (fun l he => hnt l he) hx
end
end Go.Proofs.YtenhjccadhlgoaaGreat.Abs
