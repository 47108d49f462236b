/-
  More operations that call no function of the program. No conditions. Slicing, arithmetic, the builtins. No conditions.
-/
import Derived.Test.YtjccikgdebgebaaGreatDoorQ14
set_option linter.unusedSimpArgs false
set_option linter.unusedVariables false
section
namespace Go.Proofs.YtjccikgdebgebaaGreatDoor.Abs
open Go
variable {X : Ctx} {base : Nat} {W : Nat → Prop} {μ : Mu} {h : Heap} {w : World}
/-- The array that a part is filled into. -/
theorem foldl_fill (off : Nat) : ∀ (vs : List Value) (k : Nat) (cs : Array Value), off + k + vs.length ≤ cs.size →
    ((vs.zipIdx k).foldl (fun cs (c, j) => cs.setIfInBounds (off + j) c) cs).toList = cs.toList.take (off + k) ++ vs ++ cs.toList.drop (off + k + vs.length) := by
  intro vs
  induction vs with
  | nil => intro k cs _; simp
  | cons v vs ih =>
    intro k cs hl
    simp only [List.zipIdx_cons, List.foldl_cons]
    rw [ih (k + 1) _ (by simp at hl ⊢; omega)]
    have hlt : off + k < cs.toList.length := by simp at hl ⊢; omega
    simp only [Array.toList_setIfInBounds, List.length_cons]
    rw [show off + (k + 1) = off + k + 1 by omega, List.take_succ_eq_append_getElem (by simpa using hlt), List.take_set, List.drop_set_of_lt (by omega)]
    rw [List.set_eq_of_length_le (by simp; omega)]
    simp only [List.getElem_set_self, List.append_assoc, List.cons_append, List.nil_append]
    rw [show off + k + 1 + vs.length = off + k + (vs.length + 1) by omega]
/-- Cells of an array that read as told. -/
def ArrAre (w : World) (W : Nat → Prop) (μ : Mu) (arr : Array Value) (cs : List AV) : Prop :=
  arr.size = cs.length ∧ ∀ (i : Nat) (a : AV), cs[i]? = some a → ∃ u, arr[i]? = some u ∧ Rep w W μ u a ∧ a.isCell = true
theorem fill_sound (place : Nat → Option (Nat × Nat)) : ∀ (ps : List (Nat × AV)) (qs : List (Nat × Value)) (cs : List AV) (arr : Array Value) (cs' : List AV),
    ArrAre w W μ arr cs → qs.length = ps.length → (∀ (k : Nat) (p : Nat × AV) (q : Nat × Value), ps[k]? = some p → qs[k]? = some q → q.1 = p.1 ∧ Rep w W μ q.2 p.2) →
    fillA place cs ps = some cs' → ∃ arr', Instr.fill place arr qs = some arr' ∧ ArrAre w W μ arr' cs' := by
  intro ps
  induction ps with
  | nil =>
    intro qs cs arr cs' ha hl _ hf
    simp [fillA] at hf
    subst hf
    cases qs with
    | nil => exact ⟨arr, rfl, ha⟩
    | cons q qs => simp at hl
  | cons p ps ih =>
    intro qs cs arr cs' ha hl hel hf
    cases qs with
    | nil => simp at hl
    | cons q qs =>
      obtain ⟨k, v⟩ := q
      obtain ⟨i, a⟩ := p
      obtain ⟨hki, hr⟩ := hel 0 (i, a) (k, v) (by simp) (by simp)
      simp only at hki hr
      subst hki
      simp only [fillA] at hf
      split at hf
      · simp at hf
      · rename_i off size hpl
        split at hf
        · simp at hf
        · rename_i hcond
          simp only [not_or, Decidable.not_not, Nat.not_lt] at hcond
          obtain ⟨hsz, hle, ht⟩ := hcond
          obtain ⟨c1, c2, _⟩ := cells_sound hr (by simpa using ht)
          have hfo := foldl_fill off v.cells.toList 0 arr (by rw [ha.1]; simp; omega)
          simp only [Nat.add_zero] at hfo
          have e1 : (v.cells.zipIdx.foldl (fun cs (c, j) => cs.setIfInBounds (off + j) c) arr).toList = arr.toList.take off ++ v.cells.toList ++ arr.toList.drop (off + v.cells.toList.length) := by
            rw [← hfo, ← Array.foldl_toList, Array.toList_zipIdx]
          have e2 : v.cells.zipIdx.foldl (fun cs (c, j) => cs.setIfInBounds (off + j) c) arr = (arr.toList.take off ++ v.cells.toList ++ arr.toList.drop (off + v.cells.toList.length)).toArray := Array.toList_inj.1 (by rw [e1])
          have hvl : v.cells.toList.length = a.cells.length := by simpa using c1
          have harr' : ArrAre w W μ (arr.toList.take off ++ v.cells.toList ++ arr.toList.drop (off + v.cells.toList.length)).toArray (splice cs off a.cells) := by
            refine ⟨by rw [splice_length (by omega)]; simp [ha.1]; omega, ?_⟩
            have := splice_content (w := w) (W := W) (μ := μ) (o := 0) (off := off) (arr := arr) (cs := cs) (vs := v.cells.toList) (as := a.cells) hvl (by omega) (by rw [ha.1]; omega)
              (fun i a h => by simpa using ha.2 i a h) (fun i c hc => by simpa using c2 i c hc)
            intro i b hb
            simpa using this i b hb
          obtain ⟨arr', h1, h2⟩ := ih qs _ _ cs' harr' (by simpa using hl) (fun k p q hp hq => hel (k + 1) p q (by simpa using hp) (by simpa using hq)) hf
          refine ⟨arr', ?_, h2⟩
          simp only [Instr.fill, hpl]
          rw [if_neg (by simp [ha.1, c1, hsz]; omega), e2]
          exact h1
/-- The parts of a literal. -/
theorem parts_sound {ρ : Operand → Value} {env : Nat → AV} (hρ : ∀ x a, evalA X env x = some a → Rep w W μ (ρ x) a) : ∀ (l : List (Nat × Operand)) (ps : List (Nat × AV)), partsA X env l = some ps →
    l.length = ps.length ∧ ∀ (k : Nat) (p : Nat × AV) (q : Nat × Value), ps[k]? = some p → (l.map fun x => (x.1, ρ x.2))[k]? = some q → q.1 = p.1 ∧ Rep w W μ q.2 p.2 := by
  intro l
  induction l with
  | nil => intro ps hp; simp [partsA] at hp; subst hp; simp
  | cons x xs ih =>
    intro ps hp
    obtain ⟨i, o⟩ := x
    obtain ⟨a, ha, hk⟩ := nx_eq_some.1 hp
    obtain ⟨as, has, hk⟩ := mp_eq_some.1 hk
    subst hk
    obtain ⟨h1, h2⟩ := ih as has
    refine ⟨by simp [h1], fun k p q hp hq => ?_⟩
    cases k with
    | zero => simp at hp hq; subst hp; subst hq; exact ⟨rfl, hρ o a ha⟩
    | succ k => exact h2 k p q (by simpa using hp) (by simpa using hq)
theorem build_sound {ρ : Operand → Value} {env : Nat → AV} (hρ : ∀ x a, evalA X env x = some a → Rep w W μ (ρ x) a) {t : TypeId} {parts : Array (Nat × Operand)} {ps : List (Nat × AV)}
    (hps : partsA X env parts.toList = some ps) {e : Eff} (hev : aBuild X t ps = some e) :
    ∃ d v, e = .loc d ∧ d.wr = [] ∧ (Instr.build t (parts.map fun x => (x.1, ρ x.2))).run X.P w = .ok v w ∧ Rep w W μ v d.val := by
  obtain ⟨hpl, hpr⟩ := parts_sound hρ _ _ hps
  obtain ⟨z, hz, hk⟩ := nx_eq_some.1 hev
  obtain ⟨i, zv, hi, hzv, hr⟩ := zeroA_some hz w W μ
  have fin : ∀ (place : Nat → Option (Nat × Nat)) (cs : List AV), fillA place z.cells ps = some cs → z.tupleB = false → ∃ arr, Instr.fill place zv.cells (parts.map fun x => (x.1, ρ x.2)).toList = some arr ∧ Rep w W μ (.agg arr) (.agg cs) := by
    intro place cs hf ht
    obtain ⟨c1, c2, _⟩ := cells_sound hr ht
    obtain ⟨arr, h1, h2, h3⟩ := fill_sound place ps (parts.map fun x => (x.1, ρ x.2)).toList z.cells zv.cells cs ⟨c1, c2⟩ (by simpa using hpl) (fun k p q hp hq => hpr k p q hp (by simpa using hq)) hf
    refine ⟨arr, h1, .agg _ arr cs h2 (fun i v a hv ha => ?_) fun i a ha => ?_⟩
    · obtain ⟨u, hu, hr, _⟩ := h3 i a ha
      rw [hv] at hu; cases hu; exact hr
    · obtain ⟨u, _, _, hc⟩ := h3 i a ha; exact hc
  split at hk
  · simp at hk
  rename_i ht
  have ht : z.tupleB = false := by simpa using ht
  have hgx : ∀ pl : List (Nat × Nat), (fun x : Nat => pl.toArray[x]?) = fun x : Nat => pl[x]? := fun pl => by funext x; exact List.getElem?_toArray
  split at hk
  · rename_i fields hu
    obtain ⟨pl, hpla, hk⟩ := nx_eq_some.1 hk
    obtain ⟨cs, hf, hk⟩ := nx_eq_some.1 hk
    simp only [valE, Option.some.injEq] at hk
    subst hk
    have hplaces : ∀ (l : List Field) (pl : List (Nat × Nat)), fieldPlaces X l = some pl → (l.mapM fun f => do pure (f.offset, ← sizeOf f.type) : Sem (List (Nat × Nat))).run X.P w = .ok pl w := by
      intro l
      induction l with
      | nil => intro pl hp; simp [fieldPlaces] at hp; subst hp; rfl
      | cons f fs ih =>
        intro pl hp
        obtain ⟨n, hn, hk⟩ := nx_eq_some.1 hp
        obtain ⟨ns, hns, hk⟩ := mp_eq_some.1 hk
        subst hk
        obtain ⟨j, hj, hsz⟩ := sizeA_some hn
        simp only [List.mapM_cons, Sem.run_bind, run_sizeOf' hj, hsz, Result.andThen, Sem.run_pure, ih ns hns]
    have hpl2 := hplaces fields.toList pl hpla
    have hpl3 : (fields.mapM fun f => do pure (f.offset, ← sizeOf f.type) : Sem (Array (Nat × Nat))).run X.P w = .ok pl.toArray w := by
      rw [Array.mapM_eq_mapM_toList]
      simp only [Sem.run_map, hpl2, Result.andThen]
    obtain ⟨arr, h1, h2⟩ := fin _ cs hf ht
    refine ⟨_, _, rfl, rfl, ?_, h2⟩
    simp only [Instr.build, Sem.run_bind, run_zeroValue' hi hzv, run_underlying hu, Result.andThen, hpl3, hgx, h1, Sem.run_pure]
  · rename_i n elem hu
    obtain ⟨size, hsize, hk⟩ := nx_eq_some.1 hk
    obtain ⟨cs, hf, hk⟩ := nx_eq_some.1 hk
    simp only [valE, Option.some.injEq] at hk
    subst hk
    obtain ⟨j, hj, hsz⟩ := sizeA_some hsize
    obtain ⟨arr, h1, h2⟩ := fin _ cs hf ht
    refine ⟨_, _, rfl, rfl, ?_, h2⟩
    simp only [Instr.build, Sem.run_bind, run_zeroValue' hi hzv, run_underlying hu, Result.andThen, run_sizeOf' hj, hsz, h1, Sem.run_pure]
  · simp at hk
/-- Zero cells again and again. -/
theorem replA_get {zc : List AV} {s : Nat} (hz : zc.length = s) (hs : 0 < s) : ∀ (n i : Nat), i < n * s → (replA n zc)[i]? = zc[i % s]? := by
  intro n
  induction n with
  | zero => intro i hi; simp at hi
  | succ n ih =>
    intro i hi
    unfold replA at *
    rw [List.replicate_succ, List.flatten_cons]
    by_cases h : i < s
    · rw [List.getElem?_append_left (by omega), Nat.mod_eq_of_lt h]
    · rw [List.getElem?_append_right (by omega), hz, ih (i - s) (by rw [Nat.succ_mul] at hi; omega)]
      congr 1
      rw [Nat.mod_eq_sub_mod (a := i) (by omega)]
theorem replA_length {zc : List AV} {s : Nat} (hz : zc.length = s) (n : Nat) : (replA n zc).length = n * s := by
  unfold replA
  rw [List.length_flatten, List.map_replicate, List.sum_replicate_nat, hz]
theorem repl_sound {zv : Value} {z : AV} (hr : Rep w W μ zv z) (ht : z.tupleB = false) {s : Nat} (hz : z.cells.length = s) (hs : 0 < s) (n : Nat) :
    ArrAre w W μ ((Array.range (n * s)).map (zv.cells[· % zv.cells.size]!)) (replA n z.cells) := by
  obtain ⟨c1, c2, _⟩ := cells_sound hr ht
  refine ⟨by rw [replA_length hz]; simp, fun i a ha => ?_⟩
  have hi : i < n * s := by
    rcases Nat.lt_or_ge i (n * s) with hl | hl
    · exact hl
    · rw [← replA_length hz n] at hl; simp [List.getElem?_eq_none hl] at ha
  rw [replA_get hz hs n i hi] at ha
  obtain ⟨u, hu, hr', hc⟩ := c2 _ a ha
  refine ⟨u, ?_, hr', hc⟩
  rw [Array.getElem?_map, Array.getElem?_range, if_pos hi, Option.map_some, c1, hz]
  congr 1
  rw [getElem!_def, hu]
theorem new_out (hs : Sim X base W μ h w) {id : Nat} (hid : μ id = none) {t : TypeId} {arr : Array Value} {cs : List AV} (g : Bool) (hl : cs.length ≤ arr.size)
    (hc : ∀ (i : Nat) (a : AV), cs[i]? = some a → ∃ u, arr[i]? = some u ∧ Rep w W μ u a ∧ a.isCell = true) {len cap sz : Nat} (capA : Option Nat) (hcap : ∀ k, capA = some k → cap = k) (hlc : len ≤ cap) (hsz : cap * sz ≤ arr.size) (rd : List Nat) :
    Out X base W μ h w id ⟨.sl id 0 len capA sz, rd, [(id, some (.cells cs g false))]⟩ (.slice (some ⟨w.heap.size, 0, none⟩) len cap) (w.alloc (.cells arr t)) := by
  obtain ⟨s1, s2⟩ := hs.new (id := id) (arr := arr) (e := t) (cs := cs) g hid hl hc
  refine ⟨_, _, s1, s2, ?_, ?_⟩
  · exact .sl _ id w.heap.size 0 0 len cap capA sz (upd_eq _ _ _) hlc hcap ⟨arr, t, (0, 0), by show (w.heap.push _)[w.heap.size]? = _; simp, by omega⟩
  · intro b hb
    by_cases hbe : b = id
    · right; omega
    · rw [upd_ne _ _ hbe] at hb; exact .inl hb
theorem buildSlice_sound (hs : Sim X base W μ h w) {id : Nat} (hid : μ id = none) {ρ : Operand → Value} {env : Nat → AV} (hρ : ∀ x a, evalA X env x = some a → Rep w W μ (ρ x) a) {t : TypeId} {len : Nat} {parts : Array (Nat × Operand)} {ps : List (Nat × AV)}
    (hps : partsA X env parts.toList = some ps) {e : Eff} (hev : aBuildSlice X id t len ps = some e) :
    ∃ d v w', e = .loc d ∧ (Instr.buildSlice t len (parts.map fun x => (x.1, ρ x.2))).run X.P w = .ok v w' ∧ Out X base W μ h w id d v w' := by
  obtain ⟨hpl, hpr⟩ := parts_sound hρ _ _ hps
  unfold aBuildSlice at hev
  split at hev
  · rename_i elem hu
    obtain ⟨size, hsize, hk⟩ := nx_eq_some.1 hev
    split at hk
    · simp at hk
    rename_i hcond
    simp only [not_or, Nat.not_lt] at hcond
    obtain ⟨hbig, hs0⟩ := hcond
    obtain ⟨z, hz, hk⟩ := nx_eq_some.1 hk
    split at hk
    · simp at hk
    rename_i hcond
    simp only [not_or, Decidable.not_not] at hcond
    obtain ⟨hzl, ht⟩ := hcond
    obtain ⟨cs, hf, hk⟩ := nx_eq_some.1 hk
    simp only [Option.some.injEq] at hk
    subst hk
    obtain ⟨i, zv, hi, hzv, hr⟩ := zeroA_some hz w W μ
    obtain ⟨j, hj, hsz⟩ := sizeA_some hsize
    have hrep := repl_sound hr (by simpa using ht) hzl (by omega) len
    obtain ⟨arr, h1, h2, h3⟩ := fill_sound (fun i => some (i * size, size)) ps (parts.map fun x => (x.1, ρ x.2)).toList _ _ cs hrep (by simpa using hpl) (fun k p q hp hq => hpr k p q hp (by simpa using hq)) hf
    have hcl : cs.length = len * size := by
      have hfl : ∀ (ps : List (Nat × AV)) (c c' : List AV), fillA (fun i => some (i * size, size)) c ps = some c' → c'.length = c.length := by
        intro ps
        induction ps with
        | nil => intro c c' h; simp [fillA] at h; rw [h]
        | cons p ps ih =>
          intro c c' h
          obtain ⟨i, a⟩ := p
          simp only [fillA] at h
          split at h
          · simp at h
          · rename_i hcond
            simp only [not_or, Decidable.not_not, Nat.not_lt] at hcond
            rw [ih _ _ h, splice_length (by omega)]
      rw [hfl ps _ cs hf, replA_length hzl]
    refine ⟨_, .slice (some ⟨w.heap.size, 0, none⟩) len len, _, rfl, ?_, new_out hs hid (t := elem) (arr := arr) (cs := cs) false (by omega) h3 (some len) (by simp) (Nat.le_refl _) (by omega) []⟩
    simp only [Instr.buildSlice, Sem.run_bind, run_underlying hu, Result.andThen, run_sizeOf' hj, hsz]
    rw [if_neg (by omega)]
    by_cases h0 : len * size = 0
    · have e0 : (Array.range (len * size)).map (fun x => (#[] : Array Value)[x % (#[] : Array Value).size]!) = (Array.range (len * size)).map (zv.cells[· % zv.cells.size]!) := by rw [h0]; simp
      simp only [if_pos h0, Sem.run_pure, e0, h1, Sem.run_bind, run_newRow', Result.andThen]
    · simp only [if_neg h0, Sem.run_pure, run_zeroValue' hi hzv, h1, Sem.run_bind, run_newRow', Result.andThen]
  · simp at hev
theorem makeSlice_sound (hs : Sim X base W μ h w) {id : Nat} (hid : μ id = none) {t : TypeId} {l c : Value} {la ca : AV} (hl : Rep w W μ l la) (hc : Rep w W μ c ca) {e : Eff} (hev : aMakeSlice X id t la ca = some e) :
    ∃ d v w', e = .loc d ∧ (Instr.makeSlice t l c).run X.P w = .ok v w' ∧ Out X base W μ h w id d v w' := by
  unfold aMakeSlice at hev
  split at hev
  · rename_i elem k1 ln k2 cn hu
    cases hl
    cases hc
    obtain ⟨⟨size, bytes⟩, hsb, hk⟩ := nx_eq_some.1 hev
    obtain ⟨i, hi, hh⟩ := mp_eq_some.1 hsb
    simp only [Prod.mk.injEq] at hh
    obtain ⟨rfl, rfl⟩ := hh
    · obtain ⟨z, hz, hk⟩ := nx_eq_some.1 hk
      split at hk
      · simp at hk
      rename_i hcond
      simp only [not_or, Decidable.not_not] at hcond
      obtain ⟨hzl, hs0, ht⟩ := hcond
      split at hk
      · rename_i hb
        obtain ⟨b1, b2, b3, b4⟩ := hb
        simp only [Option.some.injEq] at hk
        subst hk
        obtain ⟨i', zv, hi', hzv, hr⟩ := zeroA_some hz w W μ
        rw [hi] at hi'
        cases hi'
        have hrep := repl_sound hr (by simpa using ht) hzl (by omega) cn.toNat
        have w1 : IntKind.i64.wrap ln = ln := by simp [IntKind.wrap, IntKind.bits]; omega
        have w2 : IntKind.i64.wrap cn = cn := by simp [IntKind.wrap, IntKind.bits]; omega
        refine ⟨_, .slice (some ⟨w.heap.size, 0, none⟩) ln.toNat cn.toNat, _, rfl, ?_, new_out hs hid (t := elem) (arr := (Array.range (cn.toNat * i.size)).map (zv.cells[· % zv.cells.size]!)) (cs := replA cn.toNat z.cells) false (by rw [hrep.1]; omega) hrep.2 (some cn.toNat) (by simp) (by omega) (by rw [hrep.1, replA_length hzl]; omega) []⟩
        have hbig : ¬ ((i.bytes : Int) * cn > 2 ^ 48) := by omega
        simp only [Instr.makeSlice, Sem.run_bind, run_underlying hu, Result.andThen, asInt, asIntOf, Sem.run_pure, run_typeInfo' hi, w1, w2]
        rw [if_neg (by simp; omega)]
        simp only [Sem.run_bind, run_askRoom, Result.andThen, run_sizeOf' hi, Sem.run_pure]
        by_cases h0 : cn.toNat * i.size = 0
        · have e0 : (Array.range (cn.toNat * i.size)).map (fun x => (#[] : Array Value)[x % (#[] : Array Value).size]!) = (Array.range (cn.toNat * i.size)).map (zv.cells[· % zv.cells.size]!) := by rw [h0]; simp
          simp only [if_pos h0, Sem.run_pure, e0, Sem.run_bind, run_newRow', Result.andThen]
        · simp only [if_neg h0, Sem.run_pure, run_zeroValue' hi hzv, Sem.run_bind, run_newRow', Result.andThen]
      · simp at hk
  · simp at hev
/-- A value, nothing turned. -/
def Pure1 (X : Ctx) (W : Nat → Prop) (μ : Mu) (w : World) (s : Sem Value) (e : Eff) : Prop :=
  ∃ d v, e = .loc d ∧ d.wr = [] ∧ s.run X.P w = .ok v w ∧ Rep w W μ v d.val
theorem Pure1.mk {s : Sem Value} {a : AV} {v : Value} {e : Eff} (he : valE a = some e) (hr : s.run X.P w = .ok v w) (hrep : Rep w W μ v a) : Pure1 X W μ w s e := by
  simp only [valE, Option.some.injEq] at he
  subst he
  exact ⟨_, v, rfl, rfl, hr, hrep⟩
theorem fieldAddr_sound {p : Value} {pa : AV} (hp : Rep w W μ p pa) {s : TypeId} {fld : Nat} {e : Eff} (hev : aFieldAddr X s pa fld = some e) : Pure1 X W μ w (Instr.fieldAt s p fld) e := by
  unfold aFieldAddr at hev
  split at hev
  · rename_i fields hu
    split at hev
    · rename_i f hf
      obtain ⟨n, hn, hk⟩ := nx_eq_some.1 hev
      obtain ⟨i, hi, hsz⟩ := sizeA_some hn
      split at hk
      · simp at hk
      rename_i hn0
      have hrun : ∀ B o, (Instr.fieldAt s (.pointer (some ⟨B, o, none⟩)) fld).run X.P w = .ok (.pointer (some ⟨B, o + f.offset, none⟩)) w := by
        intro B o
        simp only [Instr.fieldAt, Sem.run_bind, run_underlying hu, Result.andThen, hf, Instr.sureAddr, Sem.run_pure, fieldPlace, run_sizeOf' hi, hsz, if_neg hn0, add_none]
      split at hk
      · rename_i b off
        cases hp with
        | ptr _ _ B o _ hm => exact Pure1.mk hk (hrun B (o + off)) (by rw [Nat.add_assoc]; exact .ptr _ b B o _ hm)
      · rename_i cs
        cases hp with
        | rptr _ B o _ us hB hW hc hr hi' =>
          refine Pure1.mk hk (hrun B o) (.rptr _ B (o + f.offset) _ (fun i => us (f.offset + i)) hB hW ?_ ?_ ?_)
          · intro i a ha; rw [List.getElem?_drop] at ha; rw [Nat.add_assoc]; exact hc _ a ha
          · intro i a ha; rw [List.getElem?_drop] at ha; exact hr _ a ha
          · intro i a ha; rw [List.getElem?_drop] at ha; exact hi' _ a ha
      · simp at hk
    · simp at hev
  · simp at hev
theorem part_sound {vs : Array Value} {as : List AV} (hr : Rep w W μ (.agg vs) (.agg as)) {t : TypeId} {off : Nat} {a : AV} (hp : partAV X t as off = some a) :
    ∃ v, (part t vs off).run X.P w = .ok v w ∧ Rep w W μ v a := by
  cases hr with
  | agg _ _ _ h1 hel hi =>
    unfold partAV at hp
    split at hp
    · rename_i n hsh
      simp only [Option.some.injEq] at hp
      subst hp
      obtain ⟨d, i, hd, hi', hagg, hn⟩ := shapeA_some hsh
      refine ⟨.agg (vs.extract off (off + n)), ?_, .agg _ _ _ ?_ ?_ ?_⟩
      · simp only [part, Sem.run_bind, run_isAgg' hd, hagg, Result.andThen, if_true, run_sizeOf' hi', hn, Sem.run_pure]
      · simp [h1]; omega
      · intro k v a hv ha
        obtain ⟨hlt, ha⟩ := drop_take_get ha
        rw [Array.getElem?_extract] at hv
        split at hv
        · exact hel _ v a hv ha
        · simp at hv
      · intro k a ha
        obtain ⟨hlt, ha⟩ := drop_take_get ha
        exact hi _ a ha
    · rename_i n hsh
      obtain ⟨d, i, hd, hi', hagg, hn⟩ := shapeA_some hsh
      have hlt : off < as.length := by
        rcases Nat.lt_or_ge off as.length with hl | hl
        · exact hl
        · simp [List.getElem?_eq_none hl] at hp
      have hv : vs[off]? = some vs[off] := Array.getElem?_eq_getElem (by omega)
      refine ⟨vs[off], ?_, hel off _ a hv hp⟩
      simp only [part, Sem.run_bind, run_isAgg' hd, hagg, Result.andThen, Bool.false_eq_true, if_false, hv, Sem.run_pure]
    · simp at hp
theorem field_sound {x : Value} {xa : AV} (hx : Rep w W μ x xa) {t : TypeId} {fld : Nat} {e : Eff} (hev : aField X t xa fld = some e) : Pure1 X W μ w (Instr.field t x fld) e := by
  unfold aField at hev
  split at hev
  · rename_i fields cs hu
    split at hev
    · rename_i f hf
      obtain ⟨a, ha, hk⟩ := nx_eq_some.1 hev
      cases hx with
      | agg _ vs as h1 hel hi =>
        obtain ⟨v, hv, hr⟩ := part_sound (.agg _ vs cs h1 hel hi) ha
        refine Pure1.mk hk ?_ hr
        simp only [Instr.field, Sem.run_bind, run_underlying hu, Result.andThen, hf, asAgg, Sem.run_pure, hv]
    · simp at hev
  · simp at hev
theorem Rep.ro_drop {v : Value} {B o len cap : Nat} {cs : List AV} {full : Bool} {us : Nat → Value} (hB : B < w.heap.size) (hW : ¬ W B)
      (hc : ∀ (i : Nat) (a : AV), cs[i]? = some a → w.cell? ⟨B, o + i, none⟩ = some (us i)) (hr : ∀ (i : Nat) (a : AV), cs[i]? = some a → Rep w W noMu (us i) a) (hi : ∀ (i : Nat) (a : AV), cs[i]? = some a → a.isCell = true) (n : Nat) (μ : Mu) :
      Rep w W μ (.pointer (some ⟨B, o + n, none⟩)) (.rptr (cs.drop n)) := by
  refine .rptr _ B (o + n) _ (fun i => us (n + i)) hB hW ?_ ?_ ?_
  · intro i a ha; rw [List.getElem?_drop] at ha; rw [Nat.add_assoc]; exact hc _ a ha
  · intro i a ha; rw [List.getElem?_drop] at ha; exact hr _ a ha
  · intro i a ha; rw [List.getElem?_drop] at ha; exact hi _ a ha
theorem indexAddr_sound {x i : Value} {xa ia : AV} (hx : Rep w W μ x xa) (hi : Rep w W μ i ia) {t : TypeId} {e : Eff} (hev : aIndexAddr X t xa ia = some e) : Pure1 X W μ w (Instr.indexAt t x i) e := by
  unfold aIndexAddr at hev
  split at hev
  · rename_i elem k n hu
    obtain ⟨size, hsize, hk⟩ := nx_eq_some.1 hev
    obtain ⟨j, hj, hsz⟩ := sizeA_some hsize
    cases hi
    split at hk
    · simp at hk
    have hrun : ∀ B o len cap, 0 ≤ n ∧ n < (len : Nat) → (Instr.indexAt t (.slice (some ⟨B, o, none⟩) len cap) (.int k n)).run X.P w = .ok (.pointer (some ⟨B, o + n.toNat * size, none⟩)) w := by
      intro B o len cap hb
      simp only [Instr.indexAt, Sem.run_bind, asIntOf, Sem.run_pure, run_underlying hu, Result.andThen]
      rw [if_pos hb]
      simp only [Sem.run_bind, run_sizeOf' hj, hsz, Result.andThen, Sem.run_pure, add_none]
    split at hk
    · rename_i cs len full
      split at hk
      · rename_i hb
        cases hx with
        | ro0 _ a c _ hf => simp at hb; omega
        | ro _ B o _ cap _ _ us hB hW hl hf hc hr hi' => exact Pure1.mk hk (hrun B o len cap hb) (Rep.ro_drop (v := undef) (len := 0) (cap := 0) (full := false) hB hW hc hr hi' _ μ)
      · simp at hk
    · rename_i b off len cap sz
      split at hk
      · rename_i hb
        cases hx with
        | sl _ _ B o _ _ c _ _ hm hl hkc hs' => exact Pure1.mk hk (hrun B (o + off) len c ⟨hb.1, hb.2.1⟩) (by rw [Nat.add_assoc]; exact .ptr _ b B o _ hm)
      · simp at hk
    · simp at hk
  · rename_i len elem k n hu
    obtain ⟨size, hsize, hk⟩ := nx_eq_some.1 hev
    obtain ⟨j, hj, hsz⟩ := sizeA_some hsize
    cases hi
    split at hk
    · simp at hk
    split at hk
    · rename_i hb
      have hrun : ∀ B o, (Instr.indexAt t (.pointer (some ⟨B, o, none⟩)) (.int k n)).run X.P w = .ok (.pointer (some ⟨B, o + n.toNat * size, none⟩)) w := by
        intro B o
        simp only [Instr.indexAt, Sem.run_bind, asIntOf, Sem.run_pure, run_underlying hu, Result.andThen, Instr.sureAddr]
        rw [if_pos hb]
        simp only [Sem.run_bind, run_sizeOf' hj, hsz, Result.andThen, Sem.run_pure, add_none]
      split at hk
      · cases hx with
        | rptr _ B o _ us hB hW hc hr hi' => exact Pure1.mk hk (hrun B o) (Rep.ro_drop (v := undef) (len := 0) (cap := 0) (full := false) hB hW hc hr hi' _ μ)
      · rename_i b off
        cases hx with
        | ptr _ _ B o _ hm => exact Pure1.mk hk (hrun B (o + off)) (by rw [Nat.add_assoc]; exact .ptr _ b B o _ hm)
      · simp at hk
    · simp at hk
  · simp at hev
theorem index_sound {x i : Value} {xa ia : AV} (hx : Rep w W μ x xa) (hi : Rep w W μ i ia) {t : TypeId} {e : Eff} (hev : aIndex X t xa ia = some e) : Pure1 X W μ w (Instr.index t x i) e := by
  unfold aIndex at hev
  split at hev
  · rename_i len elem cs k n hu
    obtain ⟨size, hsize, hk⟩ := nx_eq_some.1 hev
    obtain ⟨j, hj, hsz⟩ := sizeA_some hsize
    cases hi
    split at hk
    · rename_i hb
      obtain ⟨a, ha, hk⟩ := nx_eq_some.1 hk
      cases hx with
      | agg _ vs as h1 hel hi =>
        obtain ⟨v, hv, hr⟩ := part_sound (.agg _ vs cs h1 hel hi) ha
        refine Pure1.mk hk ?_ hr
        simp only [Instr.index, Sem.run_bind, asIntOf, Sem.run_pure, run_underlying hu, Result.andThen]
        rw [if_pos hb]
        simp only [Sem.run_bind, run_sizeOf' hj, hsz, Result.andThen, hv]
    · simp at hk
  · rename_i s k n hu
    cases hi
    cases hx
    split at hev
    · rename_i h0
      split at hev
      · rename_i b hb
        refine Pure1.mk hev ?_ (.int _ _ _)
        simp only [Instr.index, Sem.run_bind, asIntOf, Sem.run_pure, run_underlying hu, Result.andThen, if_pos h0, hb]
      · simp at hev
    · simp at hev
  · simp at hev
end Go.Proofs.YtjccikgdebgebaaGreatDoor.Abs
end
section
namespace Go.Proofs.YtjccikgdebgebaaGreatDoor.Abs
open Go
variable {X : Ctx} {base : Nat} {W : Nat → Prop} {μ : Mu} {h : Heap} {w : World}
theorem bound_sound {x : Option Value} {xa : Option AV} (hx : match xa with | none => x = none | some a => ∃ v, x = some v ∧ Rep w W μ v a) {d l y : Nat} (code : BoundsCode) (hb : boundA xa d = some l) (hle : l ≤ y) (P : Program) :
    (match x with | some v => Instr.sliceBound v y code | none => (pure d : Sem Nat)).run P w = .ok l w := by
  cases xa with
  | none =>
    simp only at hx
    subst hx
    simp only [boundA, Option.some.injEq] at hb
    subst hb
    rfl
  | some a =>
    obtain ⟨v, rfl, hr⟩ := hx
    cases hr <;> simp only [boundA] at hb <;> first | (simp at hb; done) | skip
    rename_i k n
    split at hb
    · rename_i h0
      simp only [Option.some.injEq] at hb
      subst hb
      simp only [Instr.sliceBound, asIntOf, Sem.run_bind, Sem.run_pure, Result.andThen]
      rw [if_pos ⟨h0, by omega⟩]
      rfl
    · simp at hb
/-- The three bounds. -/
def OptRep (w : World) (W : Nat → Prop) (μ : Mu) (x : Option Value) (xa : Option AV) : Prop := match xa with | none => x = none | some a => ∃ v, x = some v ∧ Rep w W μ v a
theorem bounds_sound {lo hi mx : Option Value} {loa hia mxa : Option AV} (h1 : OptRep w W μ lo loa) (h2 : OptRep w W μ hi hia) (h3 : OptRep w W μ mx mxa) {len cap l hh : Nat} (isS : Bool)
    (e1 : boundA loa 0 = some l) (e2 : boundA hia len = some hh) (P : Program) (hle : l ≤ hh) :
    (mxa = none → hh ≤ cap → (Instr.sliceBounds isS len cap lo hi mx).run P w = .ok (l, hh, cap) w) ∧
    (∀ m, mxa ≠ none → hia ≠ none → boundA mxa 0 = some m → m ≤ cap → hh ≤ m → (Instr.sliceBounds isS len cap lo hi mx).run P w = .ok (l, hh, m) w) := by
  constructor
  · intro hm hc
    subst hm
    simp only [OptRep] at h3
    subst h3
    have b1 := bound_sound h1 (y := hh) .sliceB e1 hle P
    cases hi with
    | none =>
      have : hia = none := by
        cases hia with
        | none => rfl
        | some a => obtain ⟨v, hv, _⟩ := h2; simp at hv
      subst this
      simp only [boundA, Option.some.injEq] at e2
      subst e2
      simp only [Instr.sliceBounds, Sem.run_bind, Sem.run_pure, Result.andThen, Option.isSome_none, Bool.false_eq_true, if_false]
      revert b1; cases lo <;> intro b1 <;> simp only at b1 <;> simp only [Sem.run_bind] <;> rw [b1] <;> rfl
    | some v =>
      have b2 := bound_sound h2 (y := cap) (if isS then .sliceAcap else .sliceAlen) e2 hc P
      simp only [Instr.sliceBounds, Sem.run_bind, Sem.run_pure, Result.andThen, Option.isSome_none, Bool.false_eq_true, if_false]
      simp only at b2
      simp only [b2]
      revert b1; cases lo <;> intro b1 <;> simp only at b1 <;> simp only [Sem.run_bind] <;> rw [b1] <;> rfl
  · intro m hmx hhi em hmc hhm
    obtain ⟨ma, rfl⟩ := Option.ne_none_iff_exists'.1 hmx
    obtain ⟨ha, rfl⟩ := Option.ne_none_iff_exists'.1 hhi
    obtain ⟨mv, rfl, hmr⟩ := h3
    obtain ⟨hv, rfl, hhr⟩ := h2
    have b1 := bound_sound h1 (y := hh) .slice3C e1 hle P
    have b2 := bound_sound (w := w) (W := W) (μ := μ) (x := some hv) (xa := some ha) ⟨hv, rfl, hhr⟩ (d := len) (y := m) .slice3B e2 hhm P
    have b3 := bound_sound (w := w) (W := W) (μ := μ) (x := some mv) (xa := some ma) ⟨mv, rfl, hmr⟩ (d := 0) (y := cap) (if isS then .slice3Acap else .slice3Alen) em hmc P
    simp only at b2 b3
    simp only [Instr.sliceBounds, Sem.run_bind, Sem.run_pure, Result.andThen, Option.isSome_some, if_true, b3, b2]
    revert b1; cases lo <;> intro b1 <;> simp only at b1 <;> simp only [Sem.run_bind] <;> rw [b1] <;> rfl
theorem ro_slice {B o : Nat} {cs : List AV} {us : Nat → Value} (hB : B < w.heap.size) (hW : ¬ W B)
    (hc : ∀ (i : Nat) (a : AV), cs[i]? = some a → w.cell? ⟨B, o + i, none⟩ = some (us i)) (hr : ∀ (i : Nat) (a : AV), cs[i]? = some a → Rep w W noMu (us i) a) (hi : ∀ (i : Nat) (a : AV), cs[i]? = some a → a.isCell = true)
    (n k len cap : Nat) (full : Bool) (hl : len ≤ cap) (hf : full = true → cap = len) :
    Rep w W μ (.slice (some ⟨B, o + n, none⟩) len cap) (.ro ((cs.drop n).take k) len full) := by
  refine .ro _ B (o + n) len cap _ full (fun i => us (n + i)) hB hW hl hf ?_ ?_ ?_
  · intro i a ha; obtain ⟨_, ha⟩ := drop_take_get ha; rw [Nat.add_assoc]; exact hc _ a ha
  · intro i a ha; obtain ⟨_, ha⟩ := drop_take_get ha; exact hr _ a ha
  · intro i a ha; obtain ⟨_, ha⟩ := drop_take_get ha; exact hi _ a ha
/-- Slicing, when the bounds are known: what the address is. -/
theorem sliceRo_sound {x : Value} {cs : List AV} {len : Nat} {full : Bool} (hx : Rep w W μ x (.ro cs len full)) {size l hh : Nat} {m : Option Nat} {e : Eff} (hev : aSliceRo cs len full size l hh m = some e) :
    ∃ a cap, x = .slice a len cap ∧ l ≤ hh ∧ hh ≤ len ∧ len ≤ cap ∧ (∀ k, m = some k → hh ≤ k ∧ k ≤ len) ∧ ∀ mm, (match m with | some k => mm = k | none => mm = cap) →
      ∃ d, e = .loc d ∧ d.wr = [] ∧ Rep w W μ (.slice (if mm = l then a else a.map (·.add (l * size))) (hh - l) (mm - l)) d.val := by
  unfold aSliceRo at hev
  split at hev
  · rename_i hb
    have main : ∀ (full' : Bool) (mm cap : Nat) (a : Option Addr), x = .slice a len cap → hh ≤ mm → (full' = true → mm - l = hh - l) → (e = .loc ⟨.ro ((cs.drop (l * size)).take ((hh - l) * size)) (hh - l) full', [], []⟩) →
        ∃ d, e = .loc d ∧ d.wr = [] ∧ Rep w W μ (.slice (if mm = l then a else a.map (·.add (l * size))) (hh - l) (mm - l)) d.val := by
      intro full' mm cap a hxa hmm hf he
      refine ⟨_, he, rfl, ?_⟩
      simp only
      by_cases hml : mm = l
      · have e0 : hh - l = 0 := by omega
        have e1 : mm - l = 0 := by omega
        rw [e0, e1, Nat.zero_mul, List.take_zero]
        exact .ro0 _ _ 0 full' (fun _ => rfl)
      · rw [if_neg hml]
        cases hx with
        | ro0 _ a' c _ hf' =>
          cases hxa
          have e0 : hh - l = 0 := by omega
          rw [e0, Nat.zero_mul, List.take_zero]
          exact .ro0 _ _ _ full' (fun hh => by have := hf hh; omega)
        | ro _ B o _ cap _ _ us hB hW hl hf' hc hr hi =>
          cases hxa
          simp only [Option.map_some, add_none]
          exact ro_slice hB hW hc hr hi _ _ _ _ full' (by omega) (fun h => by have := hf h; omega)
    have hcap : ∃ a cap, x = .slice a len cap ∧ len ≤ cap ∧ (full = true → cap = len) := by
      cases hx with
      | ro0 _ a c _ hf => exact ⟨a, c, rfl, by omega, fun h => hf h⟩
      | ro _ B o _ cap _ _ us hB hW hl hf hc hr hi => exact ⟨_, cap, rfl, hl, hf⟩
    obtain ⟨a, cap, hxa, hlc, hfull⟩ := hcap
    cases m with
    | none =>
      simp only [valE, Option.some.injEq] at hev
      refine ⟨a, cap, hxa, hb.1, hb.2, hlc, by simp, fun mm hmm => ?_⟩
      simp only at hmm
      subst hmm
      refine main _ mm mm a hxa (by omega) (fun hf => ?_) hev.symm
      simp only [Bool.and_eq_true, beq_iff_eq] at hf
      have := hfull hf.1
      omega
    | some k =>
      simp only at hev
      split at hev
      · rename_i hk
        simp only [valE, Option.some.injEq] at hev
        refine ⟨a, cap, hxa, hb.1, hb.2, hlc, fun k' hk' => by cases hk'; exact hk, fun mm hmm => ?_⟩
        simp only at hmm
        subst hmm
        refine main _ mm cap a hxa hk.1 (fun hf => ?_) hev.symm
        simp only [beq_iff_eq] at hf
        omega
      · simp at hev
  · simp at hev
theorem sliceSl_sound {x : Value} {b off len : Nat} {cap : Option Nat} {size : Nat} (hx : Rep w W μ x (.sl b off len cap size)) {l hh : Nat} {m : Option Nat} {e : Eff} (hev : aSliceSl b off len cap size l hh m = some e) :
    ∃ a c, x = .slice a len c ∧ l ≤ hh ∧ hh ≤ c ∧ (∀ k, m = some k → hh ≤ k ∧ k ≤ c) ∧ ∀ mm, (match m with | some k => mm = k | none => mm = c) →
      ∃ d, e = .loc d ∧ d.wr = [] ∧ Rep w W μ (.slice (if mm = l then a else a.map (·.add (l * size))) (hh - l) (mm - l)) d.val := by
  cases hx with
  | sl _ _ B o _ _ c _ _ hm hl hk hsz =>
    obtain ⟨arr, ty, f, harr, hle⟩ := hsz
    have main : ∀ (mm : Nat) (cap' : Option Nat), l ≤ hh → hh ≤ mm → mm ≤ c → l < mm → (∀ k, cap' = some k → mm - l = k) → e = .loc ⟨.sl b (off + l * size) (hh - l) cap' size, [], []⟩ →
        ∃ d, e = .loc d ∧ d.wr = [] ∧ Rep w W μ (.slice (if mm = l then some ⟨B, o + off, none⟩ else (some ⟨B, o + off, none⟩ : Option Addr).map (·.add (l * size))) (hh - l) (mm - l)) d.val := by
      intro mm cap' h1 h2 h3 h4 h5 he
      refine ⟨_, he, rfl, ?_⟩
      rw [if_neg (by omega)]
      simp only [Option.map_some, add_none, Nat.add_assoc]
      refine .sl _ b B o (off + l * size) (hh - l) (mm - l) cap' size hm (by omega) h5 ⟨arr, ty, f, harr, ?_⟩
      have : l * size + (mm - l) * size = mm * size := by rw [← Nat.add_mul]; congr 1; omega
      have : mm * size ≤ c * size := Nat.mul_le_mul_right _ h3
      omega
    have zero : ∀ (mm : Nat) (fl : Bool), l = hh → hh ≤ mm → (fl = true → mm = l) → e = .loc ⟨.ro [] 0 fl, [], []⟩ →
        ∃ d, e = .loc d ∧ d.wr = [] ∧ Rep w W μ (.slice (if mm = l then some ⟨B, o + off, none⟩ else (some ⟨B, o + off, none⟩ : Option Addr).map (·.add (l * size))) (hh - l) (mm - l)) d.val := by
      intro mm fl h1 h2 h3 he
      refine ⟨_, he, rfl, ?_⟩
      rw [show hh - l = 0 by omega]
      exact .ro0 _ _ _ fl (fun h => by have := h3 h; omega)
    unfold aSliceSl at hev
    refine ⟨_, c, rfl, ?_⟩
    split at hev
    · split at hev
      · rename_i hb
        refine ⟨hb.1, by omega, by simp, fun mm hmm => ?_⟩
        simp only at hmm
        subst hmm
        split at hev
        · simp only [valE, Option.some.injEq] at hev
          exact main mm none hb.1 (by omega) (by omega) (by omega) (by simp) hev.symm
        · simp only [valE, Option.some.injEq] at hev
          exact zero mm false (by omega) (by omega) (by simp) hev.symm
      · simp at hev
    · rename_i k
      have hkc := hk k rfl
      split at hev
      · rename_i hb
        refine ⟨hb.1, by omega, by simp, fun mm hmm => ?_⟩
        simp only at hmm
        subst hmm
        split at hev
        · simp only [valE, Option.some.injEq] at hev
          exact main mm _ hb.1 (by omega) (by omega) (by omega) (fun k' hk' => by simp only [Option.some.injEq] at hk'; omega) hev.symm
        · simp only [valE, Option.some.injEq] at hev
          exact zero mm true (by omega) (by omega) (by intro _; omega) hev.symm
      · simp at hev
    · rename_i k
      split at hev
      · rename_i hb
        refine ⟨hb.1, by omega, fun k' hk' => by cases hk'; omega, fun mm hmm => ?_⟩
        simp only at hmm
        subst hmm
        split at hev
        · simp only [valE, Option.some.injEq] at hev
          exact main mm _ hb.1 (by omega) (by omega) (by omega) (fun k' hk' => by simp only [Option.some.injEq] at hk'; omega) hev.symm
        · simp only [valE, Option.some.injEq] at hev
          exact zero mm true (by omega) (by omega) (by intro _; omega) hev.symm
      · simp at hev
    · rename_i k c'
      have hkc := hk c' rfl
      split at hev
      · rename_i hb
        refine ⟨hb.1, by omega, fun k' hk' => by cases hk'; omega, fun mm hmm => ?_⟩
        simp only at hmm
        subst hmm
        split at hev
        · simp only [valE, Option.some.injEq] at hev
          exact main mm _ hb.1 (by omega) (by omega) (by omega) (fun k' hk' => by simp only [Option.some.injEq] at hk'; omega) hev.symm
        · simp only [valE, Option.some.injEq] at hev
          exact zero mm true (by omega) (by omega) (by intro _; omega) hev.symm
      · simp at hev
theorem optRep_none {x : Option Value} (h : OptRep w W μ x none) : x = none := h
theorem boundA_some_ne {a : AV} {m : Nat} (h : boundA (some a) 0 = some m) : ∃ k n, a = .int k n := by
  cases a <;> simp [boundA] at h; exact ⟨_, _, rfl⟩
theorem slice_sound {x : Value} {xa : AV} (hx : Rep w W μ x xa) {lo hi mx : Option Value} {loa hia mxa : Option AV} (h1 : OptRep w W μ lo loa) (h2 : OptRep w W μ hi hia) (h3 : OptRep w W μ mx mxa) {t : TypeId} {e : Eff}
    (hhi : mxa ≠ none → hia ≠ none) (hev : aSlice X t xa loa hia mxa = some e) : Pure1 X W μ w (Instr.sliceAt t x lo hi mx) e := by
  unfold aSlice at hev
  split at hev
  · rename_i elem hu
    obtain ⟨size, hsize, hk⟩ := nx_eq_some.1 hev
    obtain ⟨j, hj, hsz⟩ := sizeA_some hsize
    split at hk
    · simp at hk
    have hrun : ∀ a len cap l hh m, (Instr.sliceBounds true len cap lo hi mx).run X.P w = .ok (l, hh, m) w → (Instr.sliceAt t (.slice a len cap) lo hi mx).run X.P w = .ok (.slice (if m = l then a else a.map (·.add (l * size))) (hh - l) (m - l)) w := by
      intro a len cap l hh m hb
      simp only [Instr.sliceAt, Instr.slice, Sem.run_bind, run_underlying hu, Result.andThen, hb, run_sizeOf' hj, hsz, Sem.run_pure]
    split at hk
    · rename_i cs len full
      obtain ⟨l, hl, hk⟩ := nx_eq_some.1 hk
      obtain ⟨hh, hhh, hk⟩ := nx_eq_some.1 hk
      cases mxa with
      | none =>
        obtain ⟨a, cap, rfl, b1, b2, b3, _, hfin⟩ := sliceRo_sound hx hk
        obtain ⟨d, hd, hwr, hr⟩ := hfin cap rfl
        exact ⟨d, _, hd, hwr, hrun _ _ _ _ _ _ ((bounds_sound h1 h2 h3 (cap := cap) true hl hhh X.P b1).1 rfl (by omega)), hr⟩
      | some v =>
        obtain ⟨m, hm, hk⟩ := nx_eq_some.1 hk
        obtain ⟨a, cap, rfl, b1, b2, b3, b4, hfin⟩ := sliceRo_sound hx hk
        obtain ⟨d, hd, hwr, hr⟩ := hfin m rfl
        have := b4 m rfl
        exact ⟨d, _, hd, hwr, hrun _ _ _ _ _ _ ((bounds_sound h1 h2 h3 (cap := cap) true hl hhh X.P b1).2 m (by simp) (hhi (by simp)) hm (by omega) (by omega)), hr⟩
    · rename_i b off len cap sz
      split at hk
      · simp at hk
      rename_i hszs
      simp only [Decidable.not_not] at hszs
      subst hszs
      obtain ⟨l, hl, hk⟩ := nx_eq_some.1 hk
      obtain ⟨hh, hhh, hk⟩ := nx_eq_some.1 hk
      cases mxa with
      | none =>
        obtain ⟨a, c, rfl, b1, b2, _, hfin⟩ := sliceSl_sound hx hk
        obtain ⟨d, hd, hwr, hr⟩ := hfin c rfl
        exact ⟨d, _, hd, hwr, hrun _ _ _ _ _ _ ((bounds_sound h1 h2 h3 (cap := c) true hl hhh X.P b1).1 rfl (by omega)), hr⟩
      | some v =>
        obtain ⟨m, hm, hk⟩ := nx_eq_some.1 hk
        obtain ⟨a, c, rfl, b1, b2, b4, hfin⟩ := sliceSl_sound hx hk
        obtain ⟨d, hd, hwr, hr⟩ := hfin m rfl
        have := b4 m rfl
        exact ⟨d, _, hd, hwr, hrun _ _ _ _ _ _ ((bounds_sound h1 h2 h3 (cap := c) true hl hhh X.P b1).2 m (by simp) (hhi (by simp)) hm (by omega) (by omega)), hr⟩
    · simp at hk
  · rename_i n elem hu
    obtain ⟨size, hsize, hk⟩ := nx_eq_some.1 hev
    obtain ⟨j, hj, hsz⟩ := sizeA_some hsize
    split at hk
    · simp at hk
    split at hk
    · simp at hk
    rename_i hmx
    have hmx : mxa = none := by cases mxa <;> simp at hmx ⊢
    subst hmx
    obtain ⟨l, hl, hk⟩ := nx_eq_some.1 hk
    obtain ⟨hh, hhh, hk⟩ := nx_eq_some.1 hk
    have hrun : ∀ a, l ≤ hh → hh ≤ n → (Instr.sliceAt t (.pointer (some a)) lo hi mx).run X.P w = .ok (.slice (if n = l then some a else (some a : Option Addr).map (·.add (l * size))) (hh - l) (n - l)) w := by
      intro a hlh hhn
      simp only [Instr.sliceAt, Sem.run_bind, run_underlying hu, Result.andThen, Instr.sureAddr, Sem.run_pure, (bounds_sound h1 h2 h3 (cap := n) false hl hhh X.P hlh).1 rfl hhn, run_sizeOf' hj, hsz]
      by_cases hnl : n = l <;> simp [hnl]
    cases hx with
    | rptr _ B o cs us hB hW hc hr hi' =>
      simp only at hk
      split at hk
      · have hro : Rep w W μ (.slice (some ⟨B, o, none⟩) n n) (.ro (cs.take (n * size)) n true) := by
          have := ro_slice (μ := μ) hB hW hc hr hi' 0 (n * size) n n true (Nat.le_refl _) (fun _ => rfl)
          simpa using this
        obtain ⟨a, cap, hxa, b1, b2, b3, _, hfin⟩ := sliceRo_sound hro hk
        cases hxa
        obtain ⟨d, hd, hwr, hr'⟩ := hfin n rfl
        exact ⟨d, _, hd, hwr, hrun _ b1 b2, hr'⟩
      · simp at hk
    | _ => simp at hk
  · rename_i hu
    split at hev
    · simp at hev
    rename_i hmx
    have hmx : mxa = none := by cases mxa <;> simp at hmx ⊢
    subst hmx
    have h3' := optRep_none h3
    subst h3'
    split at hev
    · rename_i s
      cases hx
      obtain ⟨l, hl, hk⟩ := nx_eq_some.1 hev
      obtain ⟨hh, hhh, hk⟩ := nx_eq_some.1 hk
      split at hk
      · rename_i hb
        refine Pure1.mk hk ?_ (.str _ _)
        simp only [Instr.sliceAt, Instr.slice, Sem.run_bind, run_underlying hu, Result.andThen, Option.isSome_none, Bool.false_eq_true, if_false, (bounds_sound h1 h2 (mx := none) (mxa := none) rfl (cap := s.size) false hl hhh X.P hb.1).1 rfl hb.2, Sem.run_pure]
      · simp at hk
    · simp at hev
  · simp at hev
end Go.Proofs.YtjccikgdebgebaaGreatDoor.Abs
end
