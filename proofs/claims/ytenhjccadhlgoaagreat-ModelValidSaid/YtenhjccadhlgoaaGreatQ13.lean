/-
  Slicing, arithmetic, the builtins. No conditions.
-/
import Derived.Test.YtenhjccadhlgoaaGreatQ12
set_option linter.unusedSimpArgs false
set_option linter.unusedVariables false
set_option maxRecDepth 100000
set_option maxHeartbeats 16000000
namespace Go.Proofs.YtenhjccadhlgoaaGreat.Abs
open Go
section
variable {X : Ctx} {base : Nat} {W : Nat → Prop} {μ : Mu} {h : Heap} {w : World}
theorem bound_sound {x : Option Value} {xa : Option AV} (hx : match xa with | none => x = none | some a => ∃ v, x = some v ∧ Rep w W μ v a) {d l y : Nat} (code : BoundsCode) (hb : boundA xa d = some l) (hle : l ≤ y) (P : Program) :
  (match x with | some v => Instr.sliceBound v y code | none => (pure d : Sem Nat)).run P w = .ok l w := by
 cases xa with
 | none =>
  simp only at hx
  subst hx
  simp only [boundA, Option.some.injEq] at hb
  subst hb
  rfl
 | some a =>
  obtain ⟨v, rfl, hr⟩ := hx
  cases hr <;> simp only [boundA] at hb <;> first | (simp at hb; done) | skip
  rename_i k n
  split at hb
  ·rename_i h0
   simp only [Option.some.injEq] at hb
   subst hb
   simp only [Instr.sliceBound, asIntOf, Sem.run_bind, Sem.run_pure, Result.andThen]
   rw [if_pos ⟨h0, by omega⟩]
   rfl
  ·simp at hb
def OptRep (w : World) (W : Nat → Prop) (μ : Mu) (x : Option Value) (xa : Option AV) : Prop := match xa with | none => x = none | some a => ∃ v, x = some v ∧ Rep w W μ v a
theorem bounds_sound {lo hi mx : Option Value} {loa hia mxa : Option AV} (h1 : OptRep w W μ lo loa) (h2 : OptRep w W μ hi hia) (h3 : OptRep w W μ mx mxa) {len cap l hh : Nat} (isS : Bool)
  (e1 : boundA loa 0 = some l) (e2 : boundA hia len = some hh) (P : Program) (hle : l ≤ hh) :
  (mxa = none → hh ≤ cap → (Instr.sliceBounds isS len cap lo hi mx).run P w = .ok (l, hh, cap) w) ∧
  (∀ m, mxa ≠ none → hia ≠ none → boundA mxa 0 = some m → m ≤ cap → hh ≤ m → (Instr.sliceBounds isS len cap lo hi mx).run P w = .ok (l, hh, m) w) := by
 constructor
 ·intro hm hc
  subst hm
  simp only [OptRep] at h3
  subst h3
  have b1 := bound_sound h1 (y := hh) .sliceB e1 hle P
  cases hi with
  | none =>
   have : hia = none := by
    cases hia with
    | none => rfl
    | some a => obtain ⟨v, hv, _⟩ := h2; simp at hv
   subst this
   simp only [boundA, Option.some.injEq] at e2
   subst e2
   simp only [Instr.sliceBounds, Sem.run_bind, Sem.run_pure, Result.andThen, Option.isSome_none, Bool.false_eq_true, if_false]
   revert b1; cases lo <;> intro b1 <;> simp only at b1 <;> simp only [Sem.run_bind] <;> rw [b1] <;> rfl
  | some v =>
   have b2 := bound_sound h2 (y := cap) (if isS then .sliceAcap else .sliceAlen) e2 hc P
   simp only [Instr.sliceBounds, Sem.run_bind, Sem.run_pure, Result.andThen, Option.isSome_none, Bool.false_eq_true, if_false]
   simp only at b2
   simp only [b2]
   revert b1; cases lo <;> intro b1 <;> simp only at b1 <;> simp only [Sem.run_bind] <;> rw [b1] <;> rfl
 ·intro m hmx hhi em hmc hhm
  obtain ⟨ma, rfl⟩ := Option.ne_none_iff_exists'.1 hmx
  obtain ⟨ha, rfl⟩ := Option.ne_none_iff_exists'.1 hhi
  obtain ⟨mv, rfl, hmr⟩ := h3
  obtain ⟨hv, rfl, hhr⟩ := h2
  have b1 := bound_sound h1 (y := hh) .slice3C e1 hle P
  have b2 := bound_sound (w := w) (W := W) (μ := μ) (x := some hv) (xa := some ha) ⟨hv, rfl, hhr⟩ (d := len) (y := m) .slice3B e2 hhm P
  have b3 := bound_sound (w := w) (W := W) (μ := μ) (x := some mv) (xa := some ma) ⟨mv, rfl, hmr⟩ (d := 0) (y := cap) (if isS then .slice3Acap else .slice3Alen) em hmc P
  simp only at b2 b3
  simp only [Instr.sliceBounds, Sem.run_bind, Sem.run_pure, Result.andThen, Option.isSome_some, if_true, b3, b2]
  revert b1; cases lo <;> intro b1 <;> simp only at b1 <;> simp only [Sem.run_bind] <;> rw [b1] <;> rfl
theorem ro_slice {B o : Nat} {cs : List AV} {us : Nat → Value} (hB : B < w.heap.size) (hW : ¬ W B)
  (hc : ∀ (i : Nat) (a : AV), cs[i]? = some a → w.cell? ⟨B, o + i, none⟩ = some (us i)) (hr : ∀ (i : Nat) (a : AV), cs[i]? = some a → Rep w W noMu (us i) a) (hi : ∀ (i : Nat) (a : AV), cs[i]? = some a → a.isCell = true)
  (n k len cap : Nat) (full : Bool) (hl : len ≤ cap) (hf : full = true → cap = len) :
  Rep w W μ (.slice (some ⟨B, o + n, none⟩) len cap) (.ro ((cs.drop n).take k) len full) := by
 refine .ro _ B (o + n) len cap _ full (fun i => us (n + i)) hB hW hl hf ?_ ?_ ?_
 ·intro i a ha; obtain ⟨_, ha⟩ := drop_take_get ha; rw [Nat.add_assoc]; exact hc _ a ha
 ·intro i a ha; obtain ⟨_, ha⟩ := drop_take_get ha; exact hr _ a ha
 ·intro i a ha; obtain ⟨_, ha⟩ := drop_take_get ha; exact hi _ a ha
theorem sliceRo_sound {x : Value} {cs : List AV} {len : Nat} {full : Bool} (hx : Rep w W μ x (.ro cs len full)) {size l hh : Nat} {m : Option Nat} {e : Eff} (hev : aSliceRo cs len full size l hh m = some e) :
  ∃ a cap, x = .slice a len cap ∧ l ≤ hh ∧ hh ≤ len ∧ len ≤ cap ∧ (∀ k, m = some k → hh ≤ k ∧ k ≤ len) ∧ ∀ mm, (match m with | some k => mm = k | none => mm = cap) →
   ∃ d, e = .loc d ∧ d.wr = [] ∧ Rep w W μ (.slice (if mm = l then a else a.map (·.add (l * size))) (hh - l) (mm - l)) d.val := by
 unfold aSliceRo at hev
 split at hev
 ·rename_i hb
  have main : ∀ (full' : Bool) (mm cap : Nat) (a : Option Addr), x = .slice a len cap → hh ≤ mm → (full' = true → mm - l = hh - l) → (e = .loc ⟨.ro ((cs.drop (l * size)).take ((hh - l) * size)) (hh - l) full', [], []⟩) →
    ∃ d, e = .loc d ∧ d.wr = [] ∧ Rep w W μ (.slice (if mm = l then a else a.map (·.add (l * size))) (hh - l) (mm - l)) d.val := by
   intro full' mm cap a hxa hmm hf he
   refine ⟨_, he, rfl, ?_⟩
   simp only
   by_cases hml : mm = l
   ·have e0 : hh - l = 0 := by omega
    have e1 : mm - l = 0 := by omega
    rw [e0, e1, Nat.zero_mul, List.take_zero]
    exact .ro0 _ _ 0 full' (fun _ => rfl)
   ·rw [if_neg hml]
    cases hx with
    | ro0 _ a' c _ hf' =>
     cases hxa
     have e0 : hh - l = 0 := by omega
     rw [e0, Nat.zero_mul, List.take_zero]
     exact .ro0 _ _ _ full' (fun hh => by have := hf hh; omega)
    | ro _ B o _ cap _ _ us hB hW hl hf' hc hr hi =>
     cases hxa
     simp only [Option.map_some, add_none]
     exact ro_slice hB hW hc hr hi _ _ _ _ full' (by omega) (fun h => by have := hf h; omega)
  have hcap : ∃ a cap, x = .slice a len cap ∧ len ≤ cap ∧ (full = true → cap = len) := by
   cases hx with
   | ro0 _ a c _ hf => exact ⟨a, c, rfl, by omega, fun h => hf h⟩
   | ro _ B o _ cap _ _ us hB hW hl hf hc hr hi => exact ⟨_, cap, rfl, hl, hf⟩
  obtain ⟨a, cap, hxa, hlc, hfull⟩ := hcap
  cases m with
  | none =>
   simp only [valE, Option.some.injEq] at hev
   refine ⟨a, cap, hxa, hb.1, hb.2, hlc, by simp, fun mm hmm => ?_⟩
   simp only at hmm
   subst hmm
   refine main _ mm mm a hxa (by omega) (fun hf => ?_) hev.symm
   simp only [Bool.and_eq_true, beq_iff_eq] at hf
   have := hfull hf.1
   omega
  | some k =>
   simp only at hev
   split at hev
   ·rename_i hk
    simp only [valE, Option.some.injEq] at hev
    refine ⟨a, cap, hxa, hb.1, hb.2, hlc, fun k' hk' => by cases hk'; exact hk, fun mm hmm => ?_⟩
    simp only at hmm
    subst hmm
    refine main _ mm cap a hxa hk.1 (fun hf => ?_) hev.symm
    simp only [beq_iff_eq] at hf
    omega
   ·simp at hev
 ·simp at hev
theorem sliceSl_sound {x : Value} {b off len : Nat} {cap : Option Nat} {size : Nat} (hx : Rep w W μ x (.sl b off len cap size)) {l hh : Nat} {m : Option Nat} {e : Eff} (hev : aSliceSl b off len cap size l hh m = some e) :
  ∃ a c, x = .slice a len c ∧ l ≤ hh ∧ hh ≤ c ∧ (∀ k, m = some k → hh ≤ k ∧ k ≤ c) ∧ ∀ mm, (match m with | some k => mm = k | none => mm = c) →
   ∃ d, e = .loc d ∧ d.wr = [] ∧ Rep w W μ (.slice (if mm = l then a else a.map (·.add (l * size))) (hh - l) (mm - l)) d.val := by
 cases hx with
 | sl _ _ B o _ _ c _ _ hm hl hk hsz =>
  obtain ⟨arr, ty, f, harr, hle⟩ := hsz
  have main : ∀ (mm : Nat) (cap' : Option Nat), l ≤ hh → hh ≤ mm → mm ≤ c → l < mm → (∀ k, cap' = some k → mm - l = k) → e = .loc ⟨.sl b (off + l * size) (hh - l) cap' size, [], []⟩ →
    ∃ d, e = .loc d ∧ d.wr = [] ∧ Rep w W μ (.slice (if mm = l then some ⟨B, o + off, none⟩ else (some ⟨B, o + off, none⟩ : Option Addr).map (·.add (l * size))) (hh - l) (mm - l)) d.val := by
   intro mm cap' h1 h2 h3 h4 h5 he
   refine ⟨_, he, rfl, ?_⟩
   rw [if_neg (by omega)]
   simp only [Option.map_some, add_none, Nat.add_assoc]
   refine .sl _ b B o (off + l * size) (hh - l) (mm - l) cap' size hm (by omega) h5 ⟨arr, ty, f, harr, ?_⟩
   have : l * size + (mm - l) * size = mm * size := by rw [← Nat.add_mul]; congr 1; omega
   have : mm * size ≤ c * size := Nat.mul_le_mul_right _ h3
   omega
  have zero : ∀ (mm : Nat) (fl : Bool), l = hh → hh ≤ mm → (fl = true → mm = l) → e = .loc ⟨.ro [] 0 fl, [], []⟩ →
    ∃ d, e = .loc d ∧ d.wr = [] ∧ Rep w W μ (.slice (if mm = l then some ⟨B, o + off, none⟩ else (some ⟨B, o + off, none⟩ : Option Addr).map (·.add (l * size))) (hh - l) (mm - l)) d.val := by
   intro mm fl h1 h2 h3 he
   refine ⟨_, he, rfl, ?_⟩
   rw [show hh - l = 0 by omega]
   exact .ro0 _ _ _ fl (fun h => by have := h3 h; omega)
  unfold aSliceSl at hev
  refine ⟨_, c, rfl, ?_⟩
  split at hev
  ·split at hev
   ·rename_i hb
    refine ⟨hb.1, by omega, by simp, fun mm hmm => ?_⟩
    simp only at hmm
    subst hmm
    split at hev
    ·simp only [valE, Option.some.injEq] at hev
     exact main mm none hb.1 (by omega) (by omega) (by omega) (by simp) hev.symm
    ·simp only [valE, Option.some.injEq] at hev
     exact zero mm false (by omega) (by omega) (by simp) hev.symm
   ·simp at hev
  ·rename_i k
   have hkc := hk k rfl
   split at hev
   ·rename_i hb
    refine ⟨hb.1, by omega, by simp, fun mm hmm => ?_⟩
    simp only at hmm
    subst hmm
    split at hev
    ·simp only [valE, Option.some.injEq] at hev
     exact main mm _ hb.1 (by omega) (by omega) (by omega) (fun k' hk' => by simp only [Option.some.injEq] at hk'; omega) hev.symm
    ·simp only [valE, Option.some.injEq] at hev
     exact zero mm true (by omega) (by omega) (by intro _; omega) hev.symm
   ·simp at hev
  ·rename_i k
   split at hev
   ·rename_i hb
    refine ⟨hb.1, by omega, fun k' hk' => by cases hk'; omega, fun mm hmm => ?_⟩
    simp only at hmm
    subst hmm
    split at hev
    ·simp only [valE, Option.some.injEq] at hev
     exact main mm _ hb.1 (by omega) (by omega) (by omega) (fun k' hk' => by simp only [Option.some.injEq] at hk'; omega) hev.symm
    ·simp only [valE, Option.some.injEq] at hev
     exact zero mm true (by omega) (by omega) (by intro _; omega) hev.symm
   ·simp at hev
  ·rename_i k c'
   have hkc := hk c' rfl
   split at hev
   ·rename_i hb
    refine ⟨hb.1, by omega, fun k' hk' => by cases hk'; omega, fun mm hmm => ?_⟩
    simp only at hmm
    subst hmm
    split at hev
    ·simp only [valE, Option.some.injEq] at hev
     exact main mm _ hb.1 (by omega) (by omega) (by omega) (fun k' hk' => by simp only [Option.some.injEq] at hk'; omega) hev.symm
    ·simp only [valE, Option.some.injEq] at hev
     exact zero mm true (by omega) (by omega) (by intro _; omega) hev.symm
   ·simp at hev
theorem optRep_none {x : Option Value} (h : OptRep w W μ x none) : x = none := h
theorem slice_sound {x : Value} {xa : AV} (hx : Rep w W μ x xa) {lo hi mx : Option Value} {loa hia mxa : Option AV} (h1 : OptRep w W μ lo loa) (h2 : OptRep w W μ hi hia) (h3 : OptRep w W μ mx mxa) {t : TypeId} {e : Eff}
  (hhi : mxa ≠ none → hia ≠ none) (hev : aSlice X t xa loa hia mxa = some e) : Pure1 X W μ w (Instr.sliceAt t x lo hi mx) e := by
 unfold aSlice at hev
 split at hev
 ·rename_i elem hu
  obtain ⟨size, hsize, hk⟩ := nx_eq_some.1 hev
  obtain ⟨j, hj, hsz⟩ := sizeA_some hsize
  split at hk
  ·simp at hk
  have hrun : ∀ a len cap l hh m, (Instr.sliceBounds true len cap lo hi mx).run X.P w = .ok (l, hh, m) w → (Instr.sliceAt t (.slice a len cap) lo hi mx).run X.P w = .ok (.slice (if m = l then a else a.map (·.add (l * size))) (hh - l) (m - l)) w := by
   intro a len cap l hh m hb
   simp only [Instr.sliceAt, Instr.slice, Sem.run_bind, run_underlying hu, Result.andThen, hb, run_sizeOf' hj, hsz, Sem.run_pure]
  split at hk
  ·rename_i cs len full
   obtain ⟨l, hl, hk⟩ := nx_eq_some.1 hk
   obtain ⟨hh, hhh, hk⟩ := nx_eq_some.1 hk
   cases mxa with
   | none =>
    obtain ⟨a, cap, rfl, b1, b2, b3, _, hfin⟩ := sliceRo_sound hx hk
    obtain ⟨d, hd, hwr, hr⟩ := hfin cap rfl
    exact ⟨d, _, hd, hwr, hrun _ _ _ _ _ _ ((bounds_sound h1 h2 h3 (cap := cap) true hl hhh X.P b1).1 rfl (by omega)), hr⟩
   | some v =>
    obtain ⟨m, hm, hk⟩ := nx_eq_some.1 hk
    obtain ⟨a, cap, rfl, b1, b2, b3, b4, hfin⟩ := sliceRo_sound hx hk
    obtain ⟨d, hd, hwr, hr⟩ := hfin m rfl
    have := b4 m rfl
    exact ⟨d, _, hd, hwr, hrun _ _ _ _ _ _ ((bounds_sound h1 h2 h3 (cap := cap) true hl hhh X.P b1).2 m (by simp) (hhi (by simp)) hm (by omega) (by omega)), hr⟩
  ·rename_i b off len cap sz
   split at hk
   ·simp at hk
   rename_i hszs
   simp only [Decidable.not_not] at hszs
   subst hszs
   obtain ⟨l, hl, hk⟩ := nx_eq_some.1 hk
   obtain ⟨hh, hhh, hk⟩ := nx_eq_some.1 hk
   cases mxa with
   | none =>
    obtain ⟨a, c, rfl, b1, b2, _, hfin⟩ := sliceSl_sound hx hk
    obtain ⟨d, hd, hwr, hr⟩ := hfin c rfl
    exact ⟨d, _, hd, hwr, hrun _ _ _ _ _ _ ((bounds_sound h1 h2 h3 (cap := c) true hl hhh X.P b1).1 rfl (by omega)), hr⟩
   | some v =>
    obtain ⟨m, hm, hk⟩ := nx_eq_some.1 hk
    obtain ⟨a, c, rfl, b1, b2, b4, hfin⟩ := sliceSl_sound hx hk
    obtain ⟨d, hd, hwr, hr⟩ := hfin m rfl
    have := b4 m rfl
    exact ⟨d, _, hd, hwr, hrun _ _ _ _ _ _ ((bounds_sound h1 h2 h3 (cap := c) true hl hhh X.P b1).2 m (by simp) (hhi (by simp)) hm (by omega) (by omega)), hr⟩
  ·simp at hk
 ·rename_i n elem hu
  obtain ⟨size, hsize, hk⟩ := nx_eq_some.1 hev
  obtain ⟨j, hj, hsz⟩ := sizeA_some hsize
  split at hk
  ·simp at hk
  split at hk
  ·simp at hk
  rename_i hmx
  have hmx : mxa = none := by cases mxa <;> simp at hmx ⊢
  subst hmx
  obtain ⟨l, hl, hk⟩ := nx_eq_some.1 hk
  obtain ⟨hh, hhh, hk⟩ := nx_eq_some.1 hk
  have hrun : ∀ a, l ≤ hh → hh ≤ n → (Instr.sliceAt t (.pointer (some a)) lo hi mx).run X.P w = .ok (.slice (if n = l then some a else (some a : Option Addr).map (·.add (l * size))) (hh - l) (n - l)) w := by
   intro a hlh hhn
   simp only [Instr.sliceAt, Sem.run_bind, run_underlying hu, Result.andThen, Instr.sureAddr, Sem.run_pure, (bounds_sound h1 h2 h3 (cap := n) false hl hhh X.P hlh).1 rfl hhn, run_sizeOf' hj, hsz]
   by_cases hnl : n = l <;> simp [hnl]
  cases hx with
  | rptr _ B o cs us hB hW hc hr hi' =>
   simp only at hk
   split at hk
   ·have hro : Rep w W μ (.slice (some ⟨B, o, none⟩) n n) (.ro (cs.take (n * size)) n true) := by
     have := ro_slice (μ := μ) hB hW hc hr hi' 0 (n * size) n n true (Nat.le_refl _) (fun _ => rfl)
     simpa using this
    obtain ⟨a, cap, hxa, b1, b2, b3, _, hfin⟩ := sliceRo_sound hro hk
    cases hxa
    obtain ⟨d, hd, hwr, hr'⟩ := hfin n rfl
    exact ⟨d, _, hd, hwr, hrun _ b1 b2, hr'⟩
   ·simp at hk
  | _ => simp at hk
 ·rename_i hu
  split at hev
  ·simp at hev
  rename_i hmx
  have hmx : mxa = none := by cases mxa <;> simp at hmx ⊢
  subst hmx
  have h3' := optRep_none h3
  subst h3'
  split at hev
  ·rename_i s
   cases hx
   obtain ⟨l, hl, hk⟩ := nx_eq_some.1 hev
   obtain ⟨hh, hhh, hk⟩ := nx_eq_some.1 hk
   split at hk
   ·rename_i hb
    refine Pure1.mk hk ?_ (.str _ _)
    simp only [Instr.sliceAt, Instr.slice, Sem.run_bind, run_underlying hu, Result.andThen, Option.isSome_none, Bool.false_eq_true, if_false, (bounds_sound h1 h2 (mx := none) (mxa := none) rfl (cap := s.size) false hl hhh X.P hb.1).1 rfl hb.2, Sem.run_pure]
   ·simp at hk
  ·simp at hev
 ·simp at hev
theorem sliceP_sound (hs : Sim X base W μ h w) {x : Value} {b off : Nat} (hx : Rep w W μ x (.ptr b off)) {lo hi mx : Option Value} {loa hia mxa : Option AV} (h1 : OptRep w W μ lo loa) (h2 : OptRep w W μ hi hia) (h3 : OptRep w W μ mx mxa) {t : TypeId} {e : Eff}
  (hev : aSliceP X h t b off loa hia mxa = some e) : Pure1 X W μ w (Instr.sliceAt t x lo hi mx) e := by
 unfold aSliceP at hev
 split at hev
 ·rename_i n elem hu
  obtain ⟨size, hsize, hk⟩ := nx_eq_some.1 hev
  obtain ⟨j, hj, hsz⟩ := sizeA_some hsize
  split at hk
  ·simp at hk
  split at hk
  ·simp at hk
  rename_i hmx
  have hmx : mxa = none := by cases mxa <;> simp at hmx ⊢
  subst hmx
  obtain ⟨l, hl, hk⟩ := nx_eq_some.1 hk
  obtain ⟨hh, hhh, hk⟩ := nx_eq_some.1 hk
  have hrun : ∀ a, l ≤ hh → hh ≤ n → (Instr.sliceAt t (.pointer (some a)) lo hi mx).run X.P w = .ok (.slice (if n = l then some a else (some a : Option Addr).map (·.add (l * size))) (hh - l) (n - l)) w := by
   intro a hlh hhn
   simp only [Instr.sliceAt, Sem.run_bind, run_underlying hu, Result.andThen, Instr.sureAddr, Sem.run_pure, (bounds_sound h1 h2 h3 (cap := n) false hl hhh X.P hlh).1 rfl hhn, run_sizeOf' hj, hsz]
   by_cases hnl : n = l <;> simp [hnl]
  cases hx with
  | ptr _ _ B o _ hm =>
   split at hk
   ·rename_i cs g z hb
    obtain ⟨_, _, _, arr, ty', harr, hlen, _⟩ := hs.block hb hm
    split at hk
    ·rename_i hc
     split at hk
     ·rename_i hln
      simp only [Option.some.injEq] at hk
      subst hk
      refine ⟨_, _, rfl, rfl, hrun _ hc.2.1 hc.2.2, ?_⟩
      rw [if_neg (by omega)]
      simp only [Option.map_some, add_none, Nat.add_assoc]
      refine .sl _ b B o (off + l * size) (hh - l) (n - l) (some (n - l)) size hm (by omega) (by simp) ⟨arr, ty', _, harr, ?_⟩
      have : l * size + (n - l) * size = n * size := by rw [← Nat.add_mul]; congr 1; omega
      omega
     ·rename_i hln
      simp only [Option.some.injEq] at hk
      subst hk
      refine ⟨_, _, rfl, rfl, hrun _ hc.2.1 hc.2.2, ?_⟩
      rw [show hh - l = 0 by omega]
      exact .ro0 _ _ _ true (fun _ => by omega)
    ·simp at hk
   ·simp at hk
 ·simp at hev
end
end Go.Proofs.YtenhjccadhlgoaaGreat.Abs
