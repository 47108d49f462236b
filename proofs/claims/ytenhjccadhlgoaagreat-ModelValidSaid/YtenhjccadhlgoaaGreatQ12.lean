/-
  What an abstract value says of a value of the model, and how it lasts. No conditions. The abstract heap and the world. No conditions. What the interpreter's steps do to the abstract heap, beside the world. No conditions. The operations that call no function of the program: what the interpreter says of them, the model does. No conditions. More operations that call no function of the program. No conditions.
-/
import Derived.Test.YtenhjccadhlgoaaGreatQ01
import Derived.Laws.CopyRow
import Derived.Laws.Cells
import Derived.Laws.Entries
import Derived.ChangeKeysEq
set_option linter.unusedSimpArgs false
set_option linter.unusedVariables false
set_option maxRecDepth 100000
set_option maxHeartbeats 16000000
namespace Go.Proofs.YtenhjccadhlgoaaGreat.Abs
open Go
inductive MB where
 | at (B o : Nat)
abbrev Mu := Nat → Option MB
def noMu : Mu := fun _ => none
inductive Rep (w : World) (W : Nat → Prop) : Mu → Value → AV → Prop where
 | bool (μ : Mu) (b : Bool) : Rep w W μ (.bool b) (.bool b)
 | int (μ : Mu) (k : IntKind) (n : Int) : Rep w W μ (.int k n) (.int k n)
 | str (μ : Mu) (s : ByteArray) : Rep w W μ (.string s) (.str s)
 | nilptr (μ : Mu) : Rep w W μ (.pointer none) .nilptr
 | nilmap (μ : Mu) : Rep w W μ (.map none) .nilmap
 | extm (μ : Mu) (m : Option Nat) : Rep w W μ (.map m) (.ext (.map m))
 | extp (μ : Mu) (p : Option Addr) : Rep w W μ (.pointer p) (.ext (.pointer p))
 | nilfunc (μ : Mu) : Rep w W μ .nilFunc .nilfunc
 | niliface (μ : Mu) : Rep w W μ .nilIface .niliface
 | ro0 (μ : Mu) (a : Option Addr) (c : Nat) (full : Bool) (h : full = true → c = 0) : Rep w W μ (.slice a 0 c) (.ro [] 0 full)
 | ro (μ : Mu) (B o len cap : Nat) (cs : List AV) (full : Bool) (us : Nat → Value) (hB : B < w.heap.size) (hW : ¬ W B) (hl : len ≤ cap) (hf : full = true → cap = len)
   (hc : ∀ (i : Nat) (a : AV), cs[i]? = some a → w.cell? ⟨B, o + i, none⟩ = some (us i)) (hr : ∀ (i : Nat) (a : AV), cs[i]? = some a → Rep w W noMu (us i) a) (hi : ∀ (i : Nat) (a : AV), cs[i]? = some a → a.isCell = true) :
   Rep w W μ (.slice (some ⟨B, o, none⟩) len cap) (.ro cs len full)
 | rptr (μ : Mu) (B o : Nat) (cs : List AV) (us : Nat → Value) (hB : B < w.heap.size) (hW : ¬ W B)
   (hc : ∀ (i : Nat) (a : AV), cs[i]? = some a → w.cell? ⟨B, o + i, none⟩ = some (us i)) (hr : ∀ (i : Nat) (a : AV), cs[i]? = some a → Rep w W noMu (us i) a) (hi : ∀ (i : Nat) (a : AV), cs[i]? = some a → a.isCell = true) :
   Rep w W μ (.pointer (some ⟨B, o, none⟩)) (.rptr cs)
 | sl (μ : Mu) (b B o off len c : Nat) (cap : Option Nat) (sz : Nat) (hm : μ b = some (.at B o)) (hl : len ≤ c) (hk : ∀ k, cap = some k → c = k)
   (hs : ∃ (arr : Array Value) (e : TypeId) (f : Nat × Nat), w.heap[B]? = some (Go.Obj.cells arr e f) ∧ o + off + c * sz ≤ arr.size) : Rep w W μ (.slice (some ⟨B, o + off, none⟩) len c) (.sl b off len cap sz)
 | ptr (μ : Mu) (b B o off : Nat) (hm : μ b = some (.at B o)) : Rep w W μ (.pointer (some ⟨B, o + off, none⟩)) (.ptr b off)
 | func (μ : Mu) (fn : Fn) (f c : Array Value) (f' c' : List AV) (h1 : f.size = f'.length) (h2 : c.size = c'.length)
   (hf : ∀ (i : Nat) (v : Value) (a : AV), f[i]? = some v → f'[i]? = some a → Rep w W μ v a) (hc : ∀ (i : Nat) (v : Value) (a : AV), c[i]? = some v → c'[i]? = some a → Rep w W μ v a) : Rep w W μ (.func fn f c) (.func fn f' c')
 | iface (μ : Mu) (t : TypeId) (v : Value) (a : AV) (h : Rep w W μ v a) : Rep w W μ (.iface t v) (.iface t a)
 | agg (μ : Mu) (vs : Array Value) (as : List AV) (h1 : vs.size = as.length) (h : ∀ (i : Nat) (v : Value) (a : AV), vs[i]? = some v → as[i]? = some a → Rep w W μ v a) (hi : ∀ (i : Nat) (a : AV), as[i]? = some a → a.isCell = true) :
   Rep w W μ (.agg vs) (.agg as)
 | tuple (μ : Mu) (vs : Array Value) (as : List AV) (h1 : vs.size = as.length) (h : ∀ (i : Nat) (v : Value) (a : AV), vs[i]? = some v → as[i]? = some a → Rep w W μ v a) : Rep w W μ (.tuple vs) (.tuple as)
structure Step (base : Nat) (w : World) (W : Nat → Prop) (μ : Mu) (w' : World) (W' : Nat → Prop) (μ' : Mu) : Prop where
 os : w'.os = w.os
 tape : w'.tape = w.tape
 output : w'.output = w.output
 size : w.heap.size ≤ w'.heap.size
 same : ∀ B, B < w.heap.size → (B < base ∨ ¬ W B) → w'.heap[B]? = w.heap[B]?
 wsub : ∀ B, B < w.heap.size → W' B → W B
 wsup : ∀ B, B < base → W B → W' B
 shape : ∀ (B : Nat) (arr : Array Value) (e : TypeId) (f : Nat × Nat), w.heap[B]? = some (Go.Obj.cells arr e f) → ∃ arr' : Array Value, w'.heap[B]? = some (Go.Obj.cells arr' e f) ∧ arr'.size = arr.size
 mu : ∀ b m, μ b = some m → μ' b = some m
 drawn : w.drawn ≤ w'.drawn
theorem Step.refl (base : Nat) (w : World) (W : Nat → Prop) (μ : Mu) : Step base w W μ w W μ :=
 ⟨rfl, rfl, rfl, Nat.le_refl _, fun _ _ _ => rfl, fun _ _ h => h, fun _ _ h => h, fun _ arr _ _ h => ⟨arr, h, rfl⟩, fun _ _ h => h, Nat.le_refl _⟩
theorem Step.trans {base : Nat} {w w1 w2 : World} {W W1 W2 : Nat → Prop} {μ μ1 μ2 : Mu} (h : Step base w W μ w1 W1 μ1) (k : Step base w1 W1 μ1 w2 W2 μ2) : Step base w W μ w2 W2 μ2 where
 os := k.os.trans h.os
 tape := k.tape.trans h.tape
 output := k.output.trans h.output
 size := Nat.le_trans h.size k.size
 same B hB hW := (k.same B (Nat.lt_of_lt_of_le hB h.size) (hW.imp id fun hn hW1 => hn (h.wsub B hB hW1))).trans (h.same B hB hW)
 wsub B hB hW := h.wsub B hB (k.wsub B (Nat.lt_of_lt_of_le hB h.size) hW)
 wsup B hB hW := k.wsup B hB (h.wsup B hB hW)
 shape B arr e f ha := by
  obtain ⟨arr1, h1, s1⟩ := h.shape B arr e f ha
  obtain ⟨arr2, h2, s2⟩ := k.shape B arr1 e f h1
  exact ⟨arr2, h2, s2.trans s1⟩
 mu b m hm := k.mu b m (h.mu b m hm)
 drawn := Nat.le_trans h.drawn k.drawn
theorem cell?_block {w w' : World} {B : Nat} (h : w'.heap[B]? = w.heap[B]?) (i : Nat) : w'.cell? ⟨B, i, none⟩ = w.cell? ⟨B, i, none⟩ := by
 unfold World.cell?; rw [h]
theorem Rep.stable {base : Nat} {w w' : World} {W W' : Nat → Prop} {μ0 μ0' : Mu} (hs : Step base w W μ0 w' W' μ0') {μ : Mu} {v : Value} {a : AV} (h : Rep w W μ v a) :
  ∀ μ' : Mu, (∀ b m, μ b = some m → μ' b = some m) → Rep w' W' μ' v a := by
 induction h with
 | bool μ b => exact fun μ' _ => .bool μ' b
 | int μ k n => exact fun μ' _ => .int μ' k n
 | str μ s => exact fun μ' _ => .str μ' s
 | nilptr μ => exact fun μ' _ => .nilptr μ'
 | nilmap μ => exact fun μ' _ => .nilmap μ'
 | extm μ m => exact fun μ' _ => .extm μ' m
 | extp μ p => exact fun μ' _ => .extp μ' p
 | nilfunc μ => exact fun μ' _ => .nilfunc μ'
 | niliface μ => exact fun μ' _ => .niliface μ'
 | ro0 μ a c full h => exact fun μ' _ => .ro0 μ' a c full h
 | ro μ B o len cap cs full us hB hW hl hf hc _ hi ih =>
  intro μ' _
  exact .ro μ' B o len cap cs full us (Nat.lt_of_lt_of_le hB hs.size) (fun h => hW (hs.wsub B hB h)) hl hf
   (fun i a ha => by rw [cell?_block (hs.same B hB (.inr hW))]; exact hc i a ha) (fun i a ha => ih i a ha noMu (fun _ _ h => h)) hi
 | rptr μ B o cs us hB hW hc _ hi ih =>
  intro μ' _
  exact .rptr μ' B o cs us (Nat.lt_of_lt_of_le hB hs.size) (fun h => hW (hs.wsub B hB h))
   (fun i a ha => by rw [cell?_block (hs.same B hB (.inr hW))]; exact hc i a ha) (fun i a ha => ih i a ha noMu (fun _ _ h => h)) hi
 | sl μ b B o off len c cap sz hm hl hk hsh =>
  intro μ' hμ
  obtain ⟨arr, e, f, ha, hle⟩ := hsh
  obtain ⟨arr', ha', hsz⟩ := hs.shape B arr e f ha
  exact .sl μ' b B o off len c cap sz (hμ _ _ hm) hl hk ⟨arr', e, f, ha', by omega⟩
 | ptr μ b B o off hm => exact fun μ' hμ => .ptr μ' b B o off (hμ _ _ hm)
 | func μ fn f c f' c' h1 h2 _ _ ihf ihc => exact fun μ' hμ => .func μ' fn f c f' c' h1 h2 (fun i v a hv ha => ihf i v a hv ha μ' hμ) (fun i v a hv ha => ihc i v a hv ha μ' hμ)
 | iface μ t v a _ ih => exact fun μ' hμ => .iface μ' t v a (ih μ' hμ)
 | agg μ vs as h1 _ hi ih => exact fun μ' hμ => .agg μ' vs as h1 (fun i v a hv ha => ih i v a hv ha μ' hμ) hi
 | tuple μ vs as h1 _ ih => exact fun μ' hμ => .tuple μ' vs as h1 (fun i v a hv ha => ih i v a hv ha μ' hμ)
theorem Rep.step {base : Nat} {w w' : World} {W W' : Nat → Prop} {μ μ' : Mu} (hs : Step base w W μ w' W' μ') {v : Value} {a : AV} (h : Rep w W μ v a) : Rep w' W' μ' v a :=
 h.stable hs μ' hs.mu
theorem Rep.anyMu {w : World} {W : Nat → Prop} {v : Value} {a : AV} (h : Rep w W noMu v a) (μ : Mu) : Rep w W μ v a :=
 h.stable (Step.refl 0 w W noMu) μ (fun b m h => by simp [noMu] at h)
theorem Rep.scalar {w w' : World} {W W' : Nat → Prop} {μ : Mu} {v : Value} {a : AV} (h : Rep w W μ v a) : a.noRef = true → ∀ μ', Rep w' W' μ' v a := by
 have key : ∀ (l : List AV), AV.noRef.go l = true → ∀ (i : Nat) (a : AV), l[i]? = some a → a.noRef = true := by
  intro l
  induction l with
  | nil => simp
  | cons x xs ih =>
   intro hl i a ha
   simp only [AV.noRef.go, Bool.and_eq_true] at hl
   cases i with
   | zero => simp at ha; subst ha; exact hl.1
   | succ i => exact ih hl.2 i a (by simpa using ha)
 induction h with
 | bool μ b => exact fun _ μ' => .bool μ' b
 | int μ k n => exact fun _ μ' => .int μ' k n
 | str μ s => exact fun _ μ' => .str μ' s
 | nilptr μ => exact fun _ μ' => .nilptr μ'
 | nilmap μ => exact fun _ μ' => .nilmap μ'
 | nilfunc μ => exact fun _ μ' => .nilfunc μ'
 | niliface μ => exact fun _ μ' => .niliface μ'
 | agg μ vs as h1 _ hi ih => exact fun hn μ' => .agg μ' vs as h1 (fun i v a hv ha => ih i v a hv ha (key as hn i a ha) μ') hi
 | tuple μ vs as h1 _ ih => exact fun hn μ' => .tuple μ' vs as h1 (fun i v a hv ha => ih i v a hv ha (key as hn i a ha) μ')
 | _ => intro hn; simp [AV.noRef] at hn
theorem Rep.oneCell {w : World} {W : Nat → Prop} {μ : Mu} {v : Value} {a : AV} (h : Rep w W μ v a) (ha : a.isCell = true) : v.oneCell' = true := by
 cases h <;> first | rfl | simp [AV.isCell] at ha
theorem isCell_weak (a : AV) : a.weak.isCell = a.isCell := by cases a <;> simp [AV.weak, AV.isCell]
theorem weaks_get (l : List AV) : ∀ i : Nat, (weaks l)[i]? = (l[i]?).map AV.weak := by
 induction l with
 | nil => intro i; simp [AV.weak.go]
 | cons a as ih =>
  intro i
  cases i with
  | zero => simp [AV.weak.go]
  | succ i => simpa [AV.weak.go] using ih i
theorem weaks_length (l : List AV) : (weaks l).length = l.length := by
 induction l with
 | nil => rfl
 | cons a as ih => simpa [AV.weak.go] using ih
theorem Rep.weak {w : World} {W : Nat → Prop} {μ : Mu} {v : Value} {a : AV} (h : Rep w W μ v a) : Rep w W μ v a.weak := by
 have get : ∀ (l : List AV) (i : Nat) (x : AV), (weaks l)[i]? = some x → ∃ a, l[i]? = some a ∧ x = a.weak := by
  intro l i x hx
  rw [weaks_get] at hx
  obtain ⟨a, ha, hax⟩ := Option.map_eq_some_iff.1 hx
  exact ⟨a, ha, hax.symm⟩
 induction h with
 | ro0 μ a c full h => exact .ro0 μ a c false (by simp)
 | ro μ B o len cap cs full us hB hW hl hf hc _ hi ih =>
  refine .ro μ B o len cap (weaks cs) false us hB hW hl (by simp) ?_ ?_ ?_
  ·intro i x hx; obtain ⟨a, ha, rfl⟩ := get _ _ _ hx; exact hc i a ha
  ·intro i x hx; obtain ⟨a, ha, rfl⟩ := get _ _ _ hx; exact ih i a ha
  ·intro i x hx; obtain ⟨a, ha, rfl⟩ := get _ _ _ hx; rw [isCell_weak]; exact hi i a ha
 | rptr μ B o cs us hB hW hc _ hi ih =>
  refine .rptr μ B o (weaks cs) us hB hW ?_ ?_ ?_
  ·intro i x hx; obtain ⟨a, ha, rfl⟩ := get _ _ _ hx; exact hc i a ha
  ·intro i x hx; obtain ⟨a, ha, rfl⟩ := get _ _ _ hx; exact ih i a ha
  ·intro i x hx; obtain ⟨a, ha, rfl⟩ := get _ _ _ hx; rw [isCell_weak]; exact hi i a ha
 | func μ fn f c f' c' h1 h2 _ _ ihf ihc =>
  refine .func μ fn f c (weaks f') (weaks c') (by rw [weaks_length]; exact h1) (by rw [weaks_length]; exact h2) ?_ ?_
  ·intro i v x hv hx; obtain ⟨a, ha, rfl⟩ := get _ _ _ hx; exact ihf i v a hv ha
  ·intro i v x hv hx; obtain ⟨a, ha, rfl⟩ := get _ _ _ hx; exact ihc i v a hv ha
 | iface μ t v a _ ih => exact .iface μ t v a.weak ih
 | agg μ vs as h1 _ hi ih =>
  refine .agg μ vs (weaks as) (by rw [weaks_length]; exact h1) ?_ ?_
  ·intro i v x hv hx; obtain ⟨a, ha, rfl⟩ := get _ _ _ hx; exact ih i v a hv ha
  ·intro i x hx; obtain ⟨a, ha, rfl⟩ := get _ _ _ hx; rw [isCell_weak]; exact hi i a ha
 | tuple μ vs as h1 _ ih =>
  refine .tuple μ vs (weaks as) (by rw [weaks_length]; exact h1) ?_
  intro i v x hv hx; obtain ⟨a, ha, rfl⟩ := get _ _ _ hx; exact ih i v a hv ha
 | bool μ b => exact .bool μ b
 | int μ k n => exact .int μ k n
 | str μ s => exact .str μ s
 | nilptr μ => exact .nilptr μ
 | nilmap μ => exact .nilmap μ
 | extm μ m => exact .extm μ m
 | extp μ p => exact .extp μ p
 | nilfunc μ => exact .nilfunc μ
 | niliface μ => exact .niliface μ
 | sl μ b B o off len c cap sz hm hl hk hsh => exact .sl μ b B o off len c cap sz hm hl hk hsh
 | ptr μ b B o off hm => exact .ptr μ b B o off hm
theorem rep_const (w : World) (W : Nat → Prop) (μ : Mu) : ∀ (v : Value) (a : AV), constAV v = some a → Rep w W μ v a := by
 have leafs : ∀ (l : List Value), (∀ v ∈ l, ∀ a, constAV v = some a → Rep w W μ v a) → ∀ as, constAV.go l = some as → l.length = as.length ∧ (∀ (i : Nat) (v : Value) (a : AV), l[i]? = some v → as[i]? = some a → Rep w W μ v a) ∧ ∀ (i : Nat) (a : AV), as[i]? = some a → a.isCell = true := by
  intro l
  induction l with
  | nil => intro _ as h; simp [constAV.go] at h; subst h; simp
  | cons v vs ih =>
   intro hv as h
   have hv0 := hv v (by simp)
   have key : v.oneCell' = true → (nx (constAV v) fun a => mp (constAV.go vs) (a :: ·)) = some as → (v :: vs).length = as.length ∧ (∀ (i : Nat) (v' : Value) (a : AV), (v :: vs)[i]? = some v' → as[i]? = some a → Rep w W μ v' a) ∧ ∀ (i : Nat) (a : AV), as[i]? = some a → a.isCell = true := by
    intro hone hnx
    obtain ⟨a, ha, hk⟩ := nx_eq_some.1 hnx
    obtain ⟨bs, hb, hk⟩ := mp_eq_some.1 hk
    subst hk
    obtain ⟨i1, i2, i3⟩ := ih (fun x hx => hv x (by simp [hx])) bs hb
    have hr := hv0 a ha
    have hc : a.isCell = true := by
     cases hr <;> first | rfl | simp [Value.oneCell'] at hone
    refine (⟨by simp [i1], ?_, ?_⟩ : (v :: vs).length = (a :: bs).length ∧ (∀ (i : Nat) (x : Value) (y : AV), (v :: vs)[i]? = some x → (a :: bs)[i]? = some y → Rep w W μ x y) ∧ ∀ (i : Nat) (y : AV), (a :: bs)[i]? = some y → y.isCell = true)
    ·intro i x y hx hy
     cases i with
     | zero => simp at hx hy; subst hx; subst hy; exact hr
     | succ i => exact i2 i x y (by simpa using hx) (by simpa using hy)
    ·intro i y hy
     cases i with
     | zero => simp at hy; subst hy; exact hc
     | succ i => exact i3 i y (by simpa using hy)
   cases v <;> first
    | (simp [constAV.go] at h; done)
    | (exact key rfl (by simpa only [constAV.go] using h))
 intro v
 induction v using Value.rec (motive_2 := fun arr => ∀ v ∈ arr.toList, ∀ a, constAV v = some a → Rep w W μ v a) (motive_3 := fun l => ∀ v ∈ l, ∀ a, constAV v = some a → Rep w W μ v a) with
 | bool b => intro a h; simp [constAV] at h; subst h; exact .bool μ b
 | int k n => intro a h; simp [constAV] at h; subst h; exact .int μ k n
 | string s => intro a h; simp [constAV] at h; subst h; exact .str μ s
 | pointer p => intro a h; cases p <;> simp [constAV] at h; subst h; exact .nilptr μ
 | slice p l c =>
  intro a h
  cases p with
  | some p => simp [constAV] at h
  | none =>
   cases l with
   | succ l => simp [constAV] at h
   | zero =>
    cases c with
    | succ c => simp [constAV] at h
    | zero =>
     simp only [constAV, Option.some.injEq] at h
     subst h
     exact .ro0 μ none 0 true (fun _ => rfl)
 | map r => intro a h; cases r <;> simp [constAV] at h; subst h; exact .nilmap μ
 | nilFunc => intro a h; simp [constAV] at h; subst h; exact .nilfunc μ
 | nilIface => intro a h; simp [constAV] at h; subst h; exact .niliface μ
 | func fn f c _ _ =>
  intro a h
  obtain ⟨f⟩ := f
  obtain ⟨c⟩ := c
  cases f with
  | cons x y => cases fn <;> simp [constAV] at h
  | nil =>
   cases c with
   | cons x y => cases fn <;> simp [constAV] at h
   | nil =>
    cases fn with
    | func f =>
     simp only [constAV, Option.some.injEq] at h
     subst h
     exact .func μ _ #[] #[] [] [] rfl rfl (by simp) (by simp)
    | _ => simp [constAV] at h
 | agg cs ih =>
  intro a h
  obtain ⟨l⟩ := cs
  simp only [constAV] at h
  obtain ⟨as, hl, rfl⟩ := mp_eq_some.1 h
  obtain ⟨h1, h2, h3⟩ := leafs l ih as hl
  exact .agg μ ⟨l⟩ as (by simpa using h1) (fun i v a hv ha => h2 i v a (by simpa using hv) ha) h3
 | tuple vs _ =>
  intro a h
  obtain ⟨l⟩ := vs
  cases l with
  | cons x y => simp [constAV] at h
  | nil =>
   simp only [constAV, Option.some.injEq] at h
   subst h
   exact .tuple μ #[] [] rfl (by simp)
 | iface t v _ => intro a h; simp [constAV] at h
 | float k b => intro a h; simp [constAV] at h
 | complex k a b => intro a h; simp [constAV] at h
 | chan r => intro a h; simp [constAV] at h
 | mk l ih => rename_i x hx a h; exact ih x hx a h
 | nil => rename_i x hx a h; simp at hx
 | cons v vs ihv ihs =>
  rename_i x hx a h
  rcases List.mem_cons.1 hx with rfl | hx
  ·exact ihv a h
  ·exact ihs x hx a h
section
def ObjRep (w : World) (W : Nat → Prop) (μ : Mu) (base b : Nat) : Obj → Prop
 | .cells cs _ frz => ∃ (B o : Nat) (arr : Array Value) (e : TypeId), μ b = some (.at B o) ∧ base ≤ B ∧ (frz = false → W B) ∧ (frz = true → ¬ W B) ∧
   w.heap[B]? = some (Go.Obj.cells arr e (0, 0)) ∧ o + cs.length ≤ arr.size ∧
   ∀ (i : Nat) (a : AV), cs[i]? = some a → ∃ u, arr[o + i]? = some u ∧ Rep w W μ u a ∧ a.isCell = true
structure Sim (X : Ctx) (base : Nat) (W : Nat → Prop) (μ : Mu) (h : Heap) (w : World) : Prop where
 obj : ∀ b o, h b = some o → ObjRep w W μ base b o
 inj : ∀ b b' B o o', h b ≠ none → h b' ≠ none → μ b = some (.at B o) → μ b' = some (.at B o') → b = b'
 glob : ∀ g cs, X.G g = some cs → g < base ∧ ¬ W g ∧ ∃ us : Nat → Value, ∀ (i : Nat) (a : AV), cs[i]? = some a → w.cell? ⟨g, i, none⟩ = some (us i) ∧ Rep w W noMu (us i) a ∧ a.isCell = true
 wlt : ∀ B, W B → B < w.heap.size
 ble : base ≤ w.heap.size
variable {X : Ctx} {base : Nat} {W : Nat → Prop} {μ : Mu} {h : Heap} {w : World}
theorem heap_lt {B : Nat} {o : Go.Obj} (hb : w.heap[B]? = some o) : B < w.heap.size := by
 rcases Nat.lt_or_ge B w.heap.size with hl | hl
 ·exact hl
 ·simp [Array.getElem?_eq_none hl] at hb
theorem cell?_arr {B i : Nat} {arr : Array Value} {e : TypeId} {f : Nat × Nat} (hb : w.heap[B]? = some (Go.Obj.cells arr e f)) : w.cell? ⟨B, i, none⟩ = arr[i]? := by
 simp [World.cell?, hb]
theorem Step.shrink (w : World) (μ : Mu) {W W' : Nat → Prop} (hs : ∀ B, W' B → W B) : Step 0 w W μ w W' μ :=
 ⟨rfl, rfl, rfl, Nat.le_refl _, fun _ _ _ => rfl, fun _ _ h => hs _ h, fun _ h _ => absurd h (by omega), fun _ arr _ _ h => ⟨arr, h, rfl⟩, fun _ _ h => h, Nat.le_refl _⟩
theorem snaps_get {f : AV → Option (AV × List Nat)} : ∀ {l : List AV} {xs : List AV} {ids : List Nat}, snaps f l = some (xs, ids) →
  l.length = xs.length ∧ ∀ (i : Nat) (a : AV), l[i]? = some a → ∃ x ids', xs[i]? = some x ∧ f a = some (x, ids') ∧ ∀ b ∈ ids', b ∈ ids := by
 intro l
 induction l with
 | nil => intro xs ids h; simp [snaps] at h; obtain ⟨rfl, rfl⟩ := h; simp
 | cons a as ih =>
  intro xs ids h
  obtain ⟨⟨x, i⟩, ha, hk⟩ := nx_eq_some.1 h
  obtain ⟨⟨ys, j⟩, hb, hk⟩ := mp_eq_some.1 hk
  simp only [Prod.mk.injEq] at hk
  obtain ⟨rfl, rfl⟩ := hk
  obtain ⟨h1, h2⟩ := ih hb
  refine ⟨by simp [h1], fun k c hc => ?_⟩
  cases k with
  | zero => simp at hc; subst hc; exact ⟨x, i, by simp, ha, fun b hb => by simp [hb]⟩
  | succ k =>
   obtain ⟨y, ids', hy, hf, hs⟩ := h2 k c (by simpa using hc)
   exact ⟨y, ids', by simpa using hy, hf, fun b hb => by simp [hs b hb]⟩
theorem snap_isCell (h : Heap) (d : Nat) (a x : AV) (ids : List Nat) (hs : snap h d a = some (x, ids)) : a.isCell = true → x.isCell = true := by
 cases d with
 | zero => simp [snap] at hs
 | succ d =>
  intro hc
  cases a <;> simp only [snap] at hs <;> first
   | (simp at hs; obtain ⟨rfl, rfl⟩ := hs; exact hc)
   | (simp [AV.isCell] at hc; done)
   | (simp at hs; done)
   | skip
  ·split at hs
   ·split at hs
    ·obtain ⟨y, _, hk⟩ := mp_eq_some.1 hs; simp only [Prod.mk.injEq] at hk; rw [← hk.1]; rfl
    ·simp at hs
   ·simp at hs
  ·split at hs
   ·obtain ⟨y, _, hk⟩ := mp_eq_some.1 hs; simp only [Prod.mk.injEq] at hk; rw [← hk.1]; rfl
   ·simp at hs
  ·obtain ⟨y, _, hk⟩ := nx_eq_some.1 hs; obtain ⟨z, _, hk⟩ := mp_eq_some.1 hk; simp only [Prod.mk.injEq] at hk; rw [← hk.1]; rfl
  ·obtain ⟨y, _, hk⟩ := mp_eq_some.1 hs; simp only [Prod.mk.injEq] at hk; rw [← hk.1]; rfl
theorem drop_take_get {l : List AV} {off n i : Nat} {a : AV} (h : ((l.drop off).take n)[i]? = some a) : i < n ∧ l[off + i]? = some a := by
 rw [List.getElem?_take] at h
 split at h
 ·rw [List.getElem?_drop] at h; exact ⟨by assumption, h⟩
 ·simp at h
theorem snap_sound (hs : Sim X base W μ h w) : ∀ (d : Nat) (v : Value) (a x : AV) (ids : List Nat), snap h d a = some (x, ids) → Rep w W μ v a →
  ∀ W' : Nat → Prop, (∀ B, W' B → W B) → (∀ b ∈ ids, ∀ B o, μ b = some (.at B o) → ¬ W' B) → Rep w W' noMu v x := by
 intro d
 induction d with
 | zero => intro v a x ids h; simp [snap] at h
 | succ d ih =>
  intro v a x ids hsn hr W' hsub hids
  have plain : ∀ {u : Value} {y : AV}, Rep w W noMu u y → Rep w W' noMu u y := fun hu => hu.step (Step.shrink w noMu hsub)
  cases hr with
  | bool _ b => simp [snap] at hsn; obtain ⟨rfl, rfl⟩ := hsn; exact .bool _ b
  | int _ k n => simp [snap] at hsn; obtain ⟨rfl, rfl⟩ := hsn; exact .int _ k n
  | str _ s => simp [snap] at hsn; obtain ⟨rfl, rfl⟩ := hsn; exact .str _ s
  | nilptr => simp [snap] at hsn; obtain ⟨rfl, rfl⟩ := hsn; exact .nilptr _
  | nilmap => simp [snap] at hsn; obtain ⟨rfl, rfl⟩ := hsn; exact .nilmap _
  | extm => simp [snap] at hsn
  | extp => simp [snap] at hsn
  | nilfunc => simp [snap] at hsn; obtain ⟨rfl, rfl⟩ := hsn; exact .nilfunc _
  | niliface => simp [snap] at hsn; obtain ⟨rfl, rfl⟩ := hsn; exact .niliface _
  | ro0 _ a c full hf => simp [snap] at hsn; obtain ⟨rfl, rfl⟩ := hsn; exact .ro0 _ a c full hf
  | ro _ B o len cap cs full us hB hW hl hf hc hr hi =>
   simp [snap] at hsn; obtain ⟨rfl, rfl⟩ := hsn
   exact plain (.ro _ B o len cap cs full us hB hW hl hf hc hr hi)
  | rptr _ B o cs us hB hW hc hr hi =>
   simp [snap] at hsn; obtain ⟨rfl, rfl⟩ := hsn
   exact plain (.rptr _ B o cs us hB hW hc hr hi)
  | ptr _ b B o off hm =>
   simp only [snap] at hsn
   split at hsn
   ·rename_i cs g f hb
    obtain ⟨⟨xs, jds⟩, hx, hk'⟩ := mp_eq_some.1 hsn
    simp only [Prod.mk.injEq] at hk'
    obtain ⟨rfl, rfl⟩ := hk'
    obtain ⟨hlen, hget⟩ := snaps_get hx
    obtain ⟨B', o', arr, e, hm', hbase, _, _, harr, hsz', hcell⟩ := hs.obj b _ hb
    rw [hm] at hm'
    simp only [Option.some.injEq, MB.at.injEq] at hm'
    obtain ⟨rfl, rfl⟩ := hm'
    have key : ∀ (i : Nat) (y : AV), xs[i]? = some y → ∃ u, arr[o + off + i]? = some u ∧ Rep w W' noMu u y ∧ y.isCell = true := by
     intro i y hy
     have hi : i < xs.length := by
      rcases Nat.lt_or_ge i xs.length with hl | hl
      ·exact hl
      ·simp [List.getElem?_eq_none hl] at hy
     obtain ⟨a, ha⟩ : ∃ a, (cs.drop off)[i]? = some a := ⟨_, List.getElem?_eq_getElem (by omega)⟩
     obtain ⟨x, ids', hx', hf, hsub'⟩ := hget i a ha
     rw [hx'] at hy
     cases hy
     rw [List.getElem?_drop] at ha
     obtain ⟨u, hu, hru, hcu⟩ := hcell _ a ha
     refine ⟨u, by rw [Nat.add_assoc]; exact hu, ih u a y ids' hf hru W' hsub fun b' hb' => hids b' (by simp [hsub' b' hb']), snap_isCell h d a y ids' hf hcu⟩
    refine .rptr _ B (o + off) xs (fun i => arr.getD (o + off + i) undef) (heap_lt harr) (hids b (by simp) B o hm) ?_ ?_ ?_
    ·intro i y hy
     obtain ⟨u, hu, _, _⟩ := key i y hy
     rw [cell?_arr harr, hu]
     simp [Array.getD_eq_getD_getElem?, hu]
    ·intro i y hy
     obtain ⟨u, hu, hru, _⟩ := key i y hy
     simpa [Array.getD_eq_getD_getElem?, hu] using hru
    ·intro i y hy
     obtain ⟨u, hu, _, hc⟩ := key i y hy
     exact hc
   ·simp at hsn
  | sl _ b B o off len c cap sz hm hl hk hsz =>
   simp only [snap] at hsn
   split at hsn
   ·rename_i cs g f hb
    split at hsn
    ·rename_i hle
     obtain ⟨⟨xs, jds⟩, hx, hk'⟩ := mp_eq_some.1 hsn
     simp only [Prod.mk.injEq] at hk'
     obtain ⟨rfl, rfl⟩ := hk'
     obtain ⟨hlen, hget⟩ := snaps_get hx
     obtain ⟨B', o', arr, e, hm', hbase, _, _, harr, hsz', hcell⟩ := hs.obj b _ hb
     rw [hm] at hm'
     simp only [Option.some.injEq, MB.at.injEq] at hm'
     obtain ⟨rfl, rfl⟩ := hm'
     have key : ∀ (i : Nat) (y : AV), xs[i]? = some y → ∃ u, arr[o + off + i]? = some u ∧ Rep w W' noMu u y ∧ y.isCell = true := by
      intro i y hy
      have hi : i < xs.length := by
       rcases Nat.lt_or_ge i xs.length with hl | hl
       ·exact hl
       ·simp [List.getElem?_eq_none hl] at hy
      obtain ⟨a, ha⟩ : ∃ a, ((cs.drop off).take (len * sz))[i]? = some a := ⟨_, List.getElem?_eq_getElem (by omega)⟩
      obtain ⟨x, ids', hx', hf, hsub'⟩ := hget i a ha
      rw [hx'] at hy
      cases hy
      obtain ⟨hlt, hca⟩ := drop_take_get ha
      obtain ⟨u, hu, hru, hcu⟩ := hcell _ a hca
      refine ⟨u, by rw [Nat.add_assoc]; exact hu, ih u a y ids' hf hru W' hsub fun b' hb' => hids b' (by simp [hsub' b' hb']), snap_isCell h d a y ids' hf hcu⟩
     refine .ro _ B (o + off) len c xs false (fun i => arr.getD (o + off + i) undef) (heap_lt harr) (hids b (by simp) B o hm) hl (by simp) ?_ ?_ ?_
     ·intro i y hy
      obtain ⟨u, hu, _, _⟩ := key i y hy
      rw [cell?_arr harr, hu]
      simp [Array.getD_eq_getD_getElem?, hu]
     ·intro i y hy
      obtain ⟨u, hu, hru, _⟩ := key i y hy
      simpa [Array.getD_eq_getD_getElem?, hu] using hru
     ·intro i y hy
      obtain ⟨u, hu, _, hc⟩ := key i y hy
      exact hc
    ·simp at hsn
   ·simp at hsn
  | func _ fn f c f' c' h1 h2 hf hc =>
   simp only [snap] at hsn
   obtain ⟨⟨xs, i⟩, hx, hk⟩ := nx_eq_some.1 hsn
   obtain ⟨⟨ys, j⟩, hy, hk⟩ := mp_eq_some.1 hk
   simp only [Prod.mk.injEq] at hk
   obtain ⟨rfl, rfl⟩ := hk
   obtain ⟨l1, g1⟩ := snaps_get hx
   obtain ⟨l2, g2⟩ := snaps_get hy
   refine .func _ fn f c xs ys (by omega) (by omega) ?_ ?_
   ·intro k v y hv hy'
    have hk' : k < f'.length := by
     have : k < xs.length := by
      rcases Nat.lt_or_ge k xs.length with hl | hl
      ·exact hl
      ·simp [List.getElem?_eq_none hl] at hy'
     omega
    obtain ⟨x, ids', hx', hf', hsub'⟩ := g1 k _ (List.getElem?_eq_getElem hk')
    rw [hx'] at hy'; cases hy'
    exact ih v _ y ids' hf' (hf k v _ hv (List.getElem?_eq_getElem hk')) W' hsub fun b hb => hids b (by simp [hsub' b hb])
   ·intro k v y hv hy'
    have hk' : k < c'.length := by
     have : k < ys.length := by
      rcases Nat.lt_or_ge k ys.length with hl | hl
      ·exact hl
      ·simp [List.getElem?_eq_none hl] at hy'
     omega
    obtain ⟨x, ids', hx', hf', hsub'⟩ := g2 k _ (List.getElem?_eq_getElem hk')
    rw [hx'] at hy'; cases hy'
    exact ih v _ y ids' hf' (hc k v _ hv (List.getElem?_eq_getElem hk')) W' hsub fun b hb => hids b (by simp [hsub' b hb])
  | iface _ t v a hr =>
   simp only [snap] at hsn
   obtain ⟨⟨y, i⟩, hx, hk⟩ := mp_eq_some.1 hsn
   simp only [Prod.mk.injEq] at hk
   obtain ⟨rfl, rfl⟩ := hk
   exact .iface _ t v y (ih v a y i hx hr W' hsub hids)
  | agg _ vs as h1 hr hi =>
   simp only [snap] at hsn
   obtain ⟨⟨xs, i⟩, hx, hk⟩ := mp_eq_some.1 hsn
   simp only [Prod.mk.injEq] at hk
   obtain ⟨rfl, rfl⟩ := hk
   obtain ⟨l1, g1⟩ := snaps_get hx
   have key : ∀ (k : Nat) (y : AV), xs[k]? = some y → ∃ a ids', as[k]? = some a ∧ snap h d a = some (y, ids') ∧ ∀ b ∈ ids', b ∈ i := by
    intro k y hy'
    have hk' : k < as.length := by
     have : k < xs.length := by
      rcases Nat.lt_or_ge k xs.length with hl | hl
      ·exact hl
      ·simp [List.getElem?_eq_none hl] at hy'
     omega
    obtain ⟨x, ids', hx', hf', hsub'⟩ := g1 k _ (List.getElem?_eq_getElem hk')
    rw [hx'] at hy'; cases hy'
    exact ⟨_, ids', List.getElem?_eq_getElem hk', hf', hsub'⟩
   refine .agg _ vs xs (by omega) ?_ ?_
   ·intro k v y hv hy'
    obtain ⟨a, ids', ha, hf', hsub'⟩ := key k y hy'
    exact ih v a y ids' hf' (hr k v a hv ha) W' hsub fun b hb => hids b (hsub' b hb)
   ·intro k y hy'
    obtain ⟨a, ids', ha, hf', hsub'⟩ := key k y hy'
    exact snap_isCell h d a y ids' hf' (hi k a ha)
  | tuple _ vs as h1 hr =>
   simp only [snap] at hsn
   obtain ⟨⟨xs, i⟩, hx, hk⟩ := mp_eq_some.1 hsn
   simp only [Prod.mk.injEq] at hk
   obtain ⟨rfl, rfl⟩ := hk
   obtain ⟨l1, g1⟩ := snaps_get hx
   refine .tuple _ vs xs (by omega) ?_
   intro k v y hv hy'
   have hk' : k < as.length := by
    have : k < xs.length := by
     rcases Nat.lt_or_ge k xs.length with hl | hl
     ·exact hl
     ·simp [List.getElem?_eq_none hl] at hy'
    omega
   obtain ⟨x, ids', hx', hf', hsub'⟩ := g1 k _ (List.getElem?_eq_getElem hk')
   rw [hx'] at hy'; cases hy'
   exact ih v _ y ids' hf' (hr k v _ hv (List.getElem?_eq_getElem hk')) W' hsub fun b hb => hids b (hsub' b hb)
theorem snap_live : ∀ (d : Nat) (a x : AV) (ids : List Nat), snap h d a = some (x, ids) → ∀ b ∈ ids, h b ≠ none := by
 intro d
 induction d with
 | zero => intro a x ids h; simp [snap] at h
 | succ d ih =>
  intro a x ids hsn
  have lst : ∀ (l xs : List AV) (ids : List Nat), snaps (snap h d) l = some (xs, ids) → ∀ b ∈ ids, h b ≠ none := by
   intro l
   induction l with
   | nil => intro xs ids hh; simp [snaps] at hh; obtain ⟨rfl, rfl⟩ := hh; simp
   | cons y ys ihl =>
    intro xs ids hh b hb
    obtain ⟨⟨x1, i1⟩, ha, hk⟩ := nx_eq_some.1 hh
    obtain ⟨⟨x2, i2⟩, hb2, hk⟩ := mp_eq_some.1 hk
    simp only [Prod.mk.injEq] at hk
    obtain ⟨rfl, rfl⟩ := hk
    rcases List.mem_append.1 hb with hb | hb
    ·exact ih y x1 i1 ha b hb
    ·exact ihl x2 i2 hb2 b hb
  cases a <;> simp only [snap] at hsn <;> first
   | (simp at hsn; obtain ⟨rfl, rfl⟩ := hsn; simp; done)
   | (simp at hsn; done)
   | skip
  ·split at hsn
   ·rename_i cs g f hb
    split at hsn
    ·obtain ⟨⟨xs, jds⟩, hx, hk'⟩ := mp_eq_some.1 hsn
     simp only [Prod.mk.injEq] at hk'
     obtain ⟨rfl, rfl⟩ := hk'
     intro b' hb'
     rcases List.mem_cons.1 hb' with rfl | hb'
     ·rw [hb]; simp
     ·exact lst _ _ _ hx b' hb'
    ·simp at hsn
   ·simp at hsn
  ·split at hsn
   ·rename_i cs g f hb
    obtain ⟨⟨xs, jds⟩, hx, hk'⟩ := mp_eq_some.1 hsn
    simp only [Prod.mk.injEq] at hk'
    obtain ⟨rfl, rfl⟩ := hk'
    intro b' hb'
    rcases List.mem_cons.1 hb' with rfl | hb'
    ·rw [hb]; simp
    ·exact lst _ _ _ hx b' hb'
   ·simp at hsn
  ·obtain ⟨⟨xs, i⟩, hx, hk⟩ := nx_eq_some.1 hsn
   obtain ⟨⟨ys, j⟩, hy, hk⟩ := mp_eq_some.1 hk
   simp only [Prod.mk.injEq] at hk
   obtain ⟨rfl, rfl⟩ := hk
   intro b hb
   rcases List.mem_append.1 hb with hb | hb
   ·exact lst _ _ _ hx b hb
   ·exact lst _ _ _ hy b hb
  ·obtain ⟨⟨y, i⟩, hx, hk⟩ := mp_eq_some.1 hsn
   simp only [Prod.mk.injEq] at hk
   obtain ⟨rfl, rfl⟩ := hk
   exact ih _ _ _ hx
  ·obtain ⟨⟨xs, i⟩, hx, hk⟩ := mp_eq_some.1 hsn
   simp only [Prod.mk.injEq] at hk
   obtain ⟨rfl, rfl⟩ := hk
   exact lst _ _ _ hx
  ·obtain ⟨⟨xs, i⟩, hx, hk⟩ := mp_eq_some.1 hsn
   simp only [Prod.mk.injEq] at hk
   obtain ⟨rfl, rfl⟩ := hk
   exact lst _ _ _ hx
theorem snaps_live {d : Nat} : ∀ {l xs : List AV} {ids : List Nat}, snaps (snap h d) l = some (xs, ids) → ∀ b ∈ ids, h b ≠ none := by
 intro l
 induction l with
 | nil => intro xs ids hh; simp [snaps] at hh; obtain ⟨rfl, rfl⟩ := hh; simp
 | cons y ys ihl =>
  intro xs ids hh b hb
  obtain ⟨⟨x1, i1⟩, ha, hk⟩ := nx_eq_some.1 hh
  obtain ⟨⟨x2, i2⟩, hb2, hk⟩ := mp_eq_some.1 hk
  simp only [Prod.mk.injEq] at hk
  obtain ⟨rfl, rfl⟩ := hk
  rcases List.mem_append.1 hb with hb | hb
  ·exact snap_live d y x1 i1 ha b hb
  ·exact ihl hb2 b hb
end
section
variable {X : Ctx} {base : Nat} {W : Nat → Prop} {μ : Mu} {h : Heap} {w : World}
theorem upd_eq {α : Type} (f : Nat → α) (i : Nat) (a : α) : upd f i a i = a := by simp [upd]
theorem upd_ne {α : Type} (f : Nat → α) {i j : Nat} (a : α) (hn : j ≠ i) : upd f i a j = f j := by simp [upd, hn]
theorem ObjRep.keep {w' : World} {W' : Nat → Prop} {μ' : Mu} (hst : Step base w W μ w' W' μ') {b : Nat} {o : Obj} (ho : ObjRep w W μ base b o)
  (hk : ∀ B o', μ b = some (.at B o') → w'.heap[B]? = w.heap[B]? ∧ (W' B ↔ W B)) : ObjRep w' W' μ' base b o := by
 obtain ⟨cs, g, frz⟩ := o
 obtain ⟨B, o', arr, e, hm, hb, h1, h2, harr, hle, hc⟩ := ho
 obtain ⟨k1, k2⟩ := hk B o' hm
 refine ⟨B, o', arr, e, hst.mu _ _ hm, hb, fun hf => k2.2 (h1 hf), fun hf hW => h2 hf (k2.1 hW), by rw [k1]; exact harr, hle, fun i a ha => ?_⟩
 obtain ⟨u, hu, hr, hcell⟩ := hc i a ha
 exact ⟨u, hu, hr.step hst, hcell⟩
theorem Sim.keepGlob {w' : World} {W' : Nat → Prop} {μ' : Mu} (hs : Sim X base W μ h w) (hst : Step base w W μ w' W' μ') :
  ∀ g cs, X.G g = some cs → g < base ∧ ¬ W' g ∧ ∃ us : Nat → Value, ∀ (i : Nat) (a : AV), cs[i]? = some a → w'.cell? ⟨g, i, none⟩ = some (us i) ∧ Rep w' W' noMu (us i) a ∧ a.isCell = true := by
 intro g cs hg
 obtain ⟨h1, h2, us, h3⟩ := hs.glob g cs hg
 have hlt : g < w.heap.size := Nat.lt_of_lt_of_le h1 hs.ble
 refine ⟨h1, fun hW => h2 (hst.wsub g hlt hW), us, fun i a ha => ?_⟩
 obtain ⟨k1, k2, k3⟩ := h3 i a ha
 exact ⟨by rw [cell?_block (hst.same g hlt (.inl h1))]; exact k1, k2.stable hst noMu (fun _ _ h => h), k3⟩
theorem Sim.keep {w' : World} {W' : Nat → Prop} {μ' : Mu} (hs : Sim X base W μ h w) (hst : Step base w W μ w' W' μ')
  (hmu : ∀ b, h b ≠ none → μ' b = μ b)
  (hk : ∀ b B o', h b ≠ none → μ b = some (.at B o') → w'.heap[B]? = w.heap[B]? ∧ (W' B ↔ W B)) (hW : ∀ B, W' B → B < w'.heap.size) : Sim X base W' μ' h w' where
 obj b o hb := (hs.obj b o hb).keep hst fun B o' hm => hk b B o' (by simp [hb]) hm
 inj b b' B o o' hb hb' hm hm' := hs.inj b b' B o o' hb hb' (by rw [← hmu b hb]; exact hm) (by rw [← hmu b' hb']; exact hm')
 glob := hs.keepGlob hst
 wlt := hW
 ble := Nat.le_trans hs.ble hst.size
theorem Step.alloc (w : World) (W : Nat → Prop) (μ : Mu) (base : Nat) (o : Go.Obj) (hb : base ≤ w.heap.size) (W' : Nat → Prop) (hW : ∀ B, B < w.heap.size → (W' B ↔ W B)) :
  Step base w W μ (w.alloc o) W' μ where
 os := rfl
 tape := rfl
 output := rfl
 size := by simp
 same B hB _ := RowKit.Below.heap_alloc w o B hB
 wsub B hB h := (hW B hB).1 h
 wsup B hB h := (hW B (by omega)).2 h
 shape B arr e f ha := ⟨arr, by rw [RowKit.Below.heap_alloc w o B (heap_lt ha)]; exact ha, rfl⟩
 mu _ _ h := h
 drawn := Nat.le_refl _
theorem Sim.grow (hs : Sim X base W μ h w) (o : Go.Obj) :
  Step base w W μ (w.alloc o) (fun B => W B ∨ B = w.heap.size) μ ∧ Sim X base (fun B => W B ∨ B = w.heap.size) μ h (w.alloc o) := by
 have hst : Step base w W μ (w.alloc o) (fun B => W B ∨ B = w.heap.size) μ := Step.alloc w W μ base o hs.ble _ fun B hB => by
  constructor
  ·rintro (h | h)
   ·exact h
   ·omega
  ·exact .inl
 refine ⟨hst, hs.keep hst (fun _ _ => rfl) (fun b B o' hb hm => ?_) fun B hB => ?_⟩
 ·obtain ⟨ob, hob⟩ := Option.ne_none_iff_exists'.1 hb
  obtain ⟨cs, g, frz⟩ := ob
  obtain ⟨B', o2, arr, e, hm', _, _, _, harr, _, _⟩ := hs.obj b _ hob
  rw [hm] at hm'
  simp only [Option.some.injEq, MB.at.injEq] at hm'
  obtain ⟨rfl, rfl⟩ := hm'
  have hlt := heap_lt harr
  exact ⟨RowKit.Below.heap_alloc w o B hlt, ⟨fun h => h.elim id fun h => by omega, .inl⟩⟩
 ·rcases hB with hB | rfl
  ·have := hs.wlt B hB; simp; omega
  ·simp
theorem Sim.alias (hs : Sim X base W μ h w) {id B o : Nat} {arr : Array Value} {e : TypeId} {cs : List AV} (g : Bool) (hid : μ id = none) (hB : base ≤ B) (hW : W B)
  (harr : w.heap[B]? = some (Go.Obj.cells arr e (0, 0))) (hfree : ∀ b o', h b ≠ none → μ b ≠ some (.at B o')) (hl : o + cs.length ≤ arr.size)
  (hc : ∀ (i : Nat) (a : AV), cs[i]? = some a → ∃ u, arr[o + i]? = some u ∧ Rep w W μ u a ∧ a.isCell = true) :
  Step base w W μ w W (upd μ id (some (.at B o))) ∧ Sim X base W (upd μ id (some (.at B o))) (upd h id (some (.cells cs g false))) w := by
 have hst : Step base w W μ w W (upd μ id (some (.at B o))) :=
  ⟨rfl, rfl, rfl, Nat.le_refl _, fun _ _ _ => rfl, fun _ _ h => h, fun _ _ h => h, fun _ arr _ _ h => ⟨arr, h, rfl⟩, fun b m hm => by
   rw [upd_ne _ _ (fun hbe => by subst hbe; rw [hid] at hm; simp at hm)]; exact hm, Nat.le_refl _⟩
 refine ⟨hst, ?_, ?_, hs.keepGlob hst, hs.wlt, hs.ble⟩
 ·intro b ob hb
  by_cases hbe : b = id
  ·subst hbe
   rw [upd_eq] at hb
   cases hb
   refine ⟨B, o, arr, e, upd_eq _ _ _, hB, fun _ => hW, by simp, harr, hl, fun i a ha => ?_⟩
   obtain ⟨u, hu, hr, hcell⟩ := hc i a ha
   exact ⟨u, hu, hr.step hst, hcell⟩
  ·rw [upd_ne _ _ hbe] at hb
   exact (hs.obj b ob hb).keep hst fun _ _ _ => ⟨rfl, Iff.rfl⟩
 ·intro b b' B1 o1 o2 hb hb' hm hm'
  by_cases hbe : b = id <;> by_cases hbe' : b' = id
  ·omega
  ·subst hbe
   rw [upd_eq] at hm
   rw [upd_ne _ _ hbe'] at hm' hb'
   simp only [Option.some.injEq, MB.at.injEq] at hm
   obtain ⟨rfl, rfl⟩ := hm
   exact absurd hm' (hfree b' o2 hb')
  ·subst hbe'
   rw [upd_eq] at hm'
   rw [upd_ne _ _ hbe] at hm hb
   simp only [Option.some.injEq, MB.at.injEq] at hm'
   obtain ⟨rfl, rfl⟩ := hm'
   exact absurd hm (hfree b o1 hb)
  ·rw [upd_ne _ _ hbe] at hm hb
   rw [upd_ne _ _ hbe'] at hm' hb'
   exact hs.inj b b' B1 o1 o2 hb hb' hm hm'
theorem Sim.block (hs : Sim X base W μ h w) {b : Nat} {cs : List AV} {g f : Bool} (hb : h b = some (.cells cs g f)) {B o : Nat} (hm : μ b = some (.at B o)) :
  base ≤ B ∧ (f = false → W B) ∧ (f = true → ¬ W B) ∧ ∃ arr e, w.heap[B]? = some (Go.Obj.cells arr e (0, 0)) ∧ o + cs.length ≤ arr.size ∧
   ∀ (i : Nat) (a : AV), cs[i]? = some a → ∃ u, arr[o + i]? = some u ∧ Rep w W μ u a ∧ a.isCell = true := by
 obtain ⟨B', o', arr, e, hm', hb', h1, h2, harr, hle, hc⟩ := hs.obj b _ hb
 rw [hm] at hm'
 simp only [Option.some.injEq, MB.at.injEq] at hm'
 obtain ⟨rfl, rfl⟩ := hm'
 exact ⟨hb', h1, h2, arr, e, harr, hle, hc⟩
theorem Sim.lives (hs : Sim X base W μ h w) {b : Nat} (hb : h b ≠ none) : ∃ B o, μ b = some (.at B o) ∧ B < w.heap.size ∧ base ≤ B := by
 obtain ⟨ob, hob⟩ := Option.ne_none_iff_exists'.1 hb
 obtain ⟨cs, g, frz⟩ := ob
 obtain ⟨B', o2, arr, e, hm', hbase, _, _, harr, _, _⟩ := hs.obj b _ hob
 exact ⟨B', o2, hm', heap_lt harr, hbase⟩
theorem Sim.new (hs : Sim X base W μ h w) {id : Nat} {arr : Array Value} {e : TypeId} {cs : List AV} (g : Bool) (hid : μ id = none) (hl : cs.length ≤ arr.size)
  (hc : ∀ (i : Nat) (a : AV), cs[i]? = some a → ∃ u, arr[i]? = some u ∧ Rep w W μ u a ∧ a.isCell = true) :
  Step base w W μ (w.alloc (.cells arr e)) (fun B => W B ∨ B = w.heap.size) (upd μ id (some (.at w.heap.size 0))) ∧
   Sim X base (fun B => W B ∨ B = w.heap.size) (upd μ id (some (.at w.heap.size 0))) (upd h id (some (.cells cs g false))) (w.alloc (.cells arr e)) := by
 obtain ⟨s1, s2⟩ := hs.grow (Go.Obj.cells arr e)
 obtain ⟨s3, s4⟩ := s2.alias (id := id) (B := w.heap.size) (o := 0) (arr := arr) (e := e) (cs := cs) g hid hs.ble (.inr rfl) (by show (w.heap.push _)[w.heap.size]? = _; simp)
  (fun b o' hb hm => by
   obtain ⟨B, o2, hm', hlt, _⟩ := hs.lives hb
   rw [hm] at hm'
   simp only [Option.some.injEq, MB.at.injEq] at hm'
   omega)
  (by simpa using hl) (fun i a ha => by
   obtain ⟨u, hu, hr, hcell⟩ := hc i a ha
   exact ⟨u, by simpa using hu, hr.step s1, hcell⟩)
 exact ⟨s1.trans s3, s4⟩
theorem Sim.drop (hs : Sim X base W μ h w) (b : Nat) : Sim X base W μ (upd h b none) w where
 obj b' o hb := by
  by_cases hbe : b' = b
  ·subst hbe; rw [upd_eq] at hb; simp at hb
  ·rw [upd_ne _ _ hbe] at hb; exact hs.obj b' o hb
 inj b1 b2 B o o' h1 h2 m1 m2 := by
  have n1 : b1 ≠ b := fun e => by subst e; simp [upd_eq] at h1
  have n2 : b2 ≠ b := fun e => by subst e; simp [upd_eq] at h2
  rw [upd_ne _ _ n1] at h1
  rw [upd_ne _ _ n2] at h2
  exact hs.inj b1 b2 B o o' h1 h2 m1 m2
 glob := hs.glob
 wlt := hs.wlt
 ble := hs.ble
theorem Step.setRow {B : Nat} {arr arr' : Array Value} {e : TypeId} {f : Nat × Nat} (harr : w.heap[B]? = some (Go.Obj.cells arr e f)) (hsz : arr'.size = arr.size) (hb : base ≤ B) (hW : W B) :
  Step base w W μ (w.setRow B arr') W μ where
 os := rfl
 tape := rfl
 output := rfl
 size := by simp
 same B' hB' hn := setRow_other w B B' arr' fun he => by
  subst he
  exact hn.elim (fun h => by omega) (fun h => h hW)
 wsub _ _ h := h
 wsup _ _ h := h
 shape B' a e' f' ha := by
  by_cases he : B' = B
  ·subst he
   rw [harr] at ha
   cases ha
   exact ⟨arr', setRow_heap w B' arr arr' e f harr, hsz⟩
  ·exact ⟨a, by rw [setRow_other w B B' arr' he]; exact ha, rfl⟩
 mu _ _ h := h
 drawn := Nat.le_refl _
theorem Sim.put (hs : Sim X base W μ h w) {b : Nat} {cs cs' : List AV} {g : Bool} (hb : h b = some (.cells cs g false)) {B o : Nat} (hm : μ b = some (.at B o))
  {arr arr' : Array Value} {e : TypeId} (harr : w.heap[B]? = some (Go.Obj.cells arr e (0, 0))) (hsz : arr'.size = arr.size) (hl : o + cs'.length ≤ arr'.size)
  (hc : ∀ (i : Nat) (a : AV), cs'[i]? = some a → ∃ u, arr'[o + i]? = some u ∧ Rep w W μ u a ∧ a.isCell = true) :
  Step base w W μ (w.setRow B arr') W μ ∧ Sim X base W μ (upd h b (some (.cells cs' g false))) (w.setRow B arr') := by
 obtain ⟨hB, hW, _, _⟩ := hs.block hb hm
 have hst : Step base w W μ (w.setRow B arr') W μ := Step.setRow harr hsz hB (hW rfl)
 refine ⟨hst, ?_, ?_, hs.keepGlob hst, fun B' hB' => by have := hs.wlt B' hB'; simpa using this, by have := hs.ble; simpa using this⟩
 ·intro b' ob hb'
  by_cases hbe : b' = b
  ·subst hbe
   rw [upd_eq] at hb'
   cases hb'
   refine ⟨B, o, arr', e, hm, hB, hW, by simp, setRow_heap w B arr arr' e (0, 0) harr, hl, fun i a ha => ?_⟩
   obtain ⟨u, hu, hr, hcell⟩ := hc i a ha
   exact ⟨u, hu, hr.step hst, hcell⟩
  ·rw [upd_ne _ _ hbe] at hb'
   refine (hs.obj b' ob hb').keep hst fun B' o' hm' => ⟨setRow_other w B B' arr' fun he => ?_, Iff.rfl⟩
   subst he
   exact hbe (hs.inj b' b B' o' o (by simp [hb']) (by simp [hb]) hm' hm)
 ·intro b1 b2 B' o1 o2 h1 h2 m1 m2
  have live : ∀ b', upd h b (some (.cells cs' g false)) b' ≠ none → h b' ≠ none := by
   intro b' hb'
   by_cases hbe : b' = b
   ·subst hbe; simp [hb]
   ·rwa [upd_ne _ _ hbe] at hb'
  exact hs.inj b1 b2 B' o1 o2 (live b1 h1) (live b2 h2) m1 m2
theorem applyWr_get (h : Heap) : ∀ (l : List (Nat × Option Obj)) (b : Nat), (∀ x ∈ l, x.1 ≠ b) → applyWr h l b = h b := by
 intro l
 induction l generalizing h with
 | nil => intro b _; rfl
 | cons x xs ih =>
  intro b hb
  obtain ⟨y, o⟩ := x
  rw [applyWr, ih _ b fun z hz => hb z (by simp [hz]), upd_ne _ _ (fun he => hb (y, o) (by simp) he.symm)]
theorem applyWr_append (h : Heap) (l l' : List (Nat × Option Obj)) : applyWr h (l ++ l') = applyWr (applyWr h l) l' := by
 induction l generalizing h with
 | nil => rfl
 | cons x xs ih => exact ih _
theorem freeze_get (h : Heap) : ∀ (ids : List Nat) (h0 : Heap) (b : Nat), (∀ b, h0 b = h b ∨ h0 b = frozenObj (h b)) →
  applyWr h0 (ids.map fun b => (b, frozenObj (h b))) b = if b ∈ ids then frozenObj (h b) else h0 b := by
 intro ids
 induction ids with
 | nil => intro h0 b _; simp [applyWr]
 | cons x xs ih =>
  intro h0 b hh
  rw [List.map_cons, applyWr, ih (upd h0 x (frozenObj (h x))) b (fun c => by
   by_cases hc : c = x
   ·subst hc; right; exact upd_eq _ _ _
   ·rw [upd_ne _ _ hc]; exact hh c)]
  by_cases hb : b ∈ xs
  ·simp [hb]
  ·by_cases hbx : b = x
   ·subst hbx; simp [hb, upd_eq]
   ·simp [hb, hbx, upd_ne _ _ hbx]
theorem frozenB_same {o : Option Obj} (h : frozenB o = true) : frozenObj o = o := by
 cases o with
 | none => rfl
 | some o =>
  obtain ⟨cs, g, f⟩ := o
  cases f with
  | true => rfl
  | false => simp [frozenB] at h
theorem freeze_some (h : Heap) (ids : List Nat) : applyWr h ((ids.filter fun b => !frozenB (h b)).map fun b => (b, frozenObj (h b))) = applyWr h (ids.map fun b => (b, frozenObj (h b))) := by
 funext b
 rw [freeze_get h _ h b fun _ => .inl rfl, freeze_get h ids h b fun _ => .inl rfl]
 by_cases hb : b ∈ ids
 ·rw [if_pos hb]
  by_cases hf : frozenB (h b) = true
  ·rw [frozenB_same hf]; split <;> rfl
  ·rw [if_pos (List.mem_filter.2 ⟨hb, by simpa using hf⟩)]
 ·rw [if_neg hb, if_neg fun hc => hb (List.mem_filter.1 hc).1]
theorem frozenObj_ne {o : Option Obj} : frozenObj o ≠ none ↔ o ≠ none := by
 cases o with
 | none => simp [frozenObj]
 | some o => cases o; simp [frozenObj]
def lessW (W : Nat → Prop) (μ : Mu) (ids : List Nat) : Nat → Prop := fun B => W B ∧ ∀ b ∈ ids, ∀ o, μ b ≠ some (.at B o)
theorem Sim.freeze (hs : Sim X base W μ h w) (ids : List Nat) (hl : ∀ b ∈ ids, h b ≠ none) :
  Step base w W μ w (lessW W μ ids) μ ∧ Sim X base (lessW W μ ids) μ (applyWr h (ids.map fun b => (b, frozenObj (h b)))) w := by
 have hst : Step base w W μ w (lessW W μ ids) μ :=
  ⟨rfl, rfl, rfl, Nat.le_refl _, fun _ _ _ => rfl, fun _ _ h => h.1, fun B hB hW => ⟨hW, fun b hb o hm => by
   obtain ⟨B', o', hm', _, hbase⟩ := hs.lives (hl b hb)
   rw [hm] at hm'
   simp only [Option.some.injEq, MB.at.injEq] at hm'
   omega⟩, fun _ arr _ _ h => ⟨arr, h, rfl⟩, fun _ _ h => h, Nat.le_refl _⟩
 have hget : ∀ b, applyWr h (ids.map fun b => (b, frozenObj (h b))) b = if b ∈ ids then frozenObj (h b) else h b := fun b => freeze_get h ids h b fun _ => .inl rfl
 have hne : ∀ b, applyWr h (ids.map fun b => (b, frozenObj (h b))) b ≠ none → h b ≠ none := by
  intro b hb
  rw [hget b] at hb
  split at hb
  ·exact frozenObj_ne.1 hb
  ·exact hb
 refine ⟨hst, ?_, fun b b' B o o' hb hb' => hs.inj b b' B o o' (hne b hb) (hne b' hb'), hs.keepGlob hst, fun B hB => hs.wlt B hB.1, hs.ble⟩
 intro b ob hb
 rw [hget b] at hb
 by_cases hbi : b ∈ ids
 ·rw [if_pos hbi] at hb
  obtain ⟨ob', hob'⟩ := Option.ne_none_iff_exists'.1 (hl b hbi)
  obtain ⟨cs, g, frz⟩ := ob'
  rw [hob'] at hb
  simp only [frozenObj, Option.some.injEq] at hb
  subst hb
  obtain ⟨B, o, arr, e, hm, hB, h1, h2, harr, hle, hc⟩ := hs.obj b _ hob'
  refine ⟨B, o, arr, e, hm, hB, by simp, fun _ hW => hW.2 b hbi o hm, harr, hle, fun i a ha => ?_⟩
  obtain ⟨u, hu, hr, hcell⟩ := hc i a ha
  exact ⟨u, hu, hr.step hst, hcell⟩
 ·rw [if_neg hbi] at hb
  refine (hs.obj b ob hb).keep hst fun B o hm => ⟨rfl, ⟨fun h => h.1, fun h => ⟨h, fun b' hb' o' hm' => ?_⟩⟩⟩
  have := hs.inj b b' B o o' (by simp [hb]) (hl b' hb') hm hm'
  subst this
  exact hbi hb'
end
section
variable {X : Ctx} {base : Nat} {W : Nat → Prop} {μ : Mu} {h : Heap} {w : World}
def Out (X : Ctx) (base : Nat) (W : Nat → Prop) (μ : Mu) (h : Heap) (w : World) (id : Nat) (d : Delta) (v : Value) (w' : World) : Prop :=
 ∃ W' μ', Step base w W μ w' W' μ' ∧ Sim X base W' μ' (applyWr h d.wr) w' ∧ Rep w' W' μ' v d.val ∧ ∀ b, μ' b ≠ none → μ b ≠ none ∨ (id ≤ b ∧ b < id + 8)
theorem Out.same (hs : Sim X base W μ h w) {id : Nat} {v : Value} {a : AV} {rd : List Nat} (hr : Rep w W μ v a) : Out X base W μ h w id ⟨a, rd, []⟩ v w :=
 ⟨W, μ, Step.refl base w W μ, hs, hr, fun _ hb => .inl hb⟩
theorem Out.drew {w1 : World} {id : Nat} {d : Delta} {v : Value} {w' : World} (h1 : Step base w W μ w1 W μ) (ho : Out X base W μ h w1 id d v w') : Out X base W μ h w id d v w' := by
 obtain ⟨W', μ', s, m, r, n⟩ := ho
 exact ⟨W', μ', h1.trans s, m, r, n⟩
section runs
variable {P : Program}
theorem run_typeInfo' {t : TypeId} {i : TypeInfo} (hi : P.info? t = some i) (w : World) : (typeInfo t).run P w = .ok i w := by simp [typeInfo, hi]
theorem run_sizeOf' {t : TypeId} {i : TypeInfo} (hi : P.info? t = some i) (w : World) : (sizeOf t).run P w = .ok i.size w := by simp [sizeOf, run_typeInfo' hi]
theorem run_isAgg' {t : TypeId} {d : TypeDesc} (hd : P.underlying t = some d) (w : World) : (isAgg t).run P w = .ok (isAggD d) w := by
 simp only [isAgg, Sem.run_bind, run_underlying hd, Result.andThen]
 cases d <;> rfl
theorem run_zeroValue' {t : TypeId} {i : TypeInfo} {z : Value} (hi : P.info? t = some i) (hz : i.zero = some z) (w : World) : (zeroValue t).run P w = .ok z w := by
 simp [zeroValue, run_typeInfo' hi, hz]
theorem run_newRow' (t : TypeId) (arr : Array Value) (w : World) : (newRow t arr).run P w = .ok ⟨w.heap.size, 0, none⟩ (w.alloc (.cells arr t)) := by
 simp only [newRow, Sem.run_bind, run_newObj, Result.andThen]; rfl
end runs
theorem shapeA_some {t : TypeId} {b : Bool} {n : Nat} (hx : shapeA X t = some (b, n)) : ∃ d i, X.P.underlying t = some d ∧ X.P.info? t = some i ∧ isAggD d = b ∧ i.size = n := by
 unfold shapeA at hx
 split at hx
 ·rename_i d i hd hi
  simp only [Option.some.injEq, Prod.mk.injEq] at hx
  exact ⟨d, i, hd, hi, hx.1, hx.2⟩
 ·simp at hx
theorem sizeA_some {t : TypeId} {n : Nat} (hx : sizeA X t = some n) : ∃ i, X.P.info? t = some i ∧ i.size = n := by
 obtain ⟨i, hi, hn⟩ := mp_eq_some.1 hx
 exact ⟨i, hi, hn⟩
theorem zeroA_some {t : TypeId} {a : AV} (hx : zeroA X t = some a) (w : World) (W : Nat → Prop) (μ : Mu) : ∃ i z, X.P.info? t = some i ∧ i.zero = some z ∧ Rep w W μ z a := by
 unfold zeroA at hx
 split at hx
 ·rename_i i hi
  split at hx
  ·rename_i z hz
   obtain ⟨a', ha, hk⟩ := mp_eq_some.1 hx
   have hr := rep_const w W μ z a' ha
   refine ⟨i, z, hi, hz, ?_⟩
   subst hk
   split
   ·exact hr.weak
   ·exact hr
  ·simp at hx
 ·simp at hx
theorem zeroN_some {t : TypeId} {a : AV} (hx : zeroN X t = some a) (w : World) (W : Nat → Prop) (μ : Mu) : ∃ i z, X.P.info? t = some i ∧ i.zero = some z ∧ Rep w W μ z a := by
 unfold zeroN at hx
 split at hx
 ·rename_i i hi
  split at hx
  ·rename_i z hz
   obtain ⟨a', ha, hk⟩ := mp_eq_some.1 hx
   have hr := rep_const w W μ z a' ha
   refine ⟨i, z, hi, hz, ?_⟩
   subst hk
   split
   ·exact hr.weak
   ·exact hr
  ·simp at hx
 ·simp at hx
theorem add_none (B o n : Nat) : (⟨B, o, none⟩ : Addr).add n = ⟨B, o + n, none⟩ := by
 unfold Addr.add; split <;> simp_all
def CellsAre (w : World) (W : Nat → Prop) (μ : Mu) (B o : Nat) (cs : List AV) : Prop :=
 ∀ (i : Nat) (a : AV), cs[i]? = some a → ∃ u, w.cell? ⟨B, o + i, none⟩ = some u ∧ Rep w W μ u a ∧ a.isCell = true
theorem CellsAre.drop {B o : Nat} {cs : List AV} (hc : CellsAre w W μ B o cs) (n : Nat) : CellsAre w W μ B (o + n) (cs.drop n) := by
 intro i a ha
 rw [List.getElem?_drop] at ha
 rw [Nat.add_assoc]
 exact hc _ a ha
theorem CellsAre.take {B o : Nat} {cs : List AV} (hc : CellsAre w W μ B o cs) (n : Nat) : CellsAre w W μ B o (cs.take n) := by
 intro i a ha
 rw [List.getElem?_take] at ha
 split at ha
 ·exact hc i a ha
 ·simp at ha
theorem cellsAt_sound (hs : Sim X base W μ h w) {p : Value} {pa : AV} (hp : Rep w W μ p pa) {cs : List AV} {rd : List Nat} (hc : cellsAt h pa = some (cs, rd)) :
  ∃ B o, p = .pointer (some ⟨B, o, none⟩) ∧ CellsAre w W μ B o cs := by
 cases hp with
 | rptr _ B o cs' us hB hW hcell hr hi =>
  simp only [cellsAt, Option.some.injEq, Prod.mk.injEq] at hc
  obtain ⟨rfl, rfl⟩ := hc
  exact ⟨B, o, rfl, fun i a ha => ⟨us i, hcell i a ha, (hr i a ha).anyMu μ, hi i a ha⟩⟩
 | ptr _ b B o off hm =>
  simp only [cellsAt] at hc
  split at hc
  ·rename_i cs' g f hb
   simp only [Option.some.injEq, Prod.mk.injEq] at hc
   obtain ⟨rfl, rfl⟩ := hc
   obtain ⟨_, _, _, arr, e, harr, hle, hcell⟩ := hs.block hb hm
   refine ⟨B, o + off, rfl, fun i a ha => ?_⟩
   rw [List.getElem?_drop] at ha
   obtain ⟨u, hu, hr, hc⟩ := hcell _ a ha
   exact ⟨u, by rw [cell?_arr harr, Nat.add_assoc]; exact hu, hr, hc⟩
  ·simp at hc
 | _ => simp [cellsAt] at hc
theorem run_loadCells' {B o : Nat} {cs : List AV} (hc : CellsAre w W μ B o cs) (P : Program) (n : Nat) (hn : n ≤ cs.length) :
  ∃ vs : Array Value, (loadCells ⟨B, o, none⟩ n).run P w = .ok vs w ∧ vs.size = n ∧ ∀ (i : Nat) (v : Value) (a : AV), vs[i]? = some v → cs[i]? = some a → Rep w W μ v a ∧ a.isCell = true := by
 have hf : ∀ i, i < cs.length → w.cell? ⟨B, o + i, none⟩ = some ((w.cell? ⟨B, o + i, none⟩).getD undef) := by
  intro i hi
  obtain ⟨u, hu, _⟩ := hc i _ (List.getElem?_eq_getElem hi)
  rw [hu]; rfl
 refine ⟨((List.range n).map fun i => (w.cell? ⟨B, o + i, none⟩).getD undef).toArray, run_loadCells w ⟨B, o, none⟩ n _ fun j hj => ?_, by simp, ?_⟩
 ·rw [add_none]; exact hf j (by omega)
 ·intro i v a hv ha
  obtain ⟨u, hu, hr, hcell⟩ := hc i a ha
  have : v = u := by
   simp only [List.getElem?_toArray, List.getElem?_map] at hv
   obtain ⟨j, hj, hv2⟩ := Option.map_eq_some_iff.1 hv
   have hj' : j = i := by
    rcases Nat.lt_or_ge i n with hl | hl
    ·rw [List.getElem?_range hl] at hj; simpa using hj.symm
    ·simp [List.getElem?_eq_none (show (List.range n).length ≤ i by simpa using hl)] at hj
   subst hj'
   rw [hu] at hv2
   exact hv2.symm
  subst this
  exact ⟨hr, hcell⟩
theorem load_sound (hs : Sim X base W μ h w) {p : Value} {pa : AV} (hp : Rep w W μ p pa) {t : TypeId} {e : Eff} (hev : aLoad X h t pa = some e) :
  ∃ d v, e = .loc d ∧ d.wr = [] ∧ (Instr.loadAt t p).run X.P w = .ok v w ∧ Rep w W μ v d.val := by
 unfold aLoad at hev
 split at hev
 ·rename_i n cs rd hsh hca
  split at hev
  ·rename_i hle
   simp only [Option.some.injEq] at hev
   subst hev
   obtain ⟨d, i, hd, hi, hagg, hn⟩ := shapeA_some hsh
   obtain ⟨B, o, rfl, hc⟩ := cellsAt_sound hs hp hca
   obtain ⟨vs, hvs, hsz, hel⟩ := run_loadCells' hc X.P n hle
   refine ⟨_, .agg vs, rfl, rfl, ?_, ?_⟩
   ·simp only [Instr.loadAt, Instr.sureAddr, Sem.run_bind, Sem.run_pure, Result.andThen, loadVar, run_isAgg' hd, hagg, if_true, run_sizeOf' hi, hn, hvs]
   ·refine .agg _ vs _ (by rw [hsz, List.length_take]; omega) ?_ ?_
    ·intro k v a hv ha
     rw [List.getElem?_take] at ha
     split at ha
     ·exact (hel k v a hv ha).1
     ·simp at ha
    ·intro k a ha
     rw [List.getElem?_take] at ha
     split at ha
     ·obtain ⟨u, _, _, hcell⟩ := hc k a ha; exact hcell
     ·simp at ha
  ·simp at hev
 ·rename_i n c cs rd hsh hca
  simp only [Option.some.injEq] at hev
  subst hev
  obtain ⟨d, i, hd, hi, hagg, hn⟩ := shapeA_some hsh
  obtain ⟨B, o, rfl, hc⟩ := cellsAt_sound hs hp hca
  obtain ⟨u, hu, hr, _⟩ := hc 0 c (by simp)
  refine ⟨_, u, rfl, rfl, ?_, hr⟩
  simp only [Nat.add_zero] at hu
  simp only [Instr.loadAt, Instr.sureAddr, Sem.run_bind, Sem.run_pure, Result.andThen, loadVar, run_isAgg' hd, hagg, Bool.false_eq_true, if_false, run_load, hu]
 ·simp at hev
theorem cells_sound {v : Value} {a : AV} (hr : Rep w W μ v a) (ht : a.tupleB = false) :
  v.cells.size = a.cells.length ∧ (∀ (i : Nat) (c : AV), a.cells[i]? = some c → ∃ u, v.cells[i]? = some u ∧ Rep w W μ u c ∧ c.isCell = true) ∧ ∀ u ∈ v.cells.toList, u.oneCell' = true := by
 have one : ∀ (hv : v.cells = #[v]) (ha : a.cells = [a]) (hc : a.isCell = true),
   v.cells.size = a.cells.length ∧ (∀ (i : Nat) (c : AV), a.cells[i]? = some c → ∃ u, v.cells[i]? = some u ∧ Rep w W μ u c ∧ c.isCell = true) ∧ ∀ u ∈ v.cells.toList, u.oneCell' = true := by
  intro hv ha hc
  rw [hv, ha]
  refine ⟨rfl, fun i c hi => ?_, fun u hu => ?_⟩
  ·cases i with
   | zero => simp at hi; subst hi; exact ⟨v, by simp, hr, hc⟩
   | succ i => simp at hi
  ·simp at hu; subst hu; exact hr.oneCell hc
 cases hr with
 | agg _ vs as h1 hr hi =>
  refine ⟨h1, fun i c hc => ?_, fun u hu => ?_⟩
  ·have hlt : i < as.length := by
    rcases Nat.lt_or_ge i as.length with hl | hl
    ·exact hl
    ·simp [AV.cells, List.getElem?_eq_none hl] at hc
   have hv : vs[i]? = some vs[i] := Array.getElem?_eq_getElem (by omega)
   exact ⟨vs[i], hv, hr i _ c hv hc, hi i c hc⟩
  ·obtain ⟨i, hi', hu⟩ := List.getElem_of_mem hu
   simp only [Value.cells, Array.length_toList] at hi'
   have hv : vs[i]? = some u := by rw [Array.getElem?_eq_getElem hi']; simp only [Value.cells, Array.getElem_toList] at hu; rw [hu]
   have ha := List.getElem?_eq_getElem (show i < as.length by omega)
   exact (hr i u _ hv ha).oneCell (hi i _ ha)
 | tuple _ vs as h1 hr => simp [AV.tupleB] at ht
 | _ => exact one rfl rfl rfl
theorem splice_length {cs : List AV} {off : Nat} {vs : List AV} (hl : off + vs.length ≤ cs.length) : (splice cs off vs).length = cs.length := by
 simp [splice, List.length_append, List.length_take, List.length_drop]; omega
theorem splice_get {α : Type} {cs vs : List α} {off i : Nat} (hl : off + vs.length ≤ cs.length) :
  (cs.take off ++ vs ++ cs.drop (off + vs.length))[i]? = if i < off then cs[i]? else if i < off + vs.length then vs[i - off]? else cs[i]? := by
 have e1 : (cs.take off).length = off := by rw [List.length_take]; omega
 by_cases h1 : i < off
 ·rw [if_pos h1, List.append_assoc, List.getElem?_append_left (by omega), List.getElem?_take, if_pos h1]
 ·rw [if_neg h1, List.append_assoc, List.getElem?_append_right (by omega), e1]
  by_cases h2 : i < off + vs.length
  ·rw [if_pos h2, List.getElem?_append_left (by omega)]
  ·rw [if_neg h2, List.getElem?_append_right (by omega), List.getElem?_drop]
   congr 1; omega
theorem splice_content {arr : Array Value} {o off : Nat} {cs : List AV} {vs : List Value} {as : List AV} (hlen : vs.length = as.length) (hle : off + as.length ≤ cs.length) (harr : o + cs.length ≤ arr.size)
  (hc : ∀ (i : Nat) (a : AV), cs[i]? = some a → ∃ u, arr[o + i]? = some u ∧ Rep w W μ u a ∧ a.isCell = true)
  (hv : ∀ (i : Nat) (c : AV), as[i]? = some c → ∃ u, vs[i]? = some u ∧ Rep w W μ u c ∧ c.isCell = true) :
  ∀ (i : Nat) (a : AV), (splice cs off as)[i]? = some a → ∃ u, (arr.toList.take (o + off) ++ vs ++ arr.toList.drop (o + off + vs.length)).toArray[o + i]? = some u ∧ Rep w W μ u a ∧ a.isCell = true := by
 intro i a ha
 unfold splice at ha
 rw [splice_get hle] at ha
 rw [List.getElem?_toArray, splice_get (by simp; omega)]
 by_cases h1 : i < off
 ·rw [if_pos h1] at ha
  rw [if_pos (by omega)]
  simpa using hc i a ha
 ·rw [if_neg h1] at ha
  rw [if_neg (by omega)]
  by_cases h2 : i < off + as.length
  ·rw [if_pos h2] at ha
   rw [if_pos (by omega), show o + i - (o + off) = i - off by omega]
   exact hv _ a ha
  ·rw [if_neg h2] at ha
   rw [if_neg (by omega)]
   simpa using hc i a ha
theorem store_sound (hs : Sim X base W μ h w) {p v : Value} {pa va : AV} (hp : Rep w W μ p pa) (hv : Rep w W μ v va) {t : TypeId} {e : Eff} (hev : aStore X h t pa va = some e) (id : Nat) :
  ∃ d w', e = .loc d ∧ (Instr.storeAt t p v).run X.P w = .ok () w' ∧ Out X base W μ h w id d undef w' := by
 unfold aStore at hev
 split at hev
 ·rename_i n b off hsz
  split at hev
  ·rename_i cs g hb
   split at hev
   ·rename_i hcond
    obtain ⟨hn, hle, ht⟩ := hcond
    simp only [Option.some.injEq] at hev
    subst hev
    obtain ⟨i, hi, hsize⟩ := sizeA_some hsz
    cases hp with
    | ptr _ _ B o _ hm =>
     obtain ⟨hbase, hW, _, arr, e, harr, hlen, hc⟩ := hs.block hb hm
     obtain ⟨c1, c2, c3⟩ := cells_sound hv ht
     have hrun := run_storeCells_at (P := X.P) B (o + off) e v.cells.toList 0 arr w harr (by simp; omega) c3
     simp only [Nat.add_zero] at hrun
     have hvl : v.cells.toList.length = va.cells.length := by simpa using c1
     obtain ⟨s1, s2⟩ := hs.put hb hm (cs' := splice cs off va.cells) (arr' := (arr.toList.take (o + off) ++ v.cells.toList ++ arr.toList.drop (o + off + v.cells.toList.length)).toArray) harr
      (by simp; omega) (by rw [splice_length (by omega)]; simp; omega)
      (splice_content hvl (by omega) hlen hc fun i c hc => by simpa using c2 i c hc)
     refine ⟨_, _, rfl, ?_, W, μ, s1, s2, .tuple _ #[] [] rfl (by simp), fun _ hb => .inl hb⟩
     have hne : ¬ v.cells.size ≠ n := by rw [c1, hn]; simp
     simp only [Instr.storeAt, Instr.sureAddr, Sem.run_bind, Sem.run_pure, Result.andThen, storeVar, run_sizeOf' hi, hsize, if_neg hne]
     exact hrun
   ·simp at hev
  ·simp at hev
 ·simp at hev
theorem alloc_sound (hs : Sim X base W μ h w) {t : TypeId} {id : Nat} (hid : μ id = none) {e : Eff} (hev : aAlloc X id t = some e) :
  ∃ d v w', e = .loc d ∧ (Instr.alloc t true (.tuple #[])).run X.P w = .ok v w' ∧ Out X base W μ h w id d v w' := by
 obtain ⟨z, hz, hk⟩ := nx_eq_some.1 hev
 split at hk
 ·simp at hk
 ·rename_i ht
  simp only [Option.some.injEq] at hk
  subst hk
  obtain ⟨i, zv, hi, hzv, hr⟩ := zeroN_some hz w W μ
  obtain ⟨c1, c2, _⟩ := cells_sound hr (by simpa using ht)
  obtain ⟨s1, s2⟩ := hs.new (id := id) (arr := zv.cells) (e := t) (cs := z.cells) false hid (by omega) (fun i a ha => by simpa using c2 i a ha)
  refine ⟨_, .pointer (some ⟨w.heap.size, 0, none⟩), _, rfl, ?_, _, _, s1, s2, .ptr _ id w.heap.size 0 0 (upd_eq _ _ _), ?_⟩
  ·simp only [Instr.alloc, Sem.run_bind, run_zeroValue' hi hzv, Result.andThen, newVar, run_newRow', Sem.run_pure]
  ·intro b hb
   by_cases hbe : b = id
   ·right; omega
   ·rw [upd_ne _ _ hbe] at hb; exact .inl hb
theorem box_sound (hs : Sim X base W μ h w) {t : TypeId} {id : Nat} (hid : μ id = none) {x : Value} {xa : AV} (hx : Rep w W μ x xa) {e : Eff} (hev : aBox id xa = some e) :
  ∃ d v w', e = .loc d ∧ (Instr.box t x).run X.P w = .ok v w' ∧ Out X base W μ h w id d v w' := by
 unfold aBox at hev
 split at hev
 ·simp at hev
 ·rename_i ht
  simp only [Option.some.injEq] at hev
  subst hev
  obtain ⟨c1, c2, _⟩ := cells_sound hx (by simpa using ht)
  obtain ⟨s1, s2⟩ := hs.new (id := id) (arr := x.cells) (e := t) (cs := xa.cells) false hid (by omega) (fun i a ha => by simpa using c2 i a ha)
  refine ⟨_, .pointer (some ⟨w.heap.size, 0, none⟩), _, rfl, ?_, _, _, s1, s2, .ptr _ id w.heap.size 0 0 (upd_eq _ _ _), ?_⟩
  ·simp only [Instr.box, Sem.run_bind, Result.andThen, newVar, run_newRow', Sem.run_pure]
  ·intro b hb
   by_cases hbe : b = id
   ·right; omega
   ·rw [upd_ne _ _ hbe] at hb; exact .inl hb
end
section
variable {X : Ctx} {base : Nat} {W : Nat → Prop} {μ : Mu} {h : Heap} {w : World}
theorem foldl_fill (off : Nat) : ∀ (vs : List Value) (k : Nat) (cs : Array Value), off + k + vs.length ≤ cs.size →
  ((vs.zipIdx k).foldl (fun cs (c, j) => cs.setIfInBounds (off + j) c) cs).toList = cs.toList.take (off + k) ++ vs ++ cs.toList.drop (off + k + vs.length) := by
 intro vs
 induction vs with
 | nil => intro k cs _; simp
 | cons v vs ih =>
  intro k cs hl
  simp only [List.zipIdx_cons, List.foldl_cons]
  rw [ih (k + 1) _ (by simp at hl ⊢; omega)]
  have hlt : off + k < cs.toList.length := by simp at hl ⊢; omega
  simp only [Array.toList_setIfInBounds, List.length_cons]
  rw [show off + (k + 1) = off + k + 1 by omega, List.take_succ_eq_append_getElem (by simpa using hlt), List.take_set, List.drop_set_of_lt (by omega)]
  rw [List.set_eq_of_length_le (by simp; omega)]
  simp only [List.getElem_set_self, List.append_assoc, List.cons_append, List.nil_append]
  rw [show off + k + 1 + vs.length = off + k + (vs.length + 1) by omega]
def ArrAre (w : World) (W : Nat → Prop) (μ : Mu) (arr : Array Value) (cs : List AV) : Prop :=
 arr.size = cs.length ∧ ∀ (i : Nat) (a : AV), cs[i]? = some a → ∃ u, arr[i]? = some u ∧ Rep w W μ u a ∧ a.isCell = true
theorem fill_sound (place : Nat → Option (Nat × Nat)) : ∀ (ps : List (Nat × AV)) (qs : List (Nat × Value)) (cs : List AV) (arr : Array Value) (cs' : List AV),
  ArrAre w W μ arr cs → qs.length = ps.length → (∀ (k : Nat) (p : Nat × AV) (q : Nat × Value), ps[k]? = some p → qs[k]? = some q → q.1 = p.1 ∧ Rep w W μ q.2 p.2) →
  fillA place cs ps = some cs' → ∃ arr', Instr.fill place arr qs = some arr' ∧ ArrAre w W μ arr' cs' := by
 intro ps
 induction ps with
 | nil =>
  intro qs cs arr cs' ha hl _ hf
  simp [fillA] at hf
  subst hf
  cases qs with
  | nil => exact ⟨arr, rfl, ha⟩
  | cons q qs => simp at hl
 | cons p ps ih =>
  intro qs cs arr cs' ha hl hel hf
  cases qs with
  | nil => simp at hl
  | cons q qs =>
   obtain ⟨k, v⟩ := q
   obtain ⟨i, a⟩ := p
   obtain ⟨hki, hr⟩ := hel 0 (i, a) (k, v) (by simp) (by simp)
   simp only at hki hr
   subst hki
   simp only [fillA] at hf
   split at hf
   ·simp at hf
   ·rename_i off size hpl
    split at hf
    ·simp at hf
    ·rename_i hcond
     simp only [not_or, Decidable.not_not, Nat.not_lt] at hcond
     obtain ⟨hsz, hle, ht⟩ := hcond
     obtain ⟨c1, c2, _⟩ := cells_sound hr (by simpa using ht)
     have hfo := foldl_fill off v.cells.toList 0 arr (by rw [ha.1]; simp; omega)
     simp only [Nat.add_zero] at hfo
     have e1 : (v.cells.zipIdx.foldl (fun cs (c, j) => cs.setIfInBounds (off + j) c) arr).toList = arr.toList.take off ++ v.cells.toList ++ arr.toList.drop (off + v.cells.toList.length) := by
      rw [← hfo, ← Array.foldl_toList, Array.toList_zipIdx]
     have e2 : v.cells.zipIdx.foldl (fun cs (c, j) => cs.setIfInBounds (off + j) c) arr = (arr.toList.take off ++ v.cells.toList ++ arr.toList.drop (off + v.cells.toList.length)).toArray := Array.toList_inj.1 (by rw [e1])
     have hvl : v.cells.toList.length = a.cells.length := by simpa using c1
     have harr' : ArrAre w W μ (arr.toList.take off ++ v.cells.toList ++ arr.toList.drop (off + v.cells.toList.length)).toArray (splice cs off a.cells) := by
      refine ⟨by rw [splice_length (by omega)]; simp [ha.1]; omega, ?_⟩
      have := splice_content (w := w) (W := W) (μ := μ) (o := 0) (off := off) (arr := arr) (cs := cs) (vs := v.cells.toList) (as := a.cells) hvl (by omega) (by rw [ha.1]; omega)
       (fun i a h => by simpa using ha.2 i a h) (fun i c hc => by simpa using c2 i c hc)
      intro i b hb
      simpa using this i b hb
     obtain ⟨arr', h1, h2⟩ := ih qs _ _ cs' harr' (by simpa using hl) (fun k p q hp hq => hel (k + 1) p q (by simpa using hp) (by simpa using hq)) hf
     refine ⟨arr', ?_, h2⟩
     simp only [Instr.fill, hpl]
     rw [if_neg (by simp [ha.1, c1, hsz]; omega), e2]
     exact h1
theorem parts_sound {ρ : Operand → Value} {env : Nat → AV} (hρ : ∀ x a, evalA X env x = some a → Rep w W μ (ρ x) a) : ∀ (l : List (Nat × Operand)) (ps : List (Nat × AV)), partsA X env l = some ps →
  l.length = ps.length ∧ ∀ (k : Nat) (p : Nat × AV) (q : Nat × Value), ps[k]? = some p → (l.map fun x => (x.1, ρ x.2))[k]? = some q → q.1 = p.1 ∧ Rep w W μ q.2 p.2 := by
 intro l
 induction l with
 | nil => intro ps hp; simp [partsA] at hp; subst hp; simp
 | cons x xs ih =>
  intro ps hp
  obtain ⟨i, o⟩ := x
  obtain ⟨a, ha, hk⟩ := nx_eq_some.1 hp
  obtain ⟨as, has, hk⟩ := mp_eq_some.1 hk
  subst hk
  obtain ⟨h1, h2⟩ := ih as has
  refine ⟨by simp [h1], fun k p q hp hq => ?_⟩
  cases k with
  | zero => simp at hp hq; subst hp; subst hq; exact ⟨rfl, hρ o a ha⟩
  | succ k => exact h2 k p q (by simpa using hp) (by simpa using hq)
theorem build_sound {ρ : Operand → Value} {env : Nat → AV} (hρ : ∀ x a, evalA X env x = some a → Rep w W μ (ρ x) a) {t : TypeId} {parts : Array (Nat × Operand)} {ps : List (Nat × AV)}
  (hps : partsA X env parts.toList = some ps) {e : Eff} (hev : aBuild X t ps = some e) :
  ∃ d v, e = .loc d ∧ d.wr = [] ∧ (Instr.build t (parts.map fun x => (x.1, ρ x.2))).run X.P w = .ok v w ∧ Rep w W μ v d.val := by
 obtain ⟨hpl, hpr⟩ := parts_sound hρ _ _ hps
 obtain ⟨z, hz, hk⟩ := nx_eq_some.1 hev
 obtain ⟨i, zv, hi, hzv, hr⟩ := zeroA_some hz w W μ
 have fin : ∀ (place : Nat → Option (Nat × Nat)) (cs : List AV), fillA place z.cells ps = some cs → z.tupleB = false → ∃ arr, Instr.fill place zv.cells (parts.map fun x => (x.1, ρ x.2)).toList = some arr ∧ Rep w W μ (.agg arr) (.agg cs) := by
  intro place cs hf ht
  obtain ⟨c1, c2, _⟩ := cells_sound hr ht
  obtain ⟨arr, h1, h2, h3⟩ := fill_sound place ps (parts.map fun x => (x.1, ρ x.2)).toList z.cells zv.cells cs ⟨c1, c2⟩ (by simpa using hpl) (fun k p q hp hq => hpr k p q hp (by simpa using hq)) hf
  refine ⟨arr, h1, .agg _ arr cs h2 (fun i v a hv ha => ?_) fun i a ha => ?_⟩
  ·obtain ⟨u, hu, hr, _⟩ := h3 i a ha
   rw [hv] at hu; cases hu; exact hr
  ·obtain ⟨u, _, _, hc⟩ := h3 i a ha; exact hc
 split at hk
 ·simp at hk
 rename_i ht
 have ht : z.tupleB = false := by simpa using ht
 have hgx : ∀ pl : List (Nat × Nat), (fun x : Nat => pl.toArray[x]?) = fun x : Nat => pl[x]? := fun pl => by funext x; exact List.getElem?_toArray
 split at hk
 ·rename_i fields hu
  obtain ⟨pl, hpla, hk⟩ := nx_eq_some.1 hk
  obtain ⟨cs, hf, hk⟩ := nx_eq_some.1 hk
  simp only [valE, Option.some.injEq] at hk
  subst hk
  have hplaces : ∀ (l : List Field) (pl : List (Nat × Nat)), fieldPlaces X l = some pl → (l.mapM fun f => do pure (f.offset, ← sizeOf f.type) : Sem (List (Nat × Nat))).run X.P w = .ok pl w := by
   intro l
   induction l with
   | nil => intro pl hp; simp [fieldPlaces] at hp; subst hp; rfl
   | cons f fs ih =>
    intro pl hp
    obtain ⟨n, hn, hk⟩ := nx_eq_some.1 hp
    obtain ⟨ns, hns, hk⟩ := mp_eq_some.1 hk
    subst hk
    obtain ⟨j, hj, hsz⟩ := sizeA_some hn
    simp only [List.mapM_cons, Sem.run_bind, run_sizeOf' hj, hsz, Result.andThen, Sem.run_pure, ih ns hns]
  have hpl2 := hplaces fields.toList pl hpla
  have hpl3 : (fields.mapM fun f => do pure (f.offset, ← sizeOf f.type) : Sem (Array (Nat × Nat))).run X.P w = .ok pl.toArray w := by
   rw [Array.mapM_eq_mapM_toList]
   simp only [Sem.run_map, hpl2, Result.andThen]
  obtain ⟨arr, h1, h2⟩ := fin _ cs hf ht
  refine ⟨_, _, rfl, rfl, ?_, h2⟩
  simp only [Instr.build, Sem.run_bind, run_zeroValue' hi hzv, run_underlying hu, Result.andThen, hpl3, hgx, h1, Sem.run_pure]
 ·rename_i n elem hu
  obtain ⟨size, hsize, hk⟩ := nx_eq_some.1 hk
  obtain ⟨cs, hf, hk⟩ := nx_eq_some.1 hk
  simp only [valE, Option.some.injEq] at hk
  subst hk
  obtain ⟨j, hj, hsz⟩ := sizeA_some hsize
  obtain ⟨arr, h1, h2⟩ := fin _ cs hf ht
  refine ⟨_, _, rfl, rfl, ?_, h2⟩
  simp only [Instr.build, Sem.run_bind, run_zeroValue' hi hzv, run_underlying hu, Result.andThen, run_sizeOf' hj, hsz, h1, Sem.run_pure]
 ·simp at hk
theorem replA_get {zc : List AV} {s : Nat} (hz : zc.length = s) (hs : 0 < s) : ∀ (n i : Nat), i < n * s → (replA n zc)[i]? = zc[i % s]? := by
 intro n
 induction n with
 | zero => intro i hi; simp at hi
 | succ n ih =>
  intro i hi
  unfold replA at *
  rw [List.replicate_succ, List.flatten_cons]
  by_cases h : i < s
  ·rw [List.getElem?_append_left (by omega), Nat.mod_eq_of_lt h]
  ·rw [List.getElem?_append_right (by omega), hz, ih (i - s) (by rw [Nat.succ_mul] at hi; omega)]
   congr 1
   rw [Nat.mod_eq_sub_mod (a := i) (by omega)]
theorem replA_length {zc : List AV} {s : Nat} (hz : zc.length = s) (n : Nat) : (replA n zc).length = n * s := by
 unfold replA
 rw [List.length_flatten, List.map_replicate, List.sum_replicate_nat, hz]
theorem repl_sound {zv : Value} {z : AV} (hr : Rep w W μ zv z) (ht : z.tupleB = false) {s : Nat} (hz : z.cells.length = s) (hs : 0 < s) (n : Nat) :
  ArrAre w W μ ((Array.range (n * s)).map (zv.cells[· % zv.cells.size]!)) (replA n z.cells) := by
 obtain ⟨c1, c2, _⟩ := cells_sound hr ht
 refine ⟨by rw [replA_length hz]; simp, fun i a ha => ?_⟩
 have hi : i < n * s := by
  rcases Nat.lt_or_ge i (n * s) with hl | hl
  ·exact hl
  ·rw [← replA_length hz n] at hl; simp [List.getElem?_eq_none hl] at ha
 rw [replA_get hz hs n i hi] at ha
 obtain ⟨u, hu, hr', hc⟩ := c2 _ a ha
 refine ⟨u, ?_, hr', hc⟩
 rw [Array.getElem?_map, Array.getElem?_range, if_pos hi, Option.map_some, c1, hz]
 congr 1
 rw [getElem!_def, hu]
theorem new_out (hs : Sim X base W μ h w) {id : Nat} (hid : μ id = none) {t : TypeId} {arr : Array Value} {cs : List AV} (g : Bool) (hl : cs.length ≤ arr.size)
  (hc : ∀ (i : Nat) (a : AV), cs[i]? = some a → ∃ u, arr[i]? = some u ∧ Rep w W μ u a ∧ a.isCell = true) {len cap sz : Nat} (capA : Option Nat) (hcap : ∀ k, capA = some k → cap = k) (hlc : len ≤ cap) (hsz : cap * sz ≤ arr.size) (rd : List Nat) :
  Out X base W μ h w id ⟨.sl id 0 len capA sz, rd, [(id, some (.cells cs g false))]⟩ (.slice (some ⟨w.heap.size, 0, none⟩) len cap) (w.alloc (.cells arr t)) := by
 obtain ⟨s1, s2⟩ := hs.new (id := id) (arr := arr) (e := t) (cs := cs) g hid hl hc
 refine ⟨_, _, s1, s2, ?_, ?_⟩
 ·exact .sl _ id w.heap.size 0 0 len cap capA sz (upd_eq _ _ _) hlc hcap ⟨arr, t, (0, 0), by show (w.heap.push _)[w.heap.size]? = _; simp, by omega⟩
 ·intro b hb
  by_cases hbe : b = id
  ·right; omega
  ·rw [upd_ne _ _ hbe] at hb; exact .inl hb
theorem buildSlice_sound (hs : Sim X base W μ h w) {id : Nat} (hid : μ id = none) {ρ : Operand → Value} {env : Nat → AV} (hρ : ∀ x a, evalA X env x = some a → Rep w W μ (ρ x) a) {t : TypeId} {len : Nat} {parts : Array (Nat × Operand)} {ps : List (Nat × AV)}
  (hps : partsA X env parts.toList = some ps) {e : Eff} (hev : aBuildSlice X id t len ps = some e) :
  ∃ d v w', e = .loc d ∧ (Instr.buildSlice t len (parts.map fun x => (x.1, ρ x.2))).run X.P w = .ok v w' ∧ Out X base W μ h w id d v w' := by
 obtain ⟨hpl, hpr⟩ := parts_sound hρ _ _ hps
 unfold aBuildSlice at hev
 split at hev
 ·rename_i elem hu
  obtain ⟨size, hsize, hk⟩ := nx_eq_some.1 hev
  split at hk
  ·simp at hk
  rename_i hcond
  simp only [not_or, Nat.not_lt] at hcond
  obtain ⟨hbig, hs0⟩ := hcond
  obtain ⟨z, hz, hk⟩ := nx_eq_some.1 hk
  split at hk
  ·simp at hk
  rename_i hcond
  simp only [not_or, Decidable.not_not] at hcond
  obtain ⟨hzl, ht⟩ := hcond
  obtain ⟨cs, hf, hk⟩ := nx_eq_some.1 hk
  simp only [Option.some.injEq] at hk
  subst hk
  obtain ⟨i, zv, hi, hzv, hr⟩ := zeroA_some hz w W μ
  obtain ⟨j, hj, hsz⟩ := sizeA_some hsize
  have hrep := repl_sound hr (by simpa using ht) hzl (by omega) len
  obtain ⟨arr, h1, h2, h3⟩ := fill_sound (fun i => some (i * size, size)) ps (parts.map fun x => (x.1, ρ x.2)).toList _ _ cs hrep (by simpa using hpl) (fun k p q hp hq => hpr k p q hp (by simpa using hq)) hf
  have hcl : cs.length = len * size := by
   have hfl : ∀ (ps : List (Nat × AV)) (c c' : List AV), fillA (fun i => some (i * size, size)) c ps = some c' → c'.length = c.length := by
    intro ps
    induction ps with
    | nil => intro c c' h; simp [fillA] at h; rw [h]
    | cons p ps ih =>
     intro c c' h
     obtain ⟨i, a⟩ := p
     simp only [fillA] at h
     split at h
     ·simp at h
     ·rename_i hcond
      simp only [not_or, Decidable.not_not, Nat.not_lt] at hcond
      rw [ih _ _ h, splice_length (by omega)]
   rw [hfl ps _ cs hf, replA_length hzl]
  refine ⟨_, .slice (some ⟨w.heap.size, 0, none⟩) len len, _, rfl, ?_, new_out hs hid (t := elem) (arr := arr) (cs := cs) false (by omega) h3 (some len) (by simp) (Nat.le_refl _) (by omega) []⟩
  simp only [Instr.buildSlice, Sem.run_bind, run_underlying hu, Result.andThen, run_sizeOf' hj, hsz]
  rw [if_neg (by omega)]
  by_cases h0 : len * size = 0
  ·have e0 : (Array.range (len * size)).map (fun x => (#[] : Array Value)[x % (#[] : Array Value).size]!) = (Array.range (len * size)).map (zv.cells[· % zv.cells.size]!) := by rw [h0]; simp
   simp only [if_pos h0, Sem.run_pure, e0, h1, Sem.run_bind, run_newRow', Result.andThen]
  ·simp only [if_neg h0, Sem.run_pure, run_zeroValue' hi hzv, h1, Sem.run_bind, run_newRow', Result.andThen]
 ·simp at hev
theorem makeSlice_sound (hs : Sim X base W μ h w) {id : Nat} (hid : μ id = none) {t : TypeId} {l c : Value} {la ca : AV} (hl : Rep w W μ l la) (hc : Rep w W μ c ca) {e : Eff} (hev : aMakeSlice X id t la ca = some e) :
  ∃ d v w', e = .loc d ∧ (Instr.makeSlice t l c).run X.P w = .ok v w' ∧ Out X base W μ h w id d v w' := by
 unfold aMakeSlice at hev
 split at hev
 ·rename_i elem k1 ln k2 cn hu
  cases hl
  cases hc
  obtain ⟨⟨size, bytes⟩, hsb, hk⟩ := nx_eq_some.1 hev
  obtain ⟨i, hi, hh⟩ := mp_eq_some.1 hsb
  simp only [Prod.mk.injEq] at hh
  obtain ⟨rfl, rfl⟩ := hh
  ·obtain ⟨z, hz, hk⟩ := nx_eq_some.1 hk
   split at hk
   ·simp at hk
   rename_i hcond
   simp only [not_or, Decidable.not_not] at hcond
   obtain ⟨hzl, hs0, ht⟩ := hcond
   split at hk
   ·rename_i hb
    obtain ⟨b1, b2, b3, b4⟩ := hb
    simp only [Option.some.injEq] at hk
    subst hk
    obtain ⟨i', zv, hi', hzv, hr⟩ := zeroA_some hz w W μ
    rw [hi] at hi'
    cases hi'
    have hrep := repl_sound hr (by simpa using ht) hzl (by omega) cn.toNat
    have w1 : IntKind.i64.wrap ln = ln := by simp [IntKind.wrap, IntKind.bits]; omega
    have w2 : IntKind.i64.wrap cn = cn := by simp [IntKind.wrap, IntKind.bits]; omega
    refine ⟨_, .slice (some ⟨w.heap.size, 0, none⟩) ln.toNat cn.toNat, _, rfl, ?_, new_out hs hid (t := elem) (arr := (Array.range (cn.toNat * i.size)).map (zv.cells[· % zv.cells.size]!)) (cs := replA cn.toNat z.cells) false (by rw [hrep.1]; omega) hrep.2 (some cn.toNat) (by simp) (by omega) (by rw [hrep.1, replA_length hzl]; omega) []⟩
    have hbig : ¬ ((i.bytes : Int) * cn > 2 ^ 48) := by omega
    simp only [Instr.makeSlice, Sem.run_bind, run_underlying hu, Result.andThen, asInt, asIntOf, Sem.run_pure, run_typeInfo' hi, w1, w2]
    rw [if_neg (by simp; omega)]
    simp only [Sem.run_bind, run_askRoom, Result.andThen, run_sizeOf' hi, Sem.run_pure]
    by_cases h0 : cn.toNat * i.size = 0
    ·have e0 : (Array.range (cn.toNat * i.size)).map (fun x => (#[] : Array Value)[x % (#[] : Array Value).size]!) = (Array.range (cn.toNat * i.size)).map (zv.cells[· % zv.cells.size]!) := by rw [h0]; simp
     simp only [if_pos h0, Sem.run_pure, e0, Sem.run_bind, run_newRow', Result.andThen]
    ·simp only [if_neg h0, Sem.run_pure, run_zeroValue' hi hzv, Sem.run_bind, run_newRow', Result.andThen]
   ·simp at hk
 ·simp at hev
def Pure1 (X : Ctx) (W : Nat → Prop) (μ : Mu) (w : World) (s : Sem Value) (e : Eff) : Prop :=
 ∃ d v, e = .loc d ∧ d.wr = [] ∧ s.run X.P w = .ok v w ∧ Rep w W μ v d.val
theorem Pure1.mk {s : Sem Value} {a : AV} {v : Value} {e : Eff} (he : valE a = some e) (hr : s.run X.P w = .ok v w) (hrep : Rep w W μ v a) : Pure1 X W μ w s e := by
 simp only [valE, Option.some.injEq] at he
 subst he
 exact ⟨_, v, rfl, rfl, hr, hrep⟩
theorem fieldAddr_sound {p : Value} {pa : AV} (hp : Rep w W μ p pa) {s : TypeId} {fld : Nat} {e : Eff} (hev : aFieldAddr X s pa fld = some e) : Pure1 X W μ w (Instr.fieldAt s p fld) e := by
 unfold aFieldAddr at hev
 split at hev
 ·rename_i fields hu
  split at hev
  ·rename_i f hf
   obtain ⟨n, hn, hk⟩ := nx_eq_some.1 hev
   obtain ⟨i, hi, hsz⟩ := sizeA_some hn
   split at hk
   ·simp at hk
   rename_i hn0
   have hrun : ∀ B o, (Instr.fieldAt s (.pointer (some ⟨B, o, none⟩)) fld).run X.P w = .ok (.pointer (some ⟨B, o + f.offset, none⟩)) w := by
    intro B o
    simp only [Instr.fieldAt, Sem.run_bind, run_underlying hu, Result.andThen, hf, Instr.sureAddr, Sem.run_pure, fieldPlace, run_sizeOf' hi, hsz, if_neg hn0, add_none]
   split at hk
   ·rename_i b off
    cases hp with
    | ptr _ _ B o _ hm => exact Pure1.mk hk (hrun B (o + off)) (by rw [Nat.add_assoc]; exact .ptr _ b B o _ hm)
   ·rename_i cs
    cases hp with
    | rptr _ B o _ us hB hW hc hr hi' =>
     refine Pure1.mk hk (hrun B o) (.rptr _ B (o + f.offset) _ (fun i => us (f.offset + i)) hB hW ?_ ?_ ?_)
     ·intro i a ha; rw [List.getElem?_drop] at ha; rw [Nat.add_assoc]; exact hc _ a ha
     ·intro i a ha; rw [List.getElem?_drop] at ha; exact hr _ a ha
     ·intro i a ha; rw [List.getElem?_drop] at ha; exact hi' _ a ha
   ·simp at hk
  ·simp at hev
 ·simp at hev
theorem part_sound {vs : Array Value} {as : List AV} (hr : Rep w W μ (.agg vs) (.agg as)) {t : TypeId} {off : Nat} {a : AV} (hp : partAV X t as off = some a) :
  ∃ v, (part t vs off).run X.P w = .ok v w ∧ Rep w W μ v a := by
 cases hr with
 | agg _ _ _ h1 hel hi =>
  unfold partAV at hp
  split at hp
  ·rename_i n hsh
   simp only [Option.some.injEq] at hp
   subst hp
   obtain ⟨d, i, hd, hi', hagg, hn⟩ := shapeA_some hsh
   refine ⟨.agg (vs.extract off (off + n)), ?_, .agg _ _ _ ?_ ?_ ?_⟩
   ·simp only [part, Sem.run_bind, run_isAgg' hd, hagg, Result.andThen, if_true, run_sizeOf' hi', hn, Sem.run_pure]
   ·simp [h1]; omega
   ·intro k v a hv ha
    obtain ⟨hlt, ha⟩ := drop_take_get ha
    rw [Array.getElem?_extract] at hv
    split at hv
    ·exact hel _ v a hv ha
    ·simp at hv
   ·intro k a ha
    obtain ⟨hlt, ha⟩ := drop_take_get ha
    exact hi _ a ha
  ·rename_i n hsh
   obtain ⟨d, i, hd, hi', hagg, hn⟩ := shapeA_some hsh
   have hlt : off < as.length := by
    rcases Nat.lt_or_ge off as.length with hl | hl
    ·exact hl
    ·simp [List.getElem?_eq_none hl] at hp
   have hv : vs[off]? = some vs[off] := Array.getElem?_eq_getElem (by omega)
   refine ⟨vs[off], ?_, hel off _ a hv hp⟩
   simp only [part, Sem.run_bind, run_isAgg' hd, hagg, Result.andThen, Bool.false_eq_true, if_false, hv, Sem.run_pure]
  ·simp at hp
theorem field_sound {x : Value} {xa : AV} (hx : Rep w W μ x xa) {t : TypeId} {fld : Nat} {e : Eff} (hev : aField X t xa fld = some e) : Pure1 X W μ w (Instr.field t x fld) e := by
 unfold aField at hev
 split at hev
 ·rename_i fields cs hu
  split at hev
  ·rename_i f hf
   obtain ⟨a, ha, hk⟩ := nx_eq_some.1 hev
   cases hx with
   | agg _ vs as h1 hel hi =>
    obtain ⟨v, hv, hr⟩ := part_sound (.agg _ vs cs h1 hel hi) ha
    refine Pure1.mk hk ?_ hr
    simp only [Instr.field, Sem.run_bind, run_underlying hu, Result.andThen, hf, asAgg, Sem.run_pure, hv]
  ·simp at hev
 ·simp at hev
theorem Rep.ro_drop {v : Value} {B o len cap : Nat} {cs : List AV} {full : Bool} {us : Nat → Value} (hB : B < w.heap.size) (hW : ¬ W B)
   (hc : ∀ (i : Nat) (a : AV), cs[i]? = some a → w.cell? ⟨B, o + i, none⟩ = some (us i)) (hr : ∀ (i : Nat) (a : AV), cs[i]? = some a → Rep w W noMu (us i) a) (hi : ∀ (i : Nat) (a : AV), cs[i]? = some a → a.isCell = true) (n : Nat) (μ : Mu) :
   Rep w W μ (.pointer (some ⟨B, o + n, none⟩)) (.rptr (cs.drop n)) := by
 refine .rptr _ B (o + n) _ (fun i => us (n + i)) hB hW ?_ ?_ ?_
 ·intro i a ha; rw [List.getElem?_drop] at ha; rw [Nat.add_assoc]; exact hc _ a ha
 ·intro i a ha; rw [List.getElem?_drop] at ha; exact hr _ a ha
 ·intro i a ha; rw [List.getElem?_drop] at ha; exact hi _ a ha
theorem indexAddr_sound {x i : Value} {xa ia : AV} (hx : Rep w W μ x xa) (hi : Rep w W μ i ia) {t : TypeId} {e : Eff} (hev : aIndexAddr X t xa ia = some e) : Pure1 X W μ w (Instr.indexAt t x i) e := by
 unfold aIndexAddr at hev
 split at hev
 ·rename_i elem k n hu
  obtain ⟨size, hsize, hk⟩ := nx_eq_some.1 hev
  obtain ⟨j, hj, hsz⟩ := sizeA_some hsize
  cases hi
  split at hk
  ·simp at hk
  have hrun : ∀ B o len cap, 0 ≤ n ∧ n < (len : Nat) → (Instr.indexAt t (.slice (some ⟨B, o, none⟩) len cap) (.int k n)).run X.P w = .ok (.pointer (some ⟨B, o + n.toNat * size, none⟩)) w := by
   intro B o len cap hb
   simp only [Instr.indexAt, Sem.run_bind, asIntOf, Sem.run_pure, run_underlying hu, Result.andThen]
   rw [if_pos hb]
   simp only [Sem.run_bind, run_sizeOf' hj, hsz, Result.andThen, Sem.run_pure, add_none]
  split at hk
  ·rename_i cs len full
   split at hk
   ·rename_i hb
    cases hx with
    | ro0 _ a c _ hf => simp at hb; omega
    | ro _ B o _ cap _ _ us hB hW hl hf hc hr hi' => exact Pure1.mk hk (hrun B o len cap hb) (Rep.ro_drop (v := undef) (len := 0) (cap := 0) (full := false) hB hW hc hr hi' _ μ)
   ·simp at hk
  ·rename_i b off len cap sz
   split at hk
   ·rename_i hb
    cases hx with
    | sl _ _ B o _ _ c _ _ hm hl hkc hs' => exact Pure1.mk hk (hrun B (o + off) len c ⟨hb.1, hb.2.1⟩) (by rw [Nat.add_assoc]; exact .ptr _ b B o _ hm)
   ·simp at hk
  ·simp at hk
 ·rename_i len elem k n hu
  obtain ⟨size, hsize, hk⟩ := nx_eq_some.1 hev
  obtain ⟨j, hj, hsz⟩ := sizeA_some hsize
  cases hi
  split at hk
  ·simp at hk
  split at hk
  ·rename_i hb
   have hrun : ∀ B o, (Instr.indexAt t (.pointer (some ⟨B, o, none⟩)) (.int k n)).run X.P w = .ok (.pointer (some ⟨B, o + n.toNat * size, none⟩)) w := by
    intro B o
    simp only [Instr.indexAt, Sem.run_bind, asIntOf, Sem.run_pure, run_underlying hu, Result.andThen, Instr.sureAddr]
    rw [if_pos hb]
    simp only [Sem.run_bind, run_sizeOf' hj, hsz, Result.andThen, Sem.run_pure, add_none]
   split at hk
   ·cases hx with
    | rptr _ B o _ us hB hW hc hr hi' => exact Pure1.mk hk (hrun B o) (Rep.ro_drop (v := undef) (len := 0) (cap := 0) (full := false) hB hW hc hr hi' _ μ)
   ·rename_i b off
    cases hx with
    | ptr _ _ B o _ hm => exact Pure1.mk hk (hrun B (o + off)) (by rw [Nat.add_assoc]; exact .ptr _ b B o _ hm)
   ·simp at hk
  ·simp at hk
 ·simp at hev
theorem index_sound {x i : Value} {xa ia : AV} (hx : Rep w W μ x xa) (hi : Rep w W μ i ia) {t : TypeId} {e : Eff} (hev : aIndex X t xa ia = some e) : Pure1 X W μ w (Instr.index t x i) e := by
 unfold aIndex at hev
 split at hev
 ·rename_i len elem cs k n hu
  obtain ⟨size, hsize, hk⟩ := nx_eq_some.1 hev
  obtain ⟨j, hj, hsz⟩ := sizeA_some hsize
  cases hi
  split at hk
  ·rename_i hb
   obtain ⟨a, ha, hk⟩ := nx_eq_some.1 hk
   cases hx with
   | agg _ vs as h1 hel hi =>
    obtain ⟨v, hv, hr⟩ := part_sound (.agg _ vs cs h1 hel hi) ha
    refine Pure1.mk hk ?_ hr
    simp only [Instr.index, Sem.run_bind, asIntOf, Sem.run_pure, run_underlying hu, Result.andThen]
    rw [if_pos hb]
    simp only [Sem.run_bind, run_sizeOf' hj, hsz, Result.andThen, hv]
  ·simp at hk
 ·rename_i s k n hu
  cases hi
  cases hx
  split at hev
  ·rename_i h0
   split at hev
   ·rename_i b hb
    refine Pure1.mk hev ?_ (.int _ _ _)
    simp only [Instr.index, Sem.run_bind, asIntOf, Sem.run_pure, run_underlying hu, Result.andThen, if_pos h0, hb]
   ·simp at hev
  ·simp at hev
 ·simp at hev
end
end Go.Proofs.YtenhjccadhlgoaaGreat.Abs
