/-
  Lists of digits to the base 10^9 and their values. No conditions. Lists of ints in memory: loads and stores of theirs. No conditions. The rules of the walk, put together. No conditions. Package integer: lists of digits; what of, compare and their kin answer. No conditions. Package integer: sums and differences of digits. No conditions. Package integer: differences of digits; sums. No conditions. Package integer: sums of integers, by value. No conditions. Package integer: two, and products of integers, by value. No conditions. Package integer: short and scaled: digits by a digit. No conditions.
-/
import Derived.Test.YtjccikgdebgebaaGreatDoorQ02
import Derived.Test.YtjccikgdebgebaaGreatDoorQ03
set_option linter.unusedSimpArgs false
set_option linter.unusedVariables false
section
namespace Go.Proofs.YtjccikgdebgebaaGreatDoor.Abs
abbrev Bz : Int := 1000000000
abbrev Bn : Nat := 1000000000
/-- The value of a list of digits, the least one first. -/
def val : List Int → Int
  | [] => 0
  | d :: l => d + Bz * val l
def okd (l : List Int) : Prop := ∀ d ∈ l, 0 ≤ d ∧ d < Bz
/-- The digits of a number. -/
def digs (n : Nat) : List Int := if h : n = 0 then [] else ((n % Bn : Nat) : Int) :: digs (n / Bn)
termination_by n
decreasing_by exact Nat.div_lt_self (by omega) (by decide)
theorem digs_zero : digs 0 = [] := by unfold digs; rfl
theorem digs_pos (n : Nat) (h : n ≠ 0) : digs n = ((n % Bn : Nat) : Int) :: digs (n / Bn) := by
  conv => lhs; unfold digs
  rw [dif_neg h]
theorem digs_lt (n : Nat) (h0 : n ≠ 0) (h : n < Bn) : digs n = [(n : Int)] := by
  rw [digs_pos n h0, Nat.mod_eq_of_lt h, Nat.div_eq_of_lt h, digs_zero]
theorem digs_two (n : Nat) (h0 : Bn ≤ n) (h : n < Bn * Bn) : digs n = [((n % Bn : Nat) : Int), ((n / Bn : Nat) : Int)] := by
  rw [digs_pos n (by simp [Bn] at h0; omega), digs_lt (n / Bn) (by simp [Bn] at h0 ⊢; omega) (by simp [Bn] at h ⊢; omega)]
theorem digs_three (n : Nat) (h0 : Bn * Bn ≤ n) (h : n < Bn * Bn * Bn) : digs n = [((n % Bn : Nat) : Int), ((n / Bn % Bn : Nat) : Int), ((n / Bn / Bn : Nat) : Int)] := by
  rw [digs_pos n (by simp [Bn] at h0; omega), digs_two (n / Bn) (by simp [Bn] at h0 ⊢; omega) (by simp [Bn] at h ⊢; omega)]
theorem okd_nil : okd [] := by simp [okd]
theorem okd_cons (d : Int) (l : List Int) : okd (d :: l) ↔ (0 ≤ d ∧ d < Bz) ∧ okd l := by simp [okd]
theorem okd_app (l m : List Int) : okd (l ++ m) ↔ okd l ∧ okd m := by
  simp only [okd, List.mem_append]; exact ⟨fun h => ⟨fun d hd => h d (.inl hd), fun d hd => h d (.inr hd)⟩, fun h d hd => hd.elim (h.1 d) (h.2 d)⟩
theorem okd_take {l : List Int} (h : okd l) (n : Nat) : okd (l.take n) := fun d hd => h d (List.mem_of_mem_take hd)
theorem okd_drop {l : List Int} (h : okd l) (n : Nat) : okd (l.drop n) := fun d hd => h d (List.mem_of_mem_drop hd)
theorem okd_getD {l : List Int} (h : okd l) (n : Nat) : 0 ≤ l.getD n 0 ∧ l.getD n 0 < Bz := by
  rw [List.getD_eq_getElem?_getD]
  by_cases hn : n < l.length
  · rw [List.getElem?_eq_getElem hn]; exact h _ (List.getElem_mem hn)
  · rw [List.getElem?_eq_none (by omega)]; simp [Bz]
theorem okd_set {l : List Int} (h : okd l) (n : Nat) (d : Int) (hd : 0 ≤ d ∧ d < Bz) : okd (l.set n d) := by
  intro x hx
  rcases List.mem_or_eq_of_mem_set hx with h1 | h1
  · exact h x h1
  · exact h1 ▸ hd
theorem okd_rep (n : Nat) : okd (List.replicate n 0) := by intro d hd; rw [List.eq_of_mem_replicate hd]; simp [Bz]
theorem okd_digs (n : Nat) : okd (digs n) := by
  induction n using Nat.strongRecOn with
  | ind n ih =>
    by_cases h : n = 0
    · rw [h, digs_zero]; exact okd_nil
    · rw [digs_pos n h, okd_cons]
      exact ⟨by simp only [Bz, Bn]; omega, ih _ (Nat.div_lt_self (by omega) (by decide))⟩
theorem val_nil : val [] = 0 := rfl
theorem val_cons (d : Int) (l : List Int) : val (d :: l) = d + Bz * val l := rfl
theorem val_digs (n : Nat) : val (digs n) = n := by
  induction n using Nat.strongRecOn with
  | ind n ih =>
    by_cases h : n = 0
    · rw [h, digs_zero]; rfl
    · rw [digs_pos n h, val, ih _ (Nat.div_lt_self (by omega) (by decide))]
      simp only [Bz, Bn]; omega
theorem val_nonneg {l : List Int} (h : okd l) : 0 ≤ val l := by
  induction l with
  | nil => exact Int.le_refl 0
  | cons d l ih =>
    rw [okd_cons] at h
    have := ih h.2
    rw [val]; simp only [Bz] at *; omega
theorem val_lt {l : List Int} (h : okd l) : val l < Bz ^ l.length := by
  induction l with
  | nil => decide
  | cons d l ih =>
    rw [okd_cons] at h
    have h1 := ih h.2
    rw [val, List.length_cons, Int.pow_succ]
    generalize Bz ^ l.length = p at *
    simp only [Bz] at *; omega
theorem val_app (l m : List Int) : val (l ++ m) = val l + Bz ^ l.length * val m := by
  induction l with
  | nil => simp [val]
  | cons d l ih =>
    rw [List.cons_append, val, ih, val, List.length_cons, Int.pow_succ]
    grind
theorem val_rep (n : Nat) : val (List.replicate n 0) = 0 := by
  induction n with
  | zero => rfl
  | succ n ih => rw [List.replicate_succ, val, ih]; rfl
/-- Setting a digit. -/
theorem val_set (l : List Int) (n : Nat) (d : Int) (h : n < l.length) : val (l.set n d) = val l + Bz ^ n * (d - l.getD n 0) := by
  induction l generalizing n with
  | nil => simp at h
  | cons x l ih =>
    cases n with
    | zero => simp [val]; omega
    | succ n =>
      rw [List.set_cons_succ, val, val, ih n (by simpa using h), Int.pow_succ, List.getD_cons_succ]
      grind
theorem val_split (l : List Int) (n : Nat) (h : n < l.length) : val l = val (l.take n) + Bz ^ n * l.getD n 0 + Bz ^ (n + 1) * val (l.drop (n + 1)) := by
  have e : l = l.take n ++ (l.getD n 0 :: l.drop (n + 1)) := by
    have hd : l.getD n 0 = l[n] := by simp [List.getD_eq_getElem?_getD, List.getElem?_eq_getElem h]
    rw [hd, ← List.drop_eq_getElem_cons h, List.take_append_drop]
  conv => lhs; rw [e]
  rw [val_app, val, List.length_take, Nat.min_eq_left (by omega), Int.pow_succ]
  grind
theorem val_take_succ (l : List Int) (n : Nat) (h : n < l.length) : val (l.take (n + 1)) = val (l.take n) + Bz ^ n * l.getD n 0 := by
  have hd : l.getD n 0 = l[n] := by simp [List.getD_eq_getElem?_getD, List.getElem?_eq_getElem h]
  rw [List.take_succ_eq_append_getElem h, val_app, List.length_take, Nat.min_eq_left (by omega), hd]; simp [val]
theorem val_drop (l : List Int) (n : Nat) (h : n < l.length) : val (l.drop n) = l.getD n 0 + Bz * val (l.drop (n + 1)) := by
  have hd : l.getD n 0 = l[n] := by simp [List.getD_eq_getElem?_getD, List.getElem?_eq_getElem h]
  rw [List.drop_eq_getElem_cons h, val, hd]
/-- Without the zeros at the end. -/
def trim (l : List Int) : List Int := (l.reverse.dropWhile (· == 0)).reverse
theorem trim_nil : trim [] = [] := rfl
theorem trim_snoc (l : List Int) (d : Int) : trim (l ++ [d]) = if d = 0 then trim l else l ++ [d] := by
  unfold trim
  rw [List.reverse_append, List.reverse_singleton, List.singleton_append, List.dropWhile_cons]
  by_cases h : d = 0
  · simp [h]
  · simp [h]
theorem trim_cons (d : Int) (l : List Int) : trim (d :: l) = if trim l = [] then (if d = 0 then [] else [d]) else d :: trim l := by
  unfold trim
  rw [List.reverse_cons, List.dropWhile_append]
  by_cases h : List.dropWhile (fun x => x == 0) l.reverse = []
  · rw [if_pos (by simp [h]), if_pos (by simp [h]), List.dropWhile_cons]
    by_cases hd : d = 0 <;> simp [hd]
  · rw [if_neg (by simpa using h), if_neg (by simpa using h), List.reverse_append]; rfl
theorem val_zero_iff {l : List Int} (h : okd l) : val l = 0 ↔ trim l = [] := by
  induction l with
  | nil => simp [val, trim]
  | cons d l ih =>
    rw [okd_cons] at h
    have h1 := ih h.2
    have h2 := val_nonneg h.2
    rw [trim_cons, val]
    by_cases h3 : trim l = []
    · rw [if_pos h3]
      have h4 := h1.2 h3
      rw [h4]
      by_cases h5 : d = 0 <;> simp [h5]
    · rw [if_neg h3]
      have h4 : val l ≠ 0 := fun h => h3 (h1.1 h)
      simp only [Bz] at *
      constructor
      · intro h5; omega
      · intro h5; cases h5
theorem trim_digs {l : List Int} (h : okd l) : trim l = digs (val l).toNat := by
  induction l with
  | nil => rw [val_nil]; exact digs_zero.symm
  | cons d l ih =>
    have hh := h
    rw [okd_cons] at h
    have h1 := ih h.2
    have h2 := val_nonneg h.2
    have hz := val_zero_iff h.2
    rw [trim_cons]
    by_cases h3 : trim l = []
    · rw [if_pos h3, val, hz.2 h3]
      by_cases h5 : d = 0
      · rw [if_pos h5, h5]; exact digs_zero.symm
      · rw [if_neg h5, digs_lt _ (by omega) (by simp only [Bz, Bn] at *; omega)]
        simp only [Bz] at *; congr 1; omega
    · rw [if_neg h3, h1]
      have h4 : val l ≠ 0 := fun h => h3 (hz.1 h)
      rw [val, digs_pos (d + Bz * val l).toNat (by simp only [Bz] at *; omega)]
      congr 1
      · simp only [Bz, Bn] at *; omega
      · congr 1; simp only [Bz, Bn] at *; omega
theorem trim_zero (l : List Int) (n : Nat) (h : n + 1 ≤ l.length) (h0 : l.getD n 0 = 0) : trim (l.take (n + 1)) = trim (l.take n) := by
  have hd : l.getD n 0 = l[n] := by simp [List.getD_eq_getElem?_getD, List.getElem?_eq_getElem (show n < l.length from h)]
  rw [List.take_succ_eq_append_getElem (by omega), trim_snoc, if_pos (by rw [← hd]; exact h0)]
theorem trim_keep (l : List Int) (n : Nat) (h : n + 1 ≤ l.length) (h0 : l.getD n 0 ≠ 0) : trim (l.take (n + 1)) = l.take (n + 1) := by
  have hd : l.getD n 0 = l[n] := by simp [List.getD_eq_getElem?_getD, List.getElem?_eq_getElem (show n < l.length from h)]
  rw [List.take_succ_eq_append_getElem (by omega), trim_snoc, if_neg (by rw [← hd]; exact h0)]
theorem trim_digs_self (n : Nat) : trim (digs n) = digs n := by rw [trim_digs (okd_digs n), val_digs]; simp
theorem len_digs (n k : Nat) : (digs n).length ≤ k ↔ n < Bn ^ k := by
  induction k generalizing n with
  | zero =>
    by_cases h : n = 0
    · simp [h, digs_zero]
    · rw [digs_pos n h]; simp; omega
  | succ k ih =>
    by_cases h : n = 0
    · rw [h, digs_zero]; simp only [List.length_nil, Nat.zero_le, true_iff]; exact Nat.pow_pos (by decide)
    · rw [digs_pos n h, List.length_cons, Nat.add_le_add_iff_right, ih, Nat.pow_succ, Nat.div_lt_iff_lt_mul (by decide)]
/-- The order of two lists of digits of one length, from the last one on. -/
def cmpD : List Int → List Int → Int
  | [], _ => 0
  | _, [] => 0
  | a :: l, b :: m => if cmpD l m ≠ 0 then cmpD l m else if a < b then -1 else if b < a then 1 else 0
def cmpL (a b : List Int) : Int := if a.length < b.length then -1 else if b.length < a.length then 1 else cmpD a b
/-- The order of two numbers. -/
def cmpZ (x y : Int) : Int := if x < y then -1 else if y < x then 1 else 0
theorem cmpZ_lt {x y : Int} (h : x < y) : cmpZ x y = -1 := if_pos h
theorem cmpZ_gt {x y : Int} (h : y < x) : cmpZ x y = 1 := by rw [cmpZ, if_neg (by omega), if_pos h]
theorem cmpZ_self (x : Int) : cmpZ x x = 0 := by rw [cmpZ, if_neg (by omega), if_neg (by omega)]
theorem cmpD_val (a b : List Int) (ha : okd a) (hb : okd b) (h : a.length = b.length) : cmpD a b = cmpZ (val a) (val b) := by
  induction a generalizing b with
  | nil => cases b with
    | nil => rfl
    | cons y b => simp at h
  | cons x a ih => cases b with
    | nil => simp at h
    | cons y b =>
      rw [okd_cons] at ha hb
      have h1 := ih b ha.2 hb.2 (by simpa using h)
      rw [cmpD, h1, val, val]
      rcases Int.lt_trichotomy (val a) (val b) with h2 | h2 | h2
      · rw [cmpZ_lt h2, if_pos (by decide), cmpZ_lt (by simp only [Bz] at *; omega)]
      · rw [h2, cmpZ_self, if_neg (by decide)]
        unfold cmpZ
        simp only [Int.add_lt_add_iff_right]
      · rw [cmpZ_gt h2, if_pos (by decide), cmpZ_gt (by simp only [Bz] at *; omega)]
theorem cmpL_digs (m n : Nat) : cmpL (digs m) (digs n) = cmpZ m n := by
  unfold cmpL
  split <;> rename_i h
  · have h1 := (len_digs m (digs m).length).1 (Nat.le_refl _)
    have h2 : ¬ n < Bn ^ (digs m).length := fun hh => by have := (len_digs n (digs m).length).2 hh; omega
    rw [cmpZ, if_pos (by omega)]
  · split <;> rename_i h'
    · have h1 := (len_digs n (digs n).length).1 (Nat.le_refl _)
      have h2 : ¬ m < Bn ^ (digs n).length := fun hh => by have := (len_digs m (digs n).length).2 hh; omega
      rw [cmpZ, if_neg (by omega), if_pos (by omega)]
    · rw [cmpD_val _ _ (okd_digs m) (okd_digs n) (by omega), val_digs, val_digs]
end Go.Proofs.YtjccikgdebgebaaGreatDoor.Abs
end
section
namespace Go.Proofs.YtjccikgdebgebaaGreatDoor.Abs
open Go
theorem ld1_ints (l : List Int) (k : Nat) (rd : List Nat) (hk : k < l.length) : ld1 (some (List.drop k (ints l), rd)) = some (.loc ⟨.int .i64 (l.getD k 0), rd, []⟩) := by
  rw [ints_drop_cons l k hk]; rfl
theorem ixS_isl (l : List Int) (n : Int) (hn : 0 ≤ n ∧ n < l.length) : ixS 1 (isl l) n = some (.loc ⟨.rptr (List.drop n.toNat (ints l)), [], []⟩) := by
  simp only [ixS, isl_def, hn, and_self, if_true, valE, Nat.mul_one]
theorem ixS_ro (cs : List AV) (len : Nat) (f : Bool) (s : Nat) (n : Int) (hn : 0 ≤ n ∧ n < len) : ixS s (.ro cs len f) n = some (.loc ⟨.rptr (List.drop (n.toNat * s) cs), [], []⟩) := if_pos hn
theorem ixS_sl (b off len s : Nat) (c : Option Nat) (n : Int) (hn : 0 ≤ n ∧ n < len) : ixS s (.sl b off len c s) n = some (.loc ⟨.ptr b (off + n.toNat * s), [], []⟩) := if_pos ⟨hn.1, hn.2, rfl⟩
theorem splice_ints (l : List Int) (n : Nat) (d : Int) (h : n < l.length) : splice (ints l) n [.int .i64 d] = ints (l.set n d) := ints_splice l n d h
theorem splice_full (l m : List Int) (h : m.length = l.length) : splice (ints l) 0 (ints m) = ints m := by
  simp only [splice, List.take_zero, List.nil_append, ints_drop, ints_length, Nat.zero_add]
  rw [List.drop_of_length_le (by omega)]; simp [ints]
theorem replA_int (n : Nat) (d : Int) : replA n [.int .i64 d] = ints (List.replicate n d) := by
  induction n with
  | zero => rfl
  | succ n ih => rw [List.replicate_succ, ints_cons, ← ih]; rfl
theorem ro_ints (l : List Int) : AV.ro (ints l) l.length false = isl l := nr rfl
theorem M_ex [SpC] {f : FuncId} {fn : Func} {c : Code} {md : CMode} {rs : List ResultVar} (hf : X.P.funcs[f]? = some fn) (hb : fn.body = some c) (hok : funcOk fn = true) (hm : X.mode f = md) (hr : fn.results.toList = rs)
    (args : List AV) (hl : (args.length == fn.params.size + fn.nfree) = true) (Q : AV → Prop) (h : @W X ⟨c⟩ ⟨argEnv args, emptyHeap, 0⟩ (outR X md rs Q)) (hns : md.isSpec = false := by rfl) : ∃ r, Q r ∧ M X f args = some r := by
  have key : ∃ r, Q r ∧ @W X ⟨c⟩ ⟨argEnv args, emptyHeap, 0⟩ (outR X md rs (· = r)) := by
    obtain ⟨e, s, h1, h4⟩ := h
    cases e with
    | exit i => exact h4.elim
    | normal => obtain ⟨vs, h5, v, h6, h7⟩ := h4; exact ⟨v, h7, _, s, h1, vs, h5, v, h6, rfl⟩
    | ret => obtain ⟨vs, h5, v, h6, h7⟩ := h4; exact ⟨v, h7, _, s, h1, vs, h5, v, h6, rfl⟩
  obtain ⟨r, h1, h2⟩ := key
  exact ⟨r, h1, M_of X hf hb hok hm hr args hl r (fun r' hr' => hr' ▸ h2) hns⟩
theorem ints_snoc (l : List Int) (d : Int) : ints l ++ [.int .i64 d] = ints (l ++ [d]) := by simp [ints]
/-- A slice of ints that grows. -/
def Grow (lo : Nat) (h : Heap) (nx : Nat) (v : AV) (o : List Int) : Prop := (v = .ro [] 0 true ∧ o = []) ∨ ∃ B, (lo ≤ B ∧ B < nx) ∧ v = .sl B 0 o.length none 1 ∧ h B = some (.cells (ints o) true false)
theorem grow_nil (lo : Nat) (h : Heap) (nx : Nat) : Grow lo h nx (.ro [] 0 true) [] := .inl ⟨rfl, rfl⟩
theorem grow_one (lo : Nat) (h : Heap) (nx b : Nat) (d : Int) (hb : lo ≤ b ∧ b < nx) : Grow lo (upd h b (some (.cells [.int .i64 d] true false))) nx (.sl b 0 1 none 1) [d] := .inr ⟨b, hb, rfl, by simp [upd_apply, ints]⟩
theorem grow_app (lo : Nat) (h : Heap) (nx b n : Nat) (o : List Int) (d : Int) (hb : lo ≤ b ∧ b < nx) (hn : n = o.length + 1) : Grow lo (upd h b (some (.cells (ints (o ++ [d])) true false))) nx (.sl b 0 n none 1) (o ++ [d]) := .inr ⟨b, hb, by simp [hn], by simp [upd_apply]⟩
theorem ro_isl (l : List Int) (n : Nat) (h : n = l.length) : AV.ro (ints l) n false = isl l := by subst h; rfl
theorem bb_tt : (true == true) = true := nr rfl
theorem bb_tf : (true == false) = false := nr rfl
theorem bb_ft : (false == true) = false := nr rfl
theorem bb_ff : (false == false) = true := nr rfl
theorem rep0 {α : Type} (a : α) : List.replicate 0 a = [] := nr rfl
theorem rep1 {α : Type} (a : α) : List.replicate 1 a = [a] := nr rfl
theorem rep2 {α : Type} (a : α) : List.replicate 2 a = [a, a] := nr rfl
theorem rep3 {α : Type} (a : α) : List.replicate 3 a = [a, a, a] := nr rfl
theorem rep4 {α : Type} (a : α) : List.replicate 4 a = [a, a, a, a] := nr rfl
theorem rep5 {α : Type} (a : α) : List.replicate 5 a = [a, a, a, a, a] := nr rfl
theorem rep6 {α : Type} (a : α) : List.replicate 6 a = [a, a, a, a, a, a] := nr rfl
/-! ### Integers by their value: the two cells of an api.Int, hidden from callers -/
def zS (z : Int) : AV := .bool (decide (z < 0))
def zD (z : Int) : AV := isl (digs z.natAbs)
theorem zS_eq (z : Int) : zS z = .bool (decide (z < 0)) := nr rfl
theorem zD_eq (z : Int) : zD z = isl (digs z.natAbs) := nr rfl
theorem zS_neg (z : Int) (h : z < 0) : zS z = .bool true := by simp [zS, h]
theorem zS_pos (z : Int) (h : 0 ≤ z) : zS z = .bool false := by simp [zS]; omega
theorem weak_zS (z : Int) : (zS z).weak = zS z := weak_bool _
theorem weak_zD (z : Int) : (zD z).weak = zD z := weak_isl _
theorem cells_zS (z : Int) : (zS z).cells = [zS z] := nr rfl
theorem cells_zD (z : Int) : (zD z).cells = [zD z] := nr rfl
theorem tupleB_zS (z : Int) : (zS z).tupleB = false := nr rfl
theorem tupleB_zD (z : Int) : (zD z).tupleB = false := nr rfl
theorem snap_zS (h : Heap) (d : Nat) (z : Int) : snap h (d + 1) (zS z) = some (zS z, []) := nr rfl
theorem snap_zD (h : Heap) (d : Nat) (z : Int) : snap h (d + 1) (zD z) = some (zD z, []) := nr rfl
theorem inst1_zS (id j : Nat) (z : Int) : inst1 id j (zS z) = some (zS z, [], j) := nr rfl
theorem inst1_zD (id j : Nat) (z : Int) : inst1 id j (zD z) = some (zD z, [], j) := nr rfl
theorem nrf_zS (z : Int) : (zS z).noRef = true := nr rfl
theorem nrf_zD (z : Int) : (zD z).noRef = false := nr rfl
/-- How many digits an integer has. -/
def nd (z : Int) : Nat := (digs z.natAbs).length
theorem lenS_zD (z : Int) : lenS (zD z) = some (.int .i64 (nd z)) := nr rfl
theorem nd_zero (z : Int) (h : z = 0) : nd z = 0 := by subst h; simp [nd, digs_zero]
theorem nd_pos (z : Int) (h : z ≠ 0) : 0 < nd z := by rw [nd, digs_pos _ (by omega)]; simp
theorem zz_nil : AV.ro [] 0 false = zD 0 := by simp [zD, digs_zero, isl, ints]
theorem zz_false : AV.bool false = zS 0 := by simp [zS]
end Go.Proofs.YtjccikgdebgebaaGreatDoor.Abs
end
section
namespace Go.Proofs.YtjccikgdebgebaaGreatDoor.Abs
open Go
attribute [go_sem ↓] PN_some PN_none PN_nx PN_mp nx_some nx_none mp_some mp_none guardedOp_true guardedOp_false
attribute [go_sem] W_seq W_block W_scope W_skip W_label W_ret W_exit W_cond W_text W_draw RT_nil RT_cons RT_guard RE_nil RE_cons RE_guard RK_pure RK_rd RK_wr RK_glob seqQ_normal seqQ_ret seqQ_exit blkQ_normal blkQ_ret blkQ_exit cndQ_true cndQ_false lpQ_normal lpQ_ret
attribute [go_sem] lpQ_exit norQ_normal afterD_loc afterD_glob gdst_zero gdst_succ wantT_some wantT_none wantB_t wantB_f wantB_u clashes_nil clashes_cons clash1 edges_list Region.binds List.map_nil List.map_cons upd_sel sel_true sel_false beq_no beq_yes evalA_tmp evalA_const evalA_global evalA_func const_bool const_int const_str
attribute [go_sem] const_ptr const_slice const_map const_func const_iface evalsA_nil evalsA_cons optA_none optA_some partsA_nil partsA_cons putEnv_some putEnv_none applyWr_nil applyWr_cons valE_eq argEnv_eq getD_zero getD_succ pickA_true pickA_false pickA_bools nilA_ptr nilA_rptr nilA_func exA_zero exA_succ callA_plain callA_func op_move
attribute [go_sem] op_assign op_pick op_alloc op_box op_build op_buildSlice op_load op_store op_nilCheck op_binOp op_unOp op_convert op_makeFunc op_makeSlice op_slice op_slice3 op_fieldAddr op_field op_indexAddr op_index op_extract op_len op_append op_copy op_min op_max op_call min2A_int max2A_int bin_add
attribute [go_sem] bin_sub bin_mul bin_quo bin_rem bin_eql bin_neq bin_lss bin_leq bin_gtr bin_geq bin_shl bin_shr un_neg un_not cellsAt_rptr cellsAt_ptr cellsO_some tupleB_int tupleB_bool tupleB_ro tupleB_isl tupleB_agg tupleB_sl tupleB_ptr tupleB_rptr tupleB_func tupleB_str cells_int cells_bool cells_ro
attribute [go_sem] cells_isl cells_agg cells_sl cells_ptr cells_rptr cells_func cells_str aBox_eq st1_eq ldn_eq splice_ints splice_eq fillA_nil fillA_cons fillP_some plOf_zero plOf_succ plEv_eq blS_eq bsS_eq ixA_rptr ixA_ptr loadRess_nil loadRess_cons loadRes_tmp valOf_loc loadRes_cell weak_zS weak_zD cells_zS
attribute [go_sem] cells_zD tupleB_zS tupleB_zD snap_zS snap_zD inst1_zS inst1_zD lenS_zD weak_bool weak_int weak_ro weak_agg weak_tuple weak_fresh weak_func weak_str weak_nilptr weak_nilfunc weakgo_nil weakgo_cons weaks_ints weak_isl ld1_cons stS_ptr lenS_ro lenS_sl lenS_isl sliS_isl sliS_islm boundA_none
attribute [go_sem] boundA_nat sliS_sl sliS_slm slice_sl0 slice_sl0e slice_slc slice_slce sliS_ro slice_ro slice_isl slice_islm faS_ptr faS_rptr fdS_leaf fdS_agg mkS_int src_sl srcO_some src_isl src_ro cpD_sl cpD_ro cpO_some apS_eq apD_ro apD_sl apO_cap apO_open splice_full ints_app
attribute [go_sem] ints_snoc ld1_ints ixS_isl ixS_ro ixS_sl replA_int inst_bool inst_int inst_ro inst_isl inst_tuple inst_agg inst_fresh insts_nil insts_cons inst1_bool inst1_int inst1_ro inst1_isl inst1_agg inst1_nil inst1_fresh aCall_eq callS_ro callS_top callS_spec callS_inl callS_none frz_eq frzL_nil
attribute [go_sem] frzL_true frzL_false frozen_some frozen_none nrf_int nrf_bool nrf_ro nrf_isl nrf_agg nrf_tuple nrf_nil nrf_cons nrf_zS nrf_zD outR_ret outR_normal oneV_one oneV_nil oneV_two outM_ro outM_top snap_int snap_bool snap_ro snap_isl snap_agg snap_tuple snap_sl snap_ptr snapP_some
attribute [go_sem] snap_rptr snap_func snaps_nil snaps_cons snaps_ints List.getElem?_toArray List.getElem?_cons_zero List.getElem?_cons_succ List.length_cons List.length_nil List.nil_append List.cons_append List.append_nil List.append_assoc Bool.false_eq_true if_true if_false List.drop_zero List.drop_succ_cons List.drop_nil List.take_zero List.take_succ_cons and_true true_and not_true_eq_false not_false_eq_true and_self or_false false_or or_true
attribute [go_sem] true_or List.any_nil List.any_cons List.contains_nil List.contains_cons Bool.or_false Bool.and_self Bool.not_false Bool.and_true Bool.true_and Bool.false_and Bool.and_false Bool.false_or Bool.or_true Bool.true_or true_implies false_implies implies_true Option.isSome_some Option.isSome_none Option.isNone_some Option.isNone_none ints_length decide_true decide_false Bool.not_true Int.lt_irrefl Int.natCast_zero Int.natCast_pos Bool.true_eq_false
attribute [go_sem] Bool.not_eq_true Bool.not_eq_false Nat.lt_irrefl Bool.decide_eq_true eq_self Int.toNat_natCast Int.natCast_nonneg Nat.zero_le Nat.sub_zero Nat.mul_one Nat.le_refl Nat.zero_mul Nat.zero_add ints_take Int.toNat_zero up_add up_one up_sub up_pred up_two Nat.add_sub_cancel IntWalk.i64_in IntWalk.u64_in IntWalk.u8_in IntWalk.u32_in IntWalk.i64_quo IntWalk.u64_quo IntWalk.u32_quo IntWalk.rem_in rep0
attribute [go_sem] rep1 rep2 rep3 rep4 rep5 rep6 ints_cons ints_nil if_pos if_neg decide_eq_true decide_eq_false List.length_replicate Nat.min_self List.take_length List.length_set List.length_append bb_tt bb_tf bb_ft bb_ff List.take_of_length_le ro_isl
end Go.Proofs.YtjccikgdebgebaaGreatDoor.Abs
end
section
set_option linter.unusedSimpArgs false
namespace Go.Proofs.YtjccikgdebgebaaGreatDoor.Abs
open Go
theorem getD_get (l : List Int) (n : Nat) (h : n < l.length) : l.getD n 0 = l[n] := by
  simp [List.getD_eq_getElem?_getD, List.getElem?_eq_getElem h]
/-- An integer of the program. -/
def aI (neg : Bool) (d : List Int) : List AV := [.bool (neg && !d.isEmpty), isl d]
set_option maxRecDepth 100000 in
theorem M_126 [SpC] (neg : Bool) (l : List Int) (hl : l.length < 2 ^ 40) : M X 126 [.bool neg, isl l] = some (.agg (aI neg (trim l))) := by
  refine M_of X (fn := Tryz.f126) Tryz.func126 rfl ok_126 mode_126 res_126 _ rfl _ ?_
  intro r hr
  simp (disch := omega) only [go_sem, reduceCtorEq, Nat.reduceEqDiff, Nat.reduceAdd, Nat.reduceMul, Nat.reduceSub, ↓Nat.reduceBEq, Nat.reduceLT, Nat.reduceLeDiff, Int.reduceLT, Int.reduceLE, Int.reduceNeg, Int.reduceToNat]
  refine W_loop X (fun (n : Nat) s => n ≤ l.length ∧ s.env 0 = .bool neg ∧ s.env 1 = isl l ∧ s.env 4 = .ptr 0 0 ∧ s.env 5 = .int .i64 n ∧ s.heap 0 = some (.cells [AV.bool false, AV.ro [] 0 false] false false) ∧ trim (l.take n) = trim l) (fun n => n) ?_ l.length _ ?_
  · rintro n ⟨env, heap, next⟩ ⟨hn, h0, h1, h4, h5, hh, ht⟩
    simp only at h0 h1 h4 h5 hh
    obtain _ | m := n
    · simp (disch := omega) only [go_sem, reduceCtorEq, Nat.reduceEqDiff, Nat.reduceAdd, Nat.reduceMul, Nat.reduceSub, ↓Nat.reduceBEq, Nat.reduceLT, Nat.reduceLeDiff, Int.reduceLT, Int.reduceLE, Int.reduceNeg, Int.reduceToNat, h0, h1, h4, h5, hh]
      simp [hr, aI, ← ht, trim_nil, isl, ints]
    · by_cases hz : l.getD m 0 = 0
      · simp (disch := omega) only [go_sem, reduceCtorEq, Nat.reduceEqDiff, Nat.reduceAdd, Nat.reduceMul, Nat.reduceSub, ↓Nat.reduceBEq, Nat.reduceLT, Nat.reduceLeDiff, Int.reduceLT, Int.reduceLE, Int.reduceNeg, Int.reduceToNat, h0, h1, h4, h5, hh, hz]
        exact ⟨m, ⟨by omega, rfl, by rw [← ht, trim_zero l m hn hz]⟩, by omega⟩
      · simp (disch := omega) only [go_sem, reduceCtorEq, Nat.reduceEqDiff, Nat.reduceAdd, Nat.reduceMul, Nat.reduceSub, ↓Nat.reduceBEq, Nat.reduceLT, Nat.reduceLeDiff, Int.reduceLT, Int.reduceLE, Int.reduceNeg, Int.reduceToNat, h0, h1, h4, h5, hh, hz]
        have he : (l.take (m + 1)).isEmpty = false := by
          cases l with
          | nil => simp at hn
          | cons a l => rfl
        rw [hr, ← ht, trim_keep l m hn hz, aI, he]
        simp [isl]
  · simp [argEnv, upd_apply, emptyHeap]
set_option maxRecDepth 100000 in
theorem M_89 [SpC] (a : Int) : M X 89 [.int .i64 a] = some (.bool false) := by
  refine M_of X (fn := Tryz.f89) Tryz.func89 rfl ok_89 mode_89 res_89 _ rfl _ ?_
  rintro _ rfl
  simp (disch := omega) only [go_sem, reduceCtorEq, Nat.reduceEqDiff, Nat.reduceAdd, Nat.reduceMul, Nat.reduceSub, ↓Nat.reduceBEq, Nat.reduceLT, Nat.reduceLeDiff, Int.reduceLT, Int.reduceLE, Int.reduceNeg, Int.reduceToNat]
set_option maxRecDepth 100000 in
theorem M_48 [SpC] (a b : Int) : M X 48 [.int .i64 a, .int .i64 b] = some (.int .i64 (if a < b then -1 else if b < a then 1 else 0)) := by
  refine M_of X (fn := Tryz.f48) Tryz.func48 rfl ok_48 mode_48 res_48 _ rfl _ ?_
  intro r hr
  by_cases h1 : a < b
  · simp (disch := omega) only [go_sem, reduceCtorEq, Nat.reduceEqDiff, Nat.reduceAdd, Nat.reduceMul, Nat.reduceSub, ↓Nat.reduceBEq, Nat.reduceLT, Nat.reduceLeDiff, Int.reduceLT, Int.reduceLE, Int.reduceNeg, Int.reduceToNat, M_89]
    simp [hr, h1]
  · by_cases h2 : b < a
    · simp (disch := omega) only [go_sem, reduceCtorEq, Nat.reduceEqDiff, Nat.reduceAdd, Nat.reduceMul, Nat.reduceSub, ↓Nat.reduceBEq, Nat.reduceLT, Nat.reduceLeDiff, Int.reduceLT, Int.reduceLE, Int.reduceNeg, Int.reduceToNat, M_89]
      simp [hr, h1, h2]
    · simp (disch := omega) only [go_sem, reduceCtorEq, Nat.reduceEqDiff, Nat.reduceAdd, Nat.reduceMul, Nat.reduceSub, ↓Nat.reduceBEq, Nat.reduceLT, Nat.reduceLeDiff, Int.reduceLT, Int.reduceLE, Int.reduceNeg, Int.reduceToNat, M_89]
      simp [hr, h1, h2]
theorem cmpD_step (a b : List Int) (n : Nat) (ha : n < a.length) (hb : n < b.length) : cmpD (a.drop n) (b.drop n) = if cmpD (a.drop (n + 1)) (b.drop (n + 1)) ≠ 0 then cmpD (a.drop (n + 1)) (b.drop (n + 1)) else if a.getD n 0 < b.getD n 0 then -1 else if b.getD n 0 < a.getD n 0 then 1 else 0 := by
  rw [List.drop_eq_getElem_cons ha, List.drop_eq_getElem_cons hb, cmpD, getD_get a n ha, getD_get b n hb]
theorem cmpD_drop (a b : List Int) : ∀ n, cmpD (a.drop n) (b.drop n) ≠ 0 → cmpD a b = cmpD (a.drop n) (b.drop n) := by
  induction a generalizing b with
  | nil => intro n h; simp [cmpD] at h
  | cons x a ih =>
    intro n h
    cases b with
    | nil => exfalso; apply h; rw [List.drop_nil]; cases (x :: a).drop n <;> rfl
    | cons y b =>
      cases n with
      | zero => rfl
      | succ n =>
        simp only [List.drop_succ_cons] at h ⊢
        rw [cmpD, ih b n h, if_pos h]
set_option maxRecDepth 100000 in
theorem M_128 [SpC] (a b : List Int) (ha : a.length < 2 ^ 40) (_ : b.length < 2 ^ 40) : M X 128 [isl a, isl b] = some (.int .i64 (cmpL a b)) := by
  refine M_of X (fn := Tryz.f128) Tryz.func128 rfl ok_128 mode_128 res_128 _ rfl _ ?_
  intro r hr
  by_cases hl : a.length = b.length
  · simp (disch := omega) only [go_sem, reduceCtorEq, Nat.reduceEqDiff, Nat.reduceAdd, Nat.reduceMul, Nat.reduceSub, ↓Nat.reduceBEq, Nat.reduceLT, Nat.reduceLeDiff, Int.reduceLT, Int.reduceLE, Int.reduceNeg, Int.reduceToNat, M_48]
    refine W_loop X (fun (n : Nat) s => n ≤ a.length ∧ s.env 0 = isl a ∧ s.env 1 = isl b ∧ s.env 5 = .int .i64 ((n : Int) - 1) ∧ cmpD (a.drop n) (b.drop n) = 0) (fun n => n) ?_ a.length _ ?_
    · rintro n ⟨env, heap, next⟩ ⟨hn, h0, h1, h5, hc⟩
      simp only at h0 h1 h5
      obtain _ | m := n
      · simp (disch := omega) only [go_sem, reduceCtorEq, Nat.reduceEqDiff, Nat.reduceAdd, Nat.reduceMul, Nat.reduceSub, ↓Nat.reduceBEq, Nat.reduceLT, Nat.reduceLeDiff, Int.reduceLT, Int.reduceLE, Int.reduceNeg, Int.reduceToNat, M_48, h0, h1, h5]
        simp at hc
        simp [hr, cmpL, hl, hc]
      · have hs := cmpD_step a b m (by omega) (by omega)
        rw [if_neg (by simp [hc])] at hs
        by_cases he : a.getD m 0 = b.getD m 0
        · simp (disch := omega) only [go_sem, reduceCtorEq, Nat.reduceEqDiff, Nat.reduceAdd, Nat.reduceMul, Nat.reduceSub, ↓Nat.reduceBEq, Nat.reduceLT, Nat.reduceLeDiff, Int.reduceLT, Int.reduceLE, Int.reduceNeg, Int.reduceToNat, M_48, h0, h1, h5, he]
          refine ⟨m, ⟨by omega, rfl, ?_⟩, by omega⟩
          rw [hs, he]; simp
        · simp (disch := omega) only [go_sem, reduceCtorEq, Nat.reduceEqDiff, Nat.reduceAdd, Nat.reduceMul, Nat.reduceSub, ↓Nat.reduceBEq, Nat.reduceLT, Nat.reduceLeDiff, Int.reduceLT, Int.reduceLE, Int.reduceNeg, Int.reduceToNat, M_48, h0, h1, h5, he]
          have hL : cmpL a b = cmpD a b := by simp [cmpL, hl]
          have hd : cmpD (a.drop m) (b.drop m) ≠ 0 := by rw [hs]; split <;> (try split) <;> omega
          rw [hr, hL, cmpD_drop a b m hd, hs]
          split
          · rfl
          · rw [if_pos (by omega)]
    · refine ⟨Nat.le_refl _, ?_, ?_, ?_, ?_⟩ <;> simp [argEnv, upd_apply, cmpD]
  · simp (disch := omega) only [go_sem, reduceCtorEq, Nat.reduceEqDiff, Nat.reduceAdd, Nat.reduceMul, Nat.reduceSub, ↓Nat.reduceBEq, Nat.reduceLT, Nat.reduceLeDiff, Int.reduceLT, Int.reduceLE, Int.reduceNeg, Int.reduceToNat, M_48]
    rw [hr, cmpL]
    rcases Nat.lt_or_ge a.length b.length with h | h
    · rw [if_pos (by omega), if_pos h]
    · rw [if_neg (by omega), if_neg (by omega), if_pos (by omega)]
theorem aI_eq (neg : Bool) (d : List Int) : aI neg d = [.bool (neg && !d.isEmpty), isl d] := nr rfl
theorem aI_digs (neg : Bool) (n : Nat) (z : Int) (h : z = if neg then -(n : Int) else n) : aI neg (digs n) = [zS z, zD z] := by
  subst h
  unfold aI zS zD
  by_cases h : n = 0
  · subst h; simp [digs_zero]
  · have h1 : (digs n).isEmpty = false := by rw [digs_pos n h]; rfl
    rw [h1]
    cases neg with
    | true => simp; omega
    | false => simp
set_option maxRecDepth 100000 in
theorem M_134 [SpC] (neg : Bool) (u : Int) (h0 : 0 ≤ u) (h1 : u < 2 ^ 64) : M X 134 [.bool neg, .int .u64 u] = some (.agg (aI neg (digs u.toNat))) := by
  refine M_of X (fn := Tryz.f134) Tryz.func134 rfl ok_134 mode_134 res_134 _ rfl _ ?_
  intro r hr
  by_cases h2 : u = 0
  · simp (disch := omega) only [go_sem, reduceCtorEq, Nat.reduceEqDiff, Nat.reduceAdd, Nat.reduceMul, Nat.reduceSub, ↓Nat.reduceBEq, Nat.reduceLT, Nat.reduceLeDiff, Int.reduceLT, Int.reduceLE, Int.reduceNeg, Int.reduceToNat, h2]
    simp [hr, h2, digs_zero, aI, isl, ints]
  · by_cases h3 : u < 1000000000
    · simp (disch := omega) only [go_sem, reduceCtorEq, Nat.reduceEqDiff, Nat.reduceAdd, Nat.reduceMul, Nat.reduceSub, ↓Nat.reduceBEq, Nat.reduceLT, Nat.reduceLeDiff, Int.reduceLT, Int.reduceLE, Int.reduceNeg, Int.reduceToNat]
      rw [hr, digs_lt _ (by omega) (by simp only [Bn]; omega)]
      simp [aI, isl, ints, h0]; omega
    · by_cases h4 : u < 1000000000 * 1000000000
      · simp (disch := omega) only [go_sem, reduceCtorEq, Nat.reduceEqDiff, Nat.reduceAdd, Nat.reduceMul, Nat.reduceSub, ↓Nat.reduceBEq, Nat.reduceLT, Nat.reduceLeDiff, Int.reduceLT, Int.reduceLE, Int.reduceNeg, Int.reduceToNat]
        rw [hr, digs_two _ (by simp only [Bn]; omega) (by simp only [Bn]; omega)]
        simp [aI, isl, ints, h0]; omega
      · simp (disch := omega) only [go_sem, reduceCtorEq, Nat.reduceEqDiff, Nat.reduceAdd, Nat.reduceMul, Nat.reduceSub, ↓Nat.reduceBEq, Nat.reduceLT, Nat.reduceLeDiff, Int.reduceLT, Int.reduceLE, Int.reduceNeg, Int.reduceToNat]
        rw [hr, digs_three _ (by simp only [Bn]; omega) (by simp only [Bn]; omega)]
        simp [aI, isl, ints, h0]; omega
set_option maxRecDepth 100000 in
theorem M_97 [SpC] (n : Int) (h : -9223372036854775808 ≤ n ∧ n ≤ 9223372036854775807) : M X 97 [.int .i64 n] = some (.agg [zS n, zD n]) := by
  refine M_of X (fn := Tryz.f97) Tryz.func97 rfl ok_97 mode_97 res_97 _ rfl _ ?_
  intro r hr
  by_cases hn : n < 0
  · have hw : IntKind.u64.wrap (0 - IntKind.u64.wrap n) = -n := by
      simp [IntKind.wrap, IntKind.bits, IntKind.signed]; omega
    simp (disch := omega) only [go_sem, reduceCtorEq, Nat.reduceEqDiff, Nat.reduceAdd, Nat.reduceMul, Nat.reduceSub, ↓Nat.reduceBEq, Nat.reduceLT, Nat.reduceLeDiff, Int.reduceLT, Int.reduceLE, Int.reduceNeg, Int.reduceToNat, M_134, hw, aI_eq]
    rw [hr, ← aI_digs true (-n).toNat n (by simp; omega), aI, Bool.true_and]
  · simp (disch := omega) only [go_sem, reduceCtorEq, Nat.reduceEqDiff, Nat.reduceAdd, Nat.reduceMul, Nat.reduceSub, ↓Nat.reduceBEq, Nat.reduceLT, Nat.reduceLeDiff, Int.reduceLT, Int.reduceLE, Int.reduceNeg, Int.reduceToNat, M_134, aI_eq]
    rw [hr, ← aI_digs false n.toNat n (by simp; omega), aI, Bool.false_and]
set_option maxRecDepth 100000 in
theorem M_124 [SpC] (z : Int) : M X 124 [.agg [zS z, zD z]] = some (.agg [zS (-z), zD (-z)]) := by
  refine M_of X (fn := Tryz.f124) Tryz.func124 rfl ok_124 mode_124 res_124 _ rfl _ ?_
  intro r hr
  have hn : zD (-z) = zD z := by simp [zD]
  rcases Int.lt_trichotomy z 0 with h | h | h
  · have hp := nd_pos z (by omega)
    simp (disch := omega) only [go_sem, reduceCtorEq, Nat.reduceEqDiff, Nat.reduceAdd, Nat.reduceMul, Nat.reduceSub, ↓Nat.reduceBEq, Nat.reduceLT, Nat.reduceLeDiff, Int.reduceLT, Int.reduceLE, Int.reduceNeg, Int.reduceToNat, zS_neg]
    rw [hr, hn, zS_pos (-z) (by omega)]
  · have hp := nd_zero z h
    simp (disch := omega) only [go_sem, reduceCtorEq, Nat.reduceEqDiff, Nat.reduceAdd, Nat.reduceMul, Nat.reduceSub, ↓Nat.reduceBEq, Nat.reduceLT, Nat.reduceLeDiff, Int.reduceLT, Int.reduceLE, Int.reduceNeg, Int.reduceToNat, zS_pos, hp]
    rw [hr, hn, zS_pos (-z) (by omega)]
  · have hp := nd_pos z (by omega)
    simp (disch := omega) only [go_sem, reduceCtorEq, Nat.reduceEqDiff, Nat.reduceAdd, Nat.reduceMul, Nat.reduceSub, ↓Nat.reduceBEq, Nat.reduceLT, Nat.reduceLeDiff, Int.reduceLT, Int.reduceLE, Int.reduceNeg, Int.reduceToNat, zS_pos]
    rw [hr, hn, zS_neg (-z) (by omega)]
set_option maxRecDepth 100000 in
theorem M_118 [SpC] (z : Int) : M X 118 [.agg [zS z, zD z]] = some (.int .i64 (cmpZ z 0)) := by
  refine M_of X (fn := Tryz.f118) Tryz.func118 rfl ok_118 mode_118 res_118 _ rfl _ ?_
  intro r hr
  rcases Int.lt_trichotomy z 0 with h | h | h
  · have hp := nd_pos z (by omega)
    simp (disch := omega) only [go_sem, reduceCtorEq, Nat.reduceEqDiff, Nat.reduceAdd, Nat.reduceMul, Nat.reduceSub, ↓Nat.reduceBEq, Nat.reduceLT, Nat.reduceLeDiff, Int.reduceLT, Int.reduceLE, Int.reduceNeg, Int.reduceToNat, zS_neg]
    rw [hr, cmpZ_lt h]
  · have hp := nd_zero z h
    simp (disch := omega) only [go_sem, reduceCtorEq, Nat.reduceEqDiff, Nat.reduceAdd, Nat.reduceMul, Nat.reduceSub, ↓Nat.reduceBEq, Nat.reduceLT, Nat.reduceLeDiff, Int.reduceLT, Int.reduceLE, Int.reduceNeg, Int.reduceToNat, zS_pos, hp]
    rw [hr, h, cmpZ_self]
  · have hp := nd_pos z (by omega)
    simp (disch := omega) only [go_sem, reduceCtorEq, Nat.reduceEqDiff, Nat.reduceAdd, Nat.reduceMul, Nat.reduceSub, ↓Nat.reduceBEq, Nat.reduceLT, Nat.reduceLeDiff, Int.reduceLT, Int.reduceLE, Int.reduceNeg, Int.reduceToNat, zS_pos]
    rw [hr, cmpZ_gt h]
end Go.Proofs.YtjccikgdebgebaaGreatDoor.Abs
end
section
set_option linter.unusedSimpArgs false
namespace Go.Proofs.YtjccikgdebgebaaGreatDoor.Abs
open Go
theorem take_set_succ (l : List Int) (n : Nat) (d : Int) (h : n < l.length) : (l.set n d).take (n + 1) = l.take n ++ [d] := by
  rw [List.take_succ_eq_append_getElem (by simpa using h), List.take_set_of_le (by omega)]
  simp
theorem val_take_set (l : List Int) (n : Nat) (d : Int) (h : n < l.length) : val ((l.set n d).take (n + 1)) = val (l.take n) + Bz ^ n * d := by
  rw [take_set_succ l n d h, val_app, List.length_take, Nat.min_eq_left (by omega)]; simp [val]
/-- plus, the longer list first. -/
def PlusI (a b : List Int) (B : Nat) (k : Nat) (s : St) : Prop :=
  k ≤ a.length ∧ s.env 0 = isl a ∧ s.env 1 = isl b ∧ s.env 21 = isl a ∧ s.env 22 = .int .i64 a.length ∧ s.env 23 = .int .i64 k ∧
  s.env 5 = .sl B 0 (a.length + 1) (some (a.length + 1)) 1 ∧
  ∃ (c : Int) (out : List Int), (c = 0 ∨ c = 1) ∧ s.env 6 = .int .i64 c ∧ s.heap B = some (.cells (ints out) false false) ∧ out.length = a.length + 1 ∧ okd out ∧
    val (out.take k) + Bz ^ k * c = val (a.take k) + val (b.take k)
set_option maxRecDepth 100000 in
theorem M_127 [SpC] (a b : List Int) (ha : a.length < 2 ^ 30) (hb : b.length < 2 ^ 30) (oa : okd a) (ob : okd b) :
    ∃ out, M X 127 [isl a, isl b] = some (isl out) ∧ okd out ∧ val out = val a + val b ∧ out.length ≤ a.length + b.length + 1 := by
  suffices h : ∃ r, (∃ out, r = isl out ∧ okd out ∧ val out = val a + val b ∧ out.length ≤ a.length + b.length + 1) ∧ M X 127 [isl a, isl b] = some r by
    obtain ⟨r, ⟨out, rfl, h1⟩, h2⟩ := h
    exact ⟨out, h2, h1⟩
  refine M_ex (fn := Tryz.f127) Tryz.func127 rfl ok_127 mode_127 res_127 _ rfl _ ?_
  simp (disch := omega) only [go_sem, reduceCtorEq, Nat.reduceEqDiff, Nat.reduceAdd, Nat.reduceMul, Nat.reduceSub, ↓Nat.reduceBEq, Nat.reduceLT, Nat.reduceLeDiff, Int.reduceLT, Int.reduceLE, Int.reduceNeg, Int.reduceToNat]
  refine cnd_cut X (fun s => ∃ a' b' : List Int, s.env 0 = isl a' ∧ s.env 1 = isl b' ∧ b'.length ≤ a'.length ∧ okd a' ∧ okd b' ∧ a'.length < 2 ^ 30 ∧ a'.length ≤ a.length + b.length ∧ val a' + val b' = val a + val b) ?_ ?_ ?_
  · rintro ⟨env, heap, next⟩ ⟨a', b', h0, h1, hl, oa', ob', hn, hm, hv⟩
    simp only at h0 h1
    simp (disch := omega) only [go_sem, reduceCtorEq, Nat.reduceEqDiff, Nat.reduceAdd, Nat.reduceMul, Nat.reduceSub, ↓Nat.reduceBEq, Nat.reduceLT, Nat.reduceLeDiff, Int.reduceLT, Int.reduceLE, Int.reduceNeg, Int.reduceToNat, h0, h1]
    refine W_loop X (PlusI a' b' (next + 24)) (fun k => a'.length + 1 - k) ?_ 0 _ ?_
    · rintro k ⟨env, heap, nx⟩ ⟨hk, g0, g1, g21, g22, g23, g5, c, out, hc, g6, gh, ho, oo, hv2⟩
      simp only at g0 g1 g21 g22 g23 g5 g6 gh
      have hc' : 0 ≤ c ∧ c ≤ 1 := by omega
      have ka := okd_getD oa' k
      have kb := okd_getD ob' k
      simp only [Bz] at ka kb
      by_cases h2 : k < a'.length
      · by_cases h3 : k < b'.length
        · by_cases h4 : 1000000000 ≤ a'.getD k 0 + c + b'.getD k 0
          · simp (disch := omega) only [go_sem, reduceCtorEq, Nat.reduceEqDiff, Nat.reduceAdd, Nat.reduceMul, Nat.reduceSub, ↓Nat.reduceBEq, Nat.reduceLT, Nat.reduceLeDiff, Int.reduceLT, Int.reduceLE, Int.reduceNeg, Int.reduceToNat, g0, g1, g21, g22, g23, g5, g6, gh, ho]
            have hp : Bz ^ (k + 1) = Bz ^ k * Bz := Int.pow_succ Bz k
            refine ⟨k + 1, ⟨by omega, ?_, ?_, ?_, ?_, ?_, ?_, 1, out.set k (a'.getD k 0 + c + b'.getD k 0 - 1000000000), by omega, ?_, ?_, ?_, ?_, ?_⟩, by omega⟩
            all_goals try simp [upd_apply, g0, g1, g21, g22, g5, ho, -List.getD_eq_getElem?_getD]
            · exact okd_set oo k _ (by simp only [Bz]; omega)
            · have e1 := val_take_succ a' k h2
              have e2 := val_take_succ b' k h3
              rw [val_take_set out k _ (by omega)]
              grind
          · simp (disch := omega) only [go_sem, reduceCtorEq, Nat.reduceEqDiff, Nat.reduceAdd, Nat.reduceMul, Nat.reduceSub, ↓Nat.reduceBEq, Nat.reduceLT, Nat.reduceLeDiff, Int.reduceLT, Int.reduceLE, Int.reduceNeg, Int.reduceToNat, g0, g1, g21, g22, g23, g5, g6, gh, ho]
            have hp : Bz ^ (k + 1) = Bz ^ k * Bz := Int.pow_succ Bz k
            refine ⟨k + 1, ⟨by omega, ?_, ?_, ?_, ?_, ?_, ?_, 0, out.set k (a'.getD k 0 + c + b'.getD k 0), by omega, ?_, ?_, ?_, ?_, ?_⟩, by omega⟩
            all_goals try simp [upd_apply, g0, g1, g21, g22, g5, ho, -List.getD_eq_getElem?_getD]
            · exact okd_set oo k _ (by simp only [Bz]; omega)
            · have e1 := val_take_succ a' k h2
              have e2 := val_take_succ b' k h3
              rw [val_take_set out k _ (by omega)]
              grind
        · by_cases h4 : 1000000000 ≤ a'.getD k 0 + c
          · simp (disch := omega) only [go_sem, reduceCtorEq, Nat.reduceEqDiff, Nat.reduceAdd, Nat.reduceMul, Nat.reduceSub, ↓Nat.reduceBEq, Nat.reduceLT, Nat.reduceLeDiff, Int.reduceLT, Int.reduceLE, Int.reduceNeg, Int.reduceToNat, g0, g1, g21, g22, g23, g5, g6, gh, ho]
            have hp : Bz ^ (k + 1) = Bz ^ k * Bz := Int.pow_succ Bz k
            refine ⟨k + 1, ⟨by omega, ?_, ?_, ?_, ?_, ?_, ?_, 1, out.set k (a'.getD k 0 + c - 1000000000), by omega, ?_, ?_, ?_, ?_, ?_⟩, by omega⟩
            all_goals try simp [upd_apply, g0, g1, g21, g22, g5, ho, -List.getD_eq_getElem?_getD]
            · exact okd_set oo k _ (by simp only [Bz]; omega)
            · have e1 := val_take_succ a' k h2
              have e2 := show val (b'.take (k + 1)) = val (b'.take k) from by rw [List.take_of_length_le (by omega), List.take_of_length_le (by omega)]
              rw [val_take_set out k _ (by omega)]
              grind
          · simp (disch := omega) only [go_sem, reduceCtorEq, Nat.reduceEqDiff, Nat.reduceAdd, Nat.reduceMul, Nat.reduceSub, ↓Nat.reduceBEq, Nat.reduceLT, Nat.reduceLeDiff, Int.reduceLT, Int.reduceLE, Int.reduceNeg, Int.reduceToNat, g0, g1, g21, g22, g23, g5, g6, gh, ho]
            have hp : Bz ^ (k + 1) = Bz ^ k * Bz := Int.pow_succ Bz k
            refine ⟨k + 1, ⟨by omega, ?_, ?_, ?_, ?_, ?_, ?_, 0, out.set k (a'.getD k 0 + c), by omega, ?_, ?_, ?_, ?_, ?_⟩, by omega⟩
            all_goals try simp [upd_apply, g0, g1, g21, g22, g5, ho, -List.getD_eq_getElem?_getD]
            · exact okd_set oo k _ (by simp only [Bz]; omega)
            · have e1 := val_take_succ a' k h2
              have e2 := show val (b'.take (k + 1)) = val (b'.take k) from by rw [List.take_of_length_le (by omega), List.take_of_length_le (by omega)]
              rw [val_take_set out k _ (by omega)]
              grind
      · simp (disch := omega) only [go_sem, reduceCtorEq, Nat.reduceEqDiff, Nat.reduceAdd, Nat.reduceMul, Nat.reduceSub, ↓Nat.reduceBEq, Nat.reduceLT, Nat.reduceLeDiff, Int.reduceLT, Int.reduceLE, Int.reduceNeg, Int.reduceToNat, g0, g1, g21, g22, g23, g5, g6, gh, ho]
        have hk' : k = a'.length := by omega
        subst hk'
        try simp (disch := omega) only [ints_length, List.length_set, ho, if_true, Nat.le_refl, ↓mp_some, ↓PN_some, snaps_ints, List.take_length, ints_take, weak_ro, weaks_ints]
        have e0 : (out.set a'.length c).take (a'.length + 1) = out.set a'.length c := List.take_of_length_le (by simp [ho])
        rw [List.take_of_length_le (Nat.le_refl _), List.take_of_length_le hl] at hv2
        refine ⟨out.set a'.length c, ?_, okd_set oo _ _ (by simp only [Bz]; omega), ?_, ?_⟩
        · rw [e0, isl]; simp [ho]
        · rw [← hv, ← hv2, ← val_take_set out a'.length c (by omega), e0]
        · simp [ho]; omega
    · refine ⟨Nat.zero_le _, ?_⟩
      refine ⟨?_, ?_, ?_, ?_, ?_, ?_, 0, List.replicate (a'.length + 1) 0, .inl rfl, ?_, ?_, ?_, okd_rep _, ?_⟩ <;> simp [upd_apply, h0, h1, val]
  · intro hp
    simp (disch := omega) only [go_sem, reduceCtorEq, Nat.reduceEqDiff, Nat.reduceAdd, Nat.reduceMul, Nat.reduceSub, ↓Nat.reduceBEq, Nat.reduceLT, Nat.reduceLeDiff, Int.reduceLT, Int.reduceLE, Int.reduceNeg, Int.reduceToNat]
    exact ⟨b, a, rfl, rfl, by omega, ob, oa, hb, by omega, by omega⟩
  · intro hp
    simp (disch := omega) only [go_sem, reduceCtorEq, Nat.reduceEqDiff, Nat.reduceAdd, Nat.reduceMul, Nat.reduceSub, ↓Nat.reduceBEq, Nat.reduceLT, Nat.reduceLeDiff, Int.reduceLT, Int.reduceLE, Int.reduceNeg, Int.reduceToNat]
    exact ⟨a, b, rfl, rfl, by omega, oa, ob, ha, by omega, rfl⟩
end Go.Proofs.YtjccikgdebgebaaGreatDoor.Abs
end
section
set_option linter.unusedSimpArgs false
namespace Go.Proofs.YtjccikgdebgebaaGreatDoor.Abs
open Go
theorem getD_set_self (l : List Int) (n : Nat) (d : Int) (h : n < l.length) : (l.set n d).getD n 0 = d := by simp [h]
theorem getD_set_ne (l : List Int) (n m : Nat) (d : Int) (h : n ≠ m) : (l.set n d).getD m 0 = l.getD m 0 := by simp [h]
theorem getD_over (l : List Int) (n : Nat) (h : l.length ≤ n) : l.getD n 0 = 0 := by
  rw [List.getD_eq_getElem?_getD, List.getElem?_eq_none h]; rfl
theorem drop_set_gt (l : List Int) (n m : Nat) (d : Int) (h : n < m) : (l.set n d).drop m = l.drop m := by
  rw [List.drop_set]; simp [h]
theorem val_take_succ' (l : List Int) (n : Nat) : val (l.take (n + 1)) = val (l.take n) + Bz ^ n * l.getD n 0 := by
  by_cases h : n < l.length
  · exact val_take_succ l n h
  · rw [List.take_of_length_le (by omega), List.take_of_length_le (by omega), getD_over l n (by omega)]; simp
theorem getD_drop_succ {l m : List Int} {k : Nat} (h : l.drop (k + 1) = m.drop (k + 1)) : l.getD (k + 1) 0 = m.getD (k + 1) 0 := by
  have := congrArg (fun x => x.getD 0 0) h
  simpa [List.getD_eq_getElem?_getD] using this
theorem drop_drop_succ {l m : List Int} {k : Nat} (h : l.drop (k + 1) = m.drop (k + 1)) : l.drop (k + 2) = m.drop (k + 2) := by
  have := congrArg (fun x => x.drop 1) h
  simpa [List.drop_drop] using this
/-- minus: what stands in the memory after k digits. -/
def MinP (a b : List Int) (k : Nat) (o : List Int) : Prop :=
  o.length = a.length ∧ okd (o.take k) ∧ o.drop (k + 1) = a.drop (k + 1) ∧ (k < a.length → o.getD k 0 = a.getD k 0 ∨ o.getD k 0 = a.getD k 0 - 1) ∧ val o = val a - val (b.take k)
theorem bz_pos (k : Nat) : 0 < Bz ^ k := Int.pow_pos (by decide)
theorem okd_take_set {l : List Int} {k : Nat} {d : Int} (h : okd (l.take k)) (hk : k < l.length) (hd : 0 ≤ d ∧ d < Bz) : okd ((l.set k d).take (k + 1)) := by
  rw [take_set_succ l k d hk, okd_app]
  exact ⟨h, by intro x hx; simp at hx; subst hx; exact hd⟩
theorem minP_ge {a b o : List Int} {k : Nat} (h : MinP a b k o) (hk : k < a.length) (oa : okd a) (ob : okd b) (hd : 0 ≤ o.getD k 0 - b.getD k 0) : MinP a b (k + 1) (o.set k (o.getD k 0 - b.getD k 0)) := by
  obtain ⟨h1, h2, h3, h4, h5⟩ := h
  have ka := okd_getD oa k
  have kb := okd_getD ob k
  refine ⟨by simp [h1], okd_take_set h2 (by omega) ?_, ?_, ?_, ?_⟩
  · rcases h4 hk with h | h <;> omega
  · rw [drop_set_gt _ _ _ _ (by omega)]; exact drop_drop_succ h3
  · intro _; rw [getD_set_ne _ _ _ _ (by omega)]; exact .inl (getD_drop_succ h3)
  · rw [val_set _ _ _ (by omega), h5, val_take_succ' b k]; grind
theorem minP_lt {a b o : List Int} {k : Nat} (h : MinP a b k o) (hk : k < a.length) (oa : okd a) (ob : okd b) (hl : b.length ≤ a.length) (hv : val b ≤ val a) (hd : o.getD k 0 - b.getD k 0 < 0) :
    k + 1 < a.length ∧ MinP a b (k + 1) ((o.set k (o.getD k 0 - b.getD k 0 + 1000000000)).set (k + 1) (o.getD (k + 1) 0 - 1)) := by
  obtain ⟨h1, h2, h3, h4, h5⟩ := h
  have ka := okd_getD oa k
  have kb := okd_getD ob k
  have hlt : k + 1 < a.length := by
    apply Classical.byContradiction; intro hn
    have hk1 : k + 1 = a.length := by omega
    have e1 := val_take_succ' b k
    rw [List.take_of_length_le (by omega)] at e1
    have e2 := val_take_succ o k (by omega)
    rw [List.take_of_length_le (by omega)] at e2
    have e3 := val_lt h2
    rw [List.length_take, Nat.min_eq_left (by omega)] at e3
    have e4 := bz_pos k
    generalize Bz ^ k = p at *
    have e5 : p * (o.getD k 0 - b.getD k 0) ≤ p * (-1) := Int.mul_le_mul_of_nonneg_left (by omega) (by omega)
    rw [Int.mul_sub] at e5
    omega
  refine ⟨hlt, by simp [h1], ?_, ?_, ?_, ?_⟩
  · rw [List.take_set_of_le (by omega)]
    refine okd_take_set h2 (by omega) ?_
    simp only [Bz] at *
    rcases h4 hk with h | h <;> omega
  · rw [drop_set_gt _ _ _ _ (by omega), drop_set_gt _ _ _ _ (by omega)]; exact drop_drop_succ h3
  · intro _; rw [getD_set_self _ _ _ (by simp; omega), getD_drop_succ h3]; exact .inr rfl
  · rw [val_set _ _ _ (by simp; omega), getD_set_ne _ _ _ _ (by omega), val_set _ _ _ (by omega), h5, val_take_succ' b k]
    have hp : Bz ^ (k + 1) = Bz ^ k * Bz := Int.pow_succ Bz k
    rw [hp]; simp only [Bz]; grind
theorem minP_zero (a b : List Int) : MinP a b 0 a := ⟨rfl, by simp [okd], rfl, fun _ => .inl rfl, by simp [val]⟩
theorem minP_end {a b o : List Int} (h : MinP a b a.length o) (hl : b.length ≤ a.length) : okd o ∧ val o = val a - val b ∧ o.length = a.length := by
  obtain ⟨h1, h2, h3, h4, h5⟩ := h
  rw [List.take_of_length_le (by omega)] at h2 h5
  exact ⟨h2, h5, h1⟩
set_option maxRecDepth 100000 in
theorem M_129 [SpC] (a b : List Int) (ha : a.length < 2 ^ 30) (hl : b.length ≤ a.length) (oa : okd a) (ob : okd b) (hv : val b ≤ val a) :
    ∃ out, M X 129 [isl a, isl b] = some (isl out) ∧ okd out ∧ val out = val a - val b ∧ out.length = a.length := by
  suffices h : ∃ r, (∃ out, r = isl out ∧ okd out ∧ val out = val a - val b ∧ out.length = a.length) ∧ M X 129 [isl a, isl b] = some r by
    obtain ⟨r, ⟨out, rfl, h1⟩, h2⟩ := h
    exact ⟨out, h2, h1⟩
  refine M_ex (fn := Tryz.f129) Tryz.func129 rfl ok_129 mode_129 res_129 _ rfl _ ?_
  simp (maxSteps := 4000000) (disch := first | omega | (simp only [List.length_set, List.length_replicate, List.length_append, List.length_take, List.length_drop, List.length_cons, List.length_nil]; omega)) only [go_sem, reduceCtorEq, Nat.reduceEqDiff, Nat.reduceAdd, Nat.reduceMul, Nat.reduceSub, ↓Nat.reduceBEq, Nat.reduceLT, Nat.reduceLeDiff, Int.reduceLT, Int.reduceLE, Int.reduceNeg, Int.reduceToNat]
  simp (maxSteps := 4000000) (disch := first | omega | (simp only [List.length_set, List.length_replicate, List.length_append, List.length_take, List.length_drop, List.length_cons, List.length_nil]; omega)) only [ints_length, splice_full _ _ (show a.length = (List.replicate a.length (0:Int)).length by simp), go_sem, reduceCtorEq, Nat.reduceEqDiff, Nat.reduceAdd, Nat.reduceMul, Nat.reduceSub, ↓Nat.reduceBEq, Nat.reduceLT, Nat.reduceLeDiff, Int.reduceLT, Int.reduceLE, Int.reduceNeg, Int.reduceToNat]
  refine W_loop X (fun (k : Nat) s => k ≤ a.length ∧ s.env 0 = isl a ∧ s.env 1 = isl b ∧ s.env 14 = .int .i64 a.length ∧ s.env 15 = .int .i64 k ∧ s.env 5 = .sl 24 0 a.length (some a.length) 1 ∧
    ∃ o, s.heap 24 = some (.cells (ints o) false false) ∧ MinP a b k o) (fun k => a.length - k) ?_ 0 _ ?_
  · rintro k ⟨env, heap, nx⟩ ⟨hk, g0, g1, g14, g15, g5, o, gh, hm⟩
    simp only at g0 g1 g14 g15 g5 gh
    have ho := hm.1
    by_cases h2 : k < a.length
    · have ka := okd_getD oa k
      have kb := okd_getD ob k
      have ka' := hm.2.2.2.1 h2
      simp only [Bz] at ka kb
      by_cases h4 : 0 ≤ o.getD k 0 - b.getD k 0
      · have hm' := minP_ge hm h2 oa ob h4
        by_cases h3 : k < b.length
        · simp (maxSteps := 4000000) (disch := first | omega | (simp only [List.length_set, List.length_replicate, List.length_append, List.length_take, List.length_drop, List.length_cons, List.length_nil]; omega)) only [go_sem, reduceCtorEq, Nat.reduceEqDiff, Nat.reduceAdd, Nat.reduceMul, Nat.reduceSub, ↓Nat.reduceBEq, Nat.reduceLT, Nat.reduceLeDiff, Int.reduceLT, Int.reduceLE, Int.reduceNeg, Int.reduceToNat, g0, g1, g14, g15, g5, gh, ho, getD_set_self]
          exact ⟨k + 1, ⟨by omega, rfl, _, rfl, hm'⟩, by omega⟩
        · have hb0 := getD_over b k (by omega)
          have hs : o.set k (o.getD k 0 - b.getD k 0) = o := by rw [hb0, Int.sub_zero, getD_get _ _ (by omega), List.set_getElem_self]
          rw [hs] at hm'
          simp (maxSteps := 4000000) (disch := first | omega | (simp only [List.length_set, List.length_replicate, List.length_append, List.length_take, List.length_drop, List.length_cons, List.length_nil]; omega)) only [go_sem, reduceCtorEq, Nat.reduceEqDiff, Nat.reduceAdd, Nat.reduceMul, Nat.reduceSub, ↓Nat.reduceBEq, Nat.reduceLT, Nat.reduceLeDiff, Int.reduceLT, Int.reduceLE, Int.reduceNeg, Int.reduceToNat, g0, g1, g14, g15, g5, gh, ho, getD_set_self]
          exact ⟨k + 1, ⟨by omega, rfl, _, rfl, hm'⟩, by omega⟩
      · have hm' := minP_lt hm h2 oa ob hl hv (by omega)
        obtain ⟨h5, hm'⟩ := hm'
        have ka1 := okd_getD oa (k + 1)
        have ka1' := getD_drop_succ hm.2.2.1
        simp only [Bz] at ka1
        by_cases h3 : k < b.length
        · simp (maxSteps := 4000000) (disch := first | omega | (simp only [List.length_set, List.length_replicate, List.length_append, List.length_take, List.length_drop, List.length_cons, List.length_nil]; omega)) only [go_sem, reduceCtorEq, Nat.reduceEqDiff, Nat.reduceAdd, Nat.reduceMul, Nat.reduceSub, ↓Nat.reduceBEq, Nat.reduceLT, Nat.reduceLeDiff, Int.reduceLT, Int.reduceLE, Int.reduceNeg, Int.reduceToNat, g0, g1, g14, g15, g5, gh, ho, getD_set_self, getD_set_ne, List.set_set]
          exact ⟨k + 1, ⟨by omega, rfl, _, rfl, hm'⟩, by omega⟩
        · have hb0 := getD_over b k (by omega)
          rw [hb0, Int.sub_zero] at hm' h4
          simp (maxSteps := 4000000) (disch := first | omega | (simp only [List.length_set, List.length_replicate, List.length_append, List.length_take, List.length_drop, List.length_cons, List.length_nil]; omega)) only [go_sem, reduceCtorEq, Nat.reduceEqDiff, Nat.reduceAdd, Nat.reduceMul, Nat.reduceSub, ↓Nat.reduceBEq, Nat.reduceLT, Nat.reduceLeDiff, Int.reduceLT, Int.reduceLE, Int.reduceNeg, Int.reduceToNat, g0, g1, g14, g15, g5, gh, ho, getD_set_self, getD_set_ne, List.set_set]
          exact ⟨k + 1, ⟨by omega, rfl, _, rfl, hm'⟩, by omega⟩
    · simp (maxSteps := 4000000) (disch := first | omega | (simp only [List.length_set, List.length_replicate, List.length_append, List.length_take, List.length_drop, List.length_cons, List.length_nil]; omega)) only [go_sem, reduceCtorEq, Nat.reduceEqDiff, Nat.reduceAdd, Nat.reduceMul, Nat.reduceSub, ↓Nat.reduceBEq, Nat.reduceLT, Nat.reduceLeDiff, Int.reduceLT, Int.reduceLE, Int.reduceNeg, Int.reduceToNat, g0, g1, g14, g15, g5, gh, ho]
      have hk' : k = a.length := by omega
      subst hk'
      obtain ⟨h6, h7, h8⟩ := minP_end hm hl
      exact ⟨o, rfl, h6, h7, h8⟩
  · refine ⟨Nat.zero_le _, ?_⟩
    refine ⟨?_, ?_, ?_, ?_, ?_, a, ?_, minP_zero a b⟩ <;> simp [upd_apply, argEnv]
end Go.Proofs.YtjccikgdebgebaaGreatDoor.Abs
end
section
set_option linter.unusedSimpArgs false
namespace Go.Proofs.YtjccikgdebgebaaGreatDoor.Abs
open Go
theorem okd_nat (x : Int) : okd (digs x.natAbs) := okd_digs _
theorem val_nat (x : Int) : val (digs x.natAbs) = x.natAbs := val_digs _
theorem len_nd (x : Int) : (digs x.natAbs).length = nd x := nr rfl
/-- of, by value. -/
theorem ofZ [SpC] (neg : Bool) (l : List Int) (z : Int) (ol : okd l) (hl : l.length < 2 ^ 40) (hz : z = if neg then -val l else val l) : M X 126 [.bool neg, isl l] = some (.agg [zS z, zD z]) := by
  rw [M_126 neg l hl, trim_digs ol, aI_digs neg (val l).toNat z]
  have h := val_nonneg ol
  rw [hz, Int.toNat_of_nonneg h]
theorem plusZ [SpC] (x y : Int) (hx : nd x < 2 ^ 28) (hy : nd y < 2 ^ 28) : ∃ out, M X 127 [zD x, zD y] = some (isl out) ∧ okd out ∧ val out = x.natAbs + y.natAbs ∧ out.length ≤ nd x + nd y + 1 ∧ ∀ neg z, z = (if neg then -((x.natAbs : Int) + y.natAbs) else (x.natAbs : Int) + y.natAbs) → M X 126 [.bool neg, isl out] = some (.agg [zS z, zD z]) := by
  obtain ⟨out, h1, h2, h3, h4⟩ := M_127 (digs x.natAbs) (digs y.natAbs) (by rw [len_nd]; omega) (by rw [len_nd]; omega) (okd_nat x) (okd_nat y)
  rw [val_nat, val_nat] at h3
  rw [len_nd, len_nd] at h4
  refine ⟨out, h1, h2, h3, h4, fun neg z hz => ofZ neg out z h2 (by omega) (by rw [h3]; exact hz)⟩
theorem minusZ [SpC] (x y : Int) (hx : nd x < 2 ^ 28) (hl : nd y ≤ nd x) (hv : y.natAbs ≤ x.natAbs) : ∃ out, M X 129 [zD x, zD y] = some (isl out) ∧ okd out ∧ val out = x.natAbs - y.natAbs ∧ out.length = nd x ∧ ∀ neg z, z = (if neg then -((x.natAbs : Int) - y.natAbs) else (x.natAbs : Int) - y.natAbs) → M X 126 [.bool neg, isl out] = some (.agg [zS z, zD z]) := by
  obtain ⟨out, h1, h2, h3, h4⟩ := M_129 (digs x.natAbs) (digs y.natAbs) (by rw [len_nd]; omega) hl (okd_nat x) (okd_nat y) (by rw [val_nat, val_nat]; omega)
  rw [val_nat, val_nat] at h3
  rw [len_nd] at h4
  refine ⟨out, h1, h2, h3, h4, fun neg z hz => ofZ neg out z h2 (by omega) (by rw [h3]; exact hz)⟩
theorem nd_mono {x y : Int} (h : x.natAbs ≤ y.natAbs) : nd x ≤ nd y := by
  rw [nd, len_digs]
  exact Nat.lt_of_le_of_lt h ((len_digs _ _).1 (Nat.le_refl _))
theorem compareZ [SpC] (x y : Int) (hx : nd x < 2 ^ 40) (hy : nd y < 2 ^ 40) : M X 128 [zD x, zD y] = some (.int .i64 (cmpZ x.natAbs y.natAbs)) := by
  rw [← cmpL_digs]
  exact M_128 _ _ hx hy
set_option maxRecDepth 100000 in
theorem M_93 [SpC] (x y : Int) (hx : nd x < 2 ^ 28) (hy : nd y < 2 ^ 28) : M X 93 [.agg [zS x, zD x], .agg [zS y, zD y]] = some (.agg [zS (x + y), zD (x + y)]) := by
  refine M_of X (fn := Tryz.f93) Tryz.func93 rfl ok_93 mode_93 res_93 _ rfl _ ?_
  intro r hr
  obtain ⟨p, p1, p2, p3, p4, p5⟩ := plusZ x y hx hy
  have hc := compareZ x y (by omega) (by omega)
  by_cases h1 : x < 0
  · by_cases h2 : y < 0
    · have p6 := p5 true (x + y) (by simp; omega)
      simp (maxSteps := 4000000) (disch := first | omega | (simp only [List.length_set, List.length_replicate, List.length_append, List.length_take, List.length_drop, List.length_cons, List.length_nil]; omega)) only [go_sem, reduceCtorEq, Nat.reduceEqDiff, Nat.reduceAdd, Nat.reduceMul, Nat.reduceSub, ↓Nat.reduceBEq, Nat.reduceLT, Nat.reduceLeDiff, Int.reduceLT, Int.reduceLE, Int.reduceNeg, Int.reduceToNat, zS_neg, mode_127, mode_126, p1, p6]
      simp (disch := omega) only [hr, zS_neg, zS_pos]
    · by_cases h3 : x.natAbs < y.natAbs
      · obtain ⟨m, m1, m2, m3, m4, m5⟩ := minusZ y x hy (nd_mono (by omega)) (by omega)
        have m6 := m5 false (x + y) (by simp; omega)
        rw [cmpZ_lt (by omega)] at hc
        simp (maxSteps := 4000000) (disch := first | omega | (simp only [List.length_set, List.length_replicate, List.length_append, List.length_take, List.length_drop, List.length_cons, List.length_nil]; omega)) only [go_sem, reduceCtorEq, Nat.reduceEqDiff, Nat.reduceAdd, Nat.reduceMul, Nat.reduceSub, ↓Nat.reduceBEq, Nat.reduceLT, Nat.reduceLeDiff, Int.reduceLT, Int.reduceLE, Int.reduceNeg, Int.reduceToNat, zS_neg, zS_pos, mode_129, mode_128, mode_126, m1, m6, hc]
        simp (disch := omega) only [hr, zS_neg, zS_pos]
      · obtain ⟨m, m1, m2, m3, m4, m5⟩ := minusZ x y hx (nd_mono (by omega)) (by omega)
        have m6 := m5 true (x + y) (by simp; omega)
        have hc' : 0 ≤ cmpZ (x.natAbs : Int) y.natAbs := by unfold cmpZ; rw [if_neg (by omega)]; split <;> omega
        simp (maxSteps := 4000000) (disch := first | omega | (simp only [List.length_set, List.length_replicate, List.length_append, List.length_take, List.length_drop, List.length_cons, List.length_nil]; omega)) only [go_sem, reduceCtorEq, Nat.reduceEqDiff, Nat.reduceAdd, Nat.reduceMul, Nat.reduceSub, ↓Nat.reduceBEq, Nat.reduceLT, Nat.reduceLeDiff, Int.reduceLT, Int.reduceLE, Int.reduceNeg, Int.reduceToNat, zS_neg, zS_pos, mode_129, mode_128, mode_126, m1, m6, hc]
        simp (disch := omega) only [hr, zS_neg, zS_pos]
  · by_cases h2 : y < 0
    · by_cases h3 : x.natAbs < y.natAbs
      · obtain ⟨m, m1, m2, m3, m4, m5⟩ := minusZ y x hy (nd_mono (by omega)) (by omega)
        have m6 := m5 true (x + y) (by simp; omega)
        rw [cmpZ_lt (by omega)] at hc
        simp (maxSteps := 4000000) (disch := first | omega | (simp only [List.length_set, List.length_replicate, List.length_append, List.length_take, List.length_drop, List.length_cons, List.length_nil]; omega)) only [go_sem, reduceCtorEq, Nat.reduceEqDiff, Nat.reduceAdd, Nat.reduceMul, Nat.reduceSub, ↓Nat.reduceBEq, Nat.reduceLT, Nat.reduceLeDiff, Int.reduceLT, Int.reduceLE, Int.reduceNeg, Int.reduceToNat, zS_neg, zS_pos, mode_129, mode_128, mode_126, m1, m6, hc]
        simp (disch := omega) only [hr, zS_neg, zS_pos]
      · obtain ⟨m, m1, m2, m3, m4, m5⟩ := minusZ x y hx (nd_mono (by omega)) (by omega)
        have m6 := m5 false (x + y) (by simp; omega)
        have hc' : 0 ≤ cmpZ (x.natAbs : Int) y.natAbs := by unfold cmpZ; rw [if_neg (by omega)]; split <;> omega
        simp (maxSteps := 4000000) (disch := first | omega | (simp only [List.length_set, List.length_replicate, List.length_append, List.length_take, List.length_drop, List.length_cons, List.length_nil]; omega)) only [go_sem, reduceCtorEq, Nat.reduceEqDiff, Nat.reduceAdd, Nat.reduceMul, Nat.reduceSub, ↓Nat.reduceBEq, Nat.reduceLT, Nat.reduceLeDiff, Int.reduceLT, Int.reduceLE, Int.reduceNeg, Int.reduceToNat, zS_neg, zS_pos, mode_129, mode_128, mode_126, m1, m6, hc]
        simp (disch := omega) only [hr, zS_neg, zS_pos]
    · have p6 := p5 false (x + y) (by simp; omega)
      simp (maxSteps := 4000000) (disch := first | omega | (simp only [List.length_set, List.length_replicate, List.length_append, List.length_take, List.length_drop, List.length_cons, List.length_nil]; omega)) only [go_sem, reduceCtorEq, Nat.reduceEqDiff, Nat.reduceAdd, Nat.reduceMul, Nat.reduceSub, ↓Nat.reduceBEq, Nat.reduceLT, Nat.reduceLeDiff, Int.reduceLT, Int.reduceLE, Int.reduceNeg, Int.reduceToNat, zS_pos, mode_127, mode_126, p1, p6]
      simp (disch := omega) only [hr, zS_neg, zS_pos]
end Go.Proofs.YtjccikgdebgebaaGreatDoor.Abs
end
section
set_option linter.unusedSimpArgs false
namespace Go.Proofs.YtjccikgdebgebaaGreatDoor.Abs
open Go
theorem nd_le_two (x : Int) : nd x ≤ 2 ↔ x.natAbs < 1000000000000000000 := by rw [nd, len_digs]; exact Iff.rfl
theorem nd_le_one (x : Int) : nd x ≤ 1 ↔ x.natAbs < 1000000000 := by rw [nd, len_digs]; exact Iff.rfl
theorem zD_nil (x : Int) (h : x = 0) : zD x = isl [] := by rw [zD, h, Int.natAbs_zero, digs_zero]
theorem zD_one (x : Int) (h : x ≠ 0) (h1 : x.natAbs < 1000000000) : zD x = isl [(x.natAbs : Int)] := by rw [zD, digs_lt _ (by omega) h1]
theorem zD_two (x : Int) (h : 1000000000 ≤ x.natAbs) (h1 : x.natAbs < 1000000000000000000) : zD x = isl [((x.natAbs % 1000000000 : Nat) : Int), ((x.natAbs / 1000000000 : Nat) : Int)] := by rw [zD, digs_two _ h h1]
set_option maxRecDepth 100000 in
theorem two_lt [SpC] (x : Int) (h : x.natAbs < 1000000000000000000) : M X 157 [zD x] = some (.tuple [.int .i64 x.natAbs, .bool true]) := by
  refine M_of X (fn := Tryz.f157) Tryz.func157 rfl ok_157 mode_157 res_157 _ rfl _ ?_
  intro r hr
  by_cases h0 : x = 0
  · rw [zD_nil x h0]
    simp (maxSteps := 4000000) (disch := first | omega | (simp only [List.length_set, List.length_replicate, List.length_append, List.length_take, List.length_drop, List.length_cons, List.length_nil]; omega)) only [go_sem, reduceCtorEq, Nat.reduceEqDiff, Nat.reduceAdd, Nat.reduceMul, Nat.reduceSub, ↓Nat.reduceBEq, Nat.reduceLT, Nat.reduceLeDiff, Int.reduceLT, Int.reduceLE, Int.reduceNeg, Int.reduceToNat]
    rw [hr, h0]; rfl
  · by_cases h1 : x.natAbs < 1000000000
    · rw [zD_one x h0 h1]
      simp (maxSteps := 4000000) (disch := first | omega | (simp only [List.length_set, List.length_replicate, List.length_append, List.length_take, List.length_drop, List.length_cons, List.length_nil]; omega)) only [go_sem, reduceCtorEq, Nat.reduceEqDiff, Nat.reduceAdd, Nat.reduceMul, Nat.reduceSub, ↓Nat.reduceBEq, Nat.reduceLT, Nat.reduceLeDiff, Int.reduceLT, Int.reduceLE, Int.reduceNeg, Int.reduceToNat]
      rw [hr]
    · rw [zD_two x (by omega) h]
      simp (maxSteps := 4000000) (disch := first | omega | (simp only [List.length_set, List.length_replicate, List.length_append, List.length_take, List.length_drop, List.length_cons, List.length_nil]; omega)) only [go_sem, reduceCtorEq, Nat.reduceEqDiff, Nat.reduceAdd, Nat.reduceMul, Nat.reduceSub, ↓Nat.reduceBEq, Nat.reduceLT, Nat.reduceLeDiff, Int.reduceLT, Int.reduceLE, Int.reduceNeg, Int.reduceToNat]
      rw [hr]
      congr 3; omega
set_option maxRecDepth 100000 in
theorem two_ge [SpC] (x : Int) (h : 1000000000000000000 ≤ x.natAbs) (hx : nd x < 2 ^ 40) : M X 157 [zD x] = some (.tuple [.int .i64 0, .bool false]) := by
  refine M_of X (fn := Tryz.f157) Tryz.func157 rfl ok_157 mode_157 res_157 _ rfl _ ?_
  intro r hr
  have h1 : 2 < nd x := by have := nd_le_two x; omega
  simp (maxSteps := 4000000) (disch := first | omega | (simp only [List.length_set, List.length_replicate, List.length_append, List.length_take, List.length_drop, List.length_cons, List.length_nil]; omega)) only [go_sem, reduceCtorEq, Nat.reduceEqDiff, Nat.reduceAdd, Nat.reduceMul, Nat.reduceSub, ↓Nat.reduceBEq, Nat.reduceLT, Nat.reduceLeDiff, Int.reduceLT, Int.reduceLE, Int.reduceNeg, Int.reduceToNat]
  rw [hr]
/-- Mul: what stands in the memory, at digit i of a, behind k digits of b. -/
def MulP (a b : List Int) (i k : Nat) (c : Int) (o : List Int) : Prop :=
  o.length = a.length + b.length ∧ okd o ∧ (0 ≤ c ∧ c < 1000000000) ∧ val o + Bz ^ (i + k) * c = val (a.take i) * val b + Bz ^ i * a.getD i 0 * val (b.take k) ∧ (∀ j, i + b.length ≤ j → o.getD j 0 = 0)
theorem mul_dig {d e : Int} (hd : 0 ≤ d ∧ d < 1000000000) (he : 0 ≤ e ∧ e < 1000000000) : 0 ≤ d * e ∧ d * e ≤ 999999999 * 999999999 :=
  ⟨Int.mul_nonneg hd.1 he.1, Int.mul_le_mul (by omega) (by omega) he.1 (by omega)⟩
theorem mulP_step {a b o : List Int} {i k : Nat} {c : Int} (h : MulP a b i k c o) (hi : i < a.length) (hk : k < b.length) (oa : okd a) (ob : okd b) (v q : Int) (hv : v = o.getD (i + k) 0 + a.getD i 0 * b.getD k 0 + c) (hq : q = v / 1000000000) :
    MulP a b i (k + 1) q (o.set (i + k) (v - q * 1000000000)) := by
  obtain ⟨h1, h2, h3, h4, h5⟩ := h
  have ka := okd_getD oa i
  have kb := okd_getD ob k
  have ko := okd_getD h2 (i + k)
  have hm := mul_dig ka kb
  simp only [Bz] at ka kb ko
  refine ⟨by simp [h1], okd_set h2 _ _ ?_, ?_, ?_, ?_⟩
  · simp only [Bz]; omega
  · omega
  · rw [val_set _ _ _ (by omega), val_take_succ b k hk]
    have e1 : Bz ^ (i + (k + 1)) = Bz ^ (i + k) * Bz := Int.pow_succ Bz (i + k)
    have e2 : Bz ^ (i + k) = Bz ^ i * Bz ^ k := Int.pow_add Bz i k
    rw [e1]
    rw [e2] at h4 ⊢
    simp only [Bz] at h4 ⊢
    grind
  · intro j hj
    rw [getD_set_ne _ _ _ _ (by omega)]; exact h5 j hj
theorem mulP_end {a b o : List Int} {i : Nat} {c : Int} (h : MulP a b i b.length c o) (hi : i < a.length) : MulP a b (i + 1) 0 0 (o.set (i + b.length) c) := by
  obtain ⟨h1, h2, h3, h4, h5⟩ := h
  refine ⟨by simp [h1], okd_set h2 _ _ h3, by omega, ?_, ?_⟩
  · rw [List.take_of_length_le (Nat.le_refl _)] at h4
    rw [val_set _ _ _ (by omega), h5 _ (Nat.le_refl _), List.take_zero, val_nil, val_take_succ a i hi]
    grind
  · intro j hj
    rw [getD_set_ne _ _ _ _ (by omega)]; exact h5 j (by omega)
theorem mulP_zero (a b : List Int) : MulP a b 0 0 0 (List.replicate (a.length + b.length) 0) := by
  refine ⟨by simp, okd_rep _, by omega, by simp [val, val_rep], fun j _ => ?_⟩
  rw [List.getD_eq_getElem?_getD, List.getElem?_replicate]; split <;> rfl
theorem mulP_val {a b o : List Int} (h : MulP a b a.length 0 0 o) : okd o ∧ val o = val a * val b := by
  obtain ⟨h1, h2, h3, h4, h5⟩ := h
  rw [List.take_of_length_le (Nat.le_refl _), List.take_zero, val_nil] at h4
  exact ⟨h2, by simpa using h4⟩
set_option maxRecDepth 100000 in
set_option maxHeartbeats 4000000 in
theorem mulL [SpC] (na nb : Bool) (a b : List Int) (ha : a.length < 2 ^ 28) (hb : b.length < 2 ^ 28) (oa : okd a) (ob : okd b) (h1 : ¬ (a.length = 1 ∧ b.length = 1)) (z : Int) (hz : z = if na = nb then val a * val b else -(val a * val b)) :
    M X 96 [.agg [.bool na, isl a], .agg [.bool nb, isl b]] = some (.agg [zS z, zD z]) := by
  refine M_of X (fn := Tryz.f96) Tryz.func96 rfl ok_96 mode_96 res_96 _ rfl _ ?_
  intro r hr
  have hof : ∀ out, okd out → val out = val a * val b → out.length < 2 ^ 40 → ∀ t, t = !(na == nb) → M X 126 [.bool t, isl out] = some (.agg [zS z, zD z]) := by
    intro out h2 h3 h4 t ht
    refine ofZ _ out z h2 h4 ?_
    rw [hz, h3, ht]; cases na <;> cases nb <;> rfl
  by_cases h2 : a.length = 1
  all_goals
    simp (maxSteps := 4000000) (disch := first | omega | (simp only [List.length_set, List.length_replicate, List.length_append, List.length_take, List.length_drop, List.length_cons, List.length_nil]; omega)) only [go_sem, reduceCtorEq, Nat.reduceEqDiff, Nat.reduceAdd, Nat.reduceMul, Nat.reduceSub, ↓Nat.reduceBEq, Nat.reduceLT, Nat.reduceLeDiff, Int.reduceLT, Int.reduceLE, Int.reduceNeg, Int.reduceToNat]
    refine W_loop X (fun (i : Nat) s => i ≤ a.length ∧ s.env 2 = .ptr 0 0 ∧ s.env 3 = .ptr 8 0 ∧ s.env 4 = .ptr 16 0 ∧ s.env 5 = isl a ∧ s.env 6 = isl b ∧ s.env 7 = .sl 176 0 (a.length + b.length) (some (a.length + b.length)) 1 ∧
      s.env 47 = isl a ∧ s.env 48 = .int .i64 a.length ∧ s.env 49 = .int .i64 i ∧ s.heap 0 = some (.cells [.bool na, isl a] false false) ∧ s.heap 8 = some (.cells [.bool nb, isl b] false false) ∧ s.heap 16 = some (.cells [.bool false, .ro [] 0 false] false false) ∧ 176 < s.next ∧
      ∃ o, s.heap 176 = some (.cells (ints o) false false) ∧ MulP a b i 0 0 o) (fun i => a.length - i) ?_ 0 _ ?_
    · rintro i ⟨env, heap, nx⟩ ⟨hi, g2, g3, g4, g5, g6, g7, g47, g48, g49, e0, e8, e16, hnx, o, gh, hm⟩
      simp only at g2 g3 g4 g5 g6 g7 g47 g48 g49 e0 e8 e16 gh hnx
      have ho := hm.1
      by_cases h3 : i < a.length
      · simp (maxSteps := 4000000) (disch := first | omega | (simp only [List.length_set, List.length_replicate, List.length_append, List.length_take, List.length_drop, List.length_cons, List.length_nil]; omega)) only [go_sem, reduceCtorEq, Nat.reduceEqDiff, Nat.reduceAdd, Nat.reduceMul, Nat.reduceSub, ↓Nat.reduceBEq, Nat.reduceLT, Nat.reduceLeDiff, Int.reduceLT, Int.reduceLE, Int.reduceNeg, Int.reduceToNat, g2, g3, g4, g5, g6, g7, g47, g48, g49, e0, e8, e16, gh, ho]
        refine W_loop X (fun (k : Nat) s => k ≤ b.length ∧ s.env 2 = .ptr 0 0 ∧ s.env 3 = .ptr 8 0 ∧ s.env 4 = .ptr 16 0 ∧ s.env 5 = isl a ∧ s.env 6 = isl b ∧ s.env 7 = .sl 176 0 (a.length + b.length) (some (a.length + b.length)) 1 ∧
          s.env 47 = isl a ∧ s.env 48 = .int .i64 a.length ∧ s.env 49 = .int .i64 i ∧ s.env 8 = .int .i64 i ∧ s.env 9 = .int .i64 (a.getD i 0) ∧ s.env 54 = isl b ∧ s.env 55 = .int .i64 b.length ∧ s.env 56 = .int .i64 k ∧ s.heap 0 = some (.cells [.bool na, isl a] false false) ∧ s.heap 8 = some (.cells [.bool nb, isl b] false false) ∧ s.heap 16 = some (.cells [.bool false, .ro [] 0 false] false false) ∧ 176 < s.next ∧
          ∃ o c, s.heap 176 = some (.cells (ints o) false false) ∧ s.env 10 = .int .i64 c ∧ MulP a b i k c o) (fun k => b.length - k) ?_ 0 _ ?_
        · clear gh hm ho g2 g3 g4 g5 g6 g7 g47 g48 g49 e0 e8 e16 hnx
          rintro k ⟨env, heap, nx⟩ ⟨hk, g2, g3, g4, g5, g6, g7, g47, g48, g49, g8, g9, g54, g55, g56, e0, e8, e16, hnx, o, c, gh, g10, hm⟩
          simp only at g2 g3 g4 g5 g6 g7 g47 g48 g49 g8 g9 g54 g55 g56 e0 e8 e16 gh hnx g10
          have ho := hm.1
          have hc := hm.2.2.1
          by_cases h4 : k < b.length
          · have ka := okd_getD oa i
            have kb := okd_getD ob k
            have ko := okd_getD hm.2.1 (i + k)
            have hd := mul_dig ka kb
            simp only [Bz] at ka kb ko
            have hm' := mulP_step hm h3 h4 oa ob _ _ rfl rfl
            simp (maxSteps := 4000000) (disch := first | omega | (simp only [List.length_set, List.length_replicate, List.length_append, List.length_take, List.length_drop, List.length_cons, List.length_nil]; omega)) only [go_sem, reduceCtorEq, Nat.reduceEqDiff, Nat.reduceAdd, Nat.reduceMul, Nat.reduceSub, ↓Nat.reduceBEq, Nat.reduceLT, Nat.reduceLeDiff, Int.reduceLT, Int.reduceLE, Int.reduceNeg, Int.reduceToNat, g2, g3, g4, g5, g6, g7, g47, g48, g49, g8, g9, g10, g54, g55, g56, e0, e8, e16, gh, ho]
            exact ⟨k + 1, ⟨by omega, rfl, by omega, _, _, rfl, rfl, hm'⟩, by omega⟩
          · have hk' : k = b.length := by omega
            subst hk'
            have hm' := mulP_end hm h3
            simp (maxSteps := 4000000) (disch := first | omega | (simp only [List.length_set, List.length_replicate, List.length_append, List.length_take, List.length_drop, List.length_cons, List.length_nil]; omega)) only [go_sem, reduceCtorEq, Nat.reduceEqDiff, Nat.reduceAdd, Nat.reduceMul, Nat.reduceSub, ↓Nat.reduceBEq, Nat.reduceLT, Nat.reduceLeDiff, Int.reduceLT, Int.reduceLE, Int.reduceNeg, Int.reduceToNat, g2, g3, g4, g5, g6, g7, g47, g48, g49, g8, g9, g10, g54, g55, g56, e0, e8, e16, gh, ho]
            exact ⟨i + 1, ⟨by omega, rfl, by omega, _, rfl, hm'⟩, by omega⟩
        · refine ⟨Nat.zero_le _, ?_, ?_, ?_, ?_, ?_, ?_, ?_, ?_, ?_, ?_, ?_, ?_, ?_, ?_, ?_, ?_, ?_, ?_, o, 0, ?_, ?_, hm⟩ <;> simp [upd_apply, g2, g3, g4, g5, g6, g7, g47, g48, g49, e0, e8, e16, gh]
          omega
      · have hi' : i = a.length := by omega
        subst hi'
        have hv := mulP_val hm
        have hof' := hof o hv.1 hv.2 (by omega) _ rfl
        simp (maxSteps := 4000000) (disch := first | omega | (simp only [List.length_set, List.length_replicate, List.length_append, List.length_take, List.length_drop, List.length_cons, List.length_nil]; omega)) only [go_sem, reduceCtorEq, Nat.reduceEqDiff, Nat.reduceAdd, Nat.reduceMul, Nat.reduceSub, ↓Nat.reduceBEq, Nat.reduceLT, Nat.reduceLeDiff, Int.reduceLT, Int.reduceLE, Int.reduceNeg, Int.reduceToNat, g2, g3, g4, g5, g6, g7, g47, g48, g49, e0, e8, e16, gh, ho, mode_126, hof']
        rw [hr]
    · refine ⟨Nat.zero_le _, ?_, ?_, ?_, ?_, ?_, ?_, ?_, ?_, ?_, ?_, ?_, ?_, ?_, _, ?_, mulP_zero a b⟩ <;> simp [upd_apply, argEnv]
theorem zS_of (z : Int) (b : Bool) (h : b = decide (z < 0)) : zS z = .bool b := by rw [zS, h]
set_option maxRecDepth 100000 in
theorem mul_one [SpC] (x y : Int) (hx : nd x = 1) (hy : nd y = 1) (na nb : Bool) (ha : na = decide (x < 0)) (hb : nb = decide (y < 0)) : M X 96 [.agg [.bool na, zD x], .agg [.bool nb, zD y]] = some (.agg [zS (x * y), zD (x * y)]) := by
  have x1 := (nd_le_one x).1 (by omega)
  have y1 := (nd_le_one y).1 (by omega)
  have x0 : x ≠ 0 := fun h => by have := nd_zero x h; omega
  have y0 : y ≠ 0 := fun h => by have := nd_zero y h; omega
  have hp := mul_dig (d := x.natAbs) (e := y.natAbs) (by omega) (by omega)
  rw [zD_one x x0 x1, zD_one y y0 y1]
  refine M_of X (fn := Tryz.f96) Tryz.func96 rfl ok_96 mode_96 res_96 _ rfl _ ?_
  intro r hr
  have hu := M_134 (!(na == nb)) ((x.natAbs : Int) * y.natAbs) hp.1 (by omega)
  rw [aI_digs (!(na == nb)) _ (x * y) ?_] at hu
  · simp (maxSteps := 4000000) (disch := first | omega | (simp only [List.length_set, List.length_replicate, List.length_append, List.length_take, List.length_drop, List.length_cons, List.length_nil]; omega)) only [go_sem, reduceCtorEq, Nat.reduceEqDiff, Nat.reduceAdd, Nat.reduceMul, Nat.reduceSub, ↓Nat.reduceBEq, Nat.reduceLT, Nat.reduceLeDiff, Int.reduceLT, Int.reduceLE, Int.reduceNeg, Int.reduceToNat, mode_134, hu]
    rw [hr]
  · rw [Int.toNat_of_nonneg hp.1, ha, hb]
    rcases Int.natAbs_eq x with e1 | e1 <;> rcases Int.natAbs_eq y with e2 | e2 <;> generalize x.natAbs = m at * <;> generalize y.natAbs = n at * <;> subst e1 <;> subst e2
    · rw [decide_eq_false (by omega), decide_eq_false (by omega)]; rfl
    · rw [decide_eq_false (by omega), decide_eq_true (by omega)]; simp [Int.mul_neg]
    · rw [decide_eq_true (by omega), decide_eq_false (by omega)]; simp [Int.neg_mul]
    · rw [decide_eq_true (by omega), decide_eq_true (by omega)]; simp [Int.neg_mul_neg]
theorem M_96 [SpC] (x y : Int) (hx : nd x < 2 ^ 28) (hy : nd y < 2 ^ 28) : M X 96 [.agg [zS x, zD x], .agg [zS y, zD y]] = some (.agg [zS (x * y), zD (x * y)]) := by
  by_cases h : nd x = 1 ∧ nd y = 1
  · exact mul_one x y h.1 h.2 _ _ rfl rfl
  · refine mulL _ _ _ _ hx hy (okd_nat x) (okd_nat y) h (x * y) ?_
    rw [val_nat, val_nat]
    rcases Int.natAbs_eq x with e1 | e1 <;> rcases Int.natAbs_eq y with e2 | e2 <;> generalize x.natAbs = m at * <;> generalize y.natAbs = n at * <;> subst e1 <;> subst e2
    · rw [decide_eq_false (by omega), decide_eq_false (by omega)]; rfl
    · by_cases hn : n = 0
      · subst hn; simp
      · rw [decide_eq_false (by omega), decide_eq_true (by omega)]; simp [Int.mul_neg]
    · by_cases hm : m = 0
      · subst hm; simp
      · rw [decide_eq_true (by omega), decide_eq_false (by omega)]; simp [Int.neg_mul]
    · by_cases hn : n = 0
      · subst hn; simp
      · by_cases hm : m = 0
        · subst hm; simp
        · rw [decide_eq_true (by omega), decide_eq_true (by omega)]; simp [Int.neg_mul_neg]
end Go.Proofs.YtjccikgdebgebaaGreatDoor.Abs
end
section
set_option linter.unusedSimpArgs false
namespace Go.Proofs.YtjccikgdebgebaaGreatDoor.Abs
open Go
theorem drop_set_eq (l : List Int) (n : Nat) (d : Int) (h : n < l.length) : (l.set n d).drop n = d :: l.drop (n + 1) := by
  rw [List.drop_eq_getElem_cons (by simpa using h)]
  simp [drop_set_gt]
theorem val_drop_set (l : List Int) (n : Nat) (d : Int) (h : n < l.length) : val ((l.set n d).drop n) = d + Bz * val (l.drop (n + 1)) := by
  rw [drop_set_eq l n d h, val]
/-- short: digits n and above are done. -/
def ShoP (a : List Int) (b : Int) (n : Nat) (c : Int) (q : List Int) : Prop :=
  q.length = a.length ∧ okd q ∧ (0 ≤ c ∧ c < b) ∧ val (a.drop n) = b * val (q.drop n) + c
theorem dig_div {b c d : Int} (hb : 0 < b) (hc : 0 ≤ c ∧ c < b) (hd : 0 ≤ d ∧ d < 1000000000) : 0 ≤ (c * 1000000000 + d) / b ∧ (c * 1000000000 + d) / b < 1000000000 := by
  refine ⟨Int.ediv_nonneg (by omega) (by omega), Int.ediv_lt_of_lt_mul hb ?_⟩
  have : (c + 1) * 1000000000 ≤ b * 1000000000 := Int.mul_le_mul_of_nonneg_right (by omega) (by omega)
  omega
theorem shoP_step {a q : List Int} {b c : Int} {n : Nat} (h : ShoP a b (n + 1) c q) (hn : n < a.length) (oa : okd a) (hb : 0 < b) :
    ShoP a b n ((c * 1000000000 + a.getD n 0) % b) (q.set n ((c * 1000000000 + a.getD n 0) / b)) := by
  obtain ⟨h1, h2, h3, h4⟩ := h
  have ka := okd_getD oa n
  simp only [Bz] at ka
  refine ⟨by simp [h1], okd_set h2 _ _ ?_, ⟨Int.emod_nonneg _ (by omega), Int.emod_lt_of_pos _ hb⟩, ?_⟩
  · exact dig_div hb h3 ka
  · rw [val_drop_set _ _ _ (by omega), val_drop a n hn, h4]
    have e := Int.mul_ediv_add_emod (c * 1000000000 + a.getD n 0) b
    simp only [Bz]
    generalize (c * 1000000000 + a.getD n 0) / b = x at *
    generalize (c * 1000000000 + a.getD n 0) % b = y at *
    generalize val (List.drop (n + 1) q) = z at *
    grind
theorem shoP_zero (a : List Int) (b : Int) (hb : 0 < b) : ShoP a b a.length 0 (List.replicate a.length 0) := by
  refine ⟨by simp, okd_rep _, by omega, ?_⟩
  rw [List.drop_of_length_le (by simp), List.drop_of_length_le (by simp)]; simp [val]
set_option maxRecDepth 100000 in
theorem M_168 [SpC] (a : List Int) (b : Int) (ha : a.length < 2 ^ 30) (oa : okd a) (hb : 0 < b ∧ b ≤ 1000000000) :
    ∃ q, M X 168 [isl a, .int .i64 b] = some (.tuple [isl q, .int .i64 (val a % b)]) ∧ okd q ∧ val q = val a / b ∧ q.length = a.length := by
  suffices h : ∃ r, (∃ q c, r = .tuple [isl q, .int .i64 c] ∧ ShoP a b 0 c q) ∧ M X 168 [isl a, .int .i64 b] = some r by
    obtain ⟨r, ⟨q, c, rfl, h1, h2, h3, h4⟩, h5⟩ := h
    rw [List.drop_zero, List.drop_zero] at h4
    have e1 : val a % b = c := by rw [h4, Int.mul_add_emod_self_left, Int.emod_eq_of_lt h3.1 h3.2]
    have e2 : val a / b = val q := by rw [h4, Int.mul_add_ediv_left _ _ (by omega), Int.ediv_eq_zero_of_lt h3.1 h3.2]; simp
    exact ⟨q, by rw [h5, e1], h2, e2.symm, h1⟩
  refine M_ex (fn := Tryz.f168) Tryz.func168 rfl ok_168 mode_168 res_168 _ rfl _ ?_
  simp (maxSteps := 4000000) (disch := first | omega | (simp only [List.length_set, List.length_replicate, List.length_append, List.length_take, List.length_drop, List.length_cons, List.length_nil]; omega)) only [go_sem, reduceCtorEq, Nat.reduceEqDiff, Nat.reduceAdd, Nat.reduceMul, Nat.reduceSub, ↓Nat.reduceBEq, Nat.reduceLT, Nat.reduceLeDiff, Int.reduceLT, Int.reduceLE, Int.reduceNeg, Int.reduceToNat]
  refine W_loop X (fun (n : Nat) s => n ≤ a.length ∧ s.env 0 = isl a ∧ s.env 1 = .int .i64 b ∧ s.env 6 = .sl 32 0 a.length (some a.length) 1 ∧ s.env 8 = .int .i64 ((n : Int) - 1) ∧ 32 < s.next ∧
    ∃ q c, s.heap 32 = some (.cells (ints q) false false) ∧ s.env 7 = .int .i64 c ∧ ShoP a b n c q) (fun n => n) ?_ a.length _ ?_
  · rintro n ⟨env, heap, nx⟩ ⟨hn, g0, g1, g6, g8, hnx, q, c, gh, g7, hm⟩
    simp only at g0 g1 g6 g8 gh g7 hnx
    have hq := hm.1
    have hc := hm.2.2.1
    obtain _ | n := n
    · simp (maxSteps := 4000000) (disch := first | omega | (simp only [List.length_set, List.length_replicate, List.length_append, List.length_take, List.length_drop, List.length_cons, List.length_nil]; omega)) only [go_sem, reduceCtorEq, Nat.reduceEqDiff, Nat.reduceAdd, Nat.reduceMul, Nat.reduceSub, ↓Nat.reduceBEq, Nat.reduceLT, Nat.reduceLeDiff, Int.reduceLT, Int.reduceLE, Int.reduceNeg, Int.reduceToNat, g0, g1, g6, g7, g8, gh, hq]
      exact ⟨q, c, rfl, hm⟩
    · have ka := okd_getD oa n
      simp only [Bz] at ka
      have hm' := shoP_step hm (by omega) oa hb.1
      have hd := dig_div hb.1 hc ka
      simp (maxSteps := 4000000) (disch := first | omega | (simp only [List.length_set, List.length_replicate, List.length_append, List.length_take, List.length_drop, List.length_cons, List.length_nil]; omega)) only [go_sem, reduceCtorEq, Nat.reduceEqDiff, Nat.reduceAdd, Nat.reduceMul, Nat.reduceSub, ↓Nat.reduceBEq, Nat.reduceLT, Nat.reduceLeDiff, Int.reduceLT, Int.reduceLE, Int.reduceNeg, Int.reduceToNat, g0, g1, g6, g7, g8, gh, hq]
      exact ⟨n, ⟨by omega, rfl, by omega, _, _, rfl, rfl, hm'⟩, by omega⟩
  · refine ⟨Nat.le_refl _, ?_, ?_, ?_, ?_, ?_, _, 0, ?_, ?_, shoP_zero a b hb.1⟩ <;> simp [upd_apply, argEnv]
/-- A call's own slice of ints, handed over. -/
theorem top_ints (h : Heap) (d b off n : Nat) (cap : Option Nat) (o : List Int) {g : Bool} (hb : h b = some (.cells (ints o) g false)) (hl : off + n ≤ o.length) :
    resultTop h (d + 1) (.sl b off n cap 1) = some (.fresh (ints ((o.drop off).take n)) n 1) := by
  show nx (freshen h (d + 1) (.sl b off n cap 1)) _ = _
  have e : freshen h (d + 1) (.sl b off n cap 1) = some (.fresh (ints ((o.drop off).take n)) n 1, [b], []) := by
    simp only [freshen, hb, ints_length, Nat.mul_one, ints_drop, ints_take, snaps_ints, mp_some, ne_eq, Nat.one_ne_zero, not_false_eq_true, and_true, hl, if_true]
  rw [e]; rfl
/-- scaled: n digits are done. -/
def ScaP (a : List Int) (k : Int) (n : Nat) (c : Int) (q : List Int) : Prop :=
  q.length = a.length + 1 ∧ okd q ∧ (0 ≤ c ∧ c < 1000000000) ∧ val (q.take n) + Bz ^ n * c = k * val (a.take n)
theorem sca_dig {d k : Int} (hk : 0 ≤ k ∧ k ≤ 1000000000) (hd : 0 ≤ d ∧ d < 1000000000) : 0 ≤ d * k ∧ d * k ≤ 999999999 * 1000000000 :=
  ⟨Int.mul_nonneg hd.1 hk.1, Int.mul_le_mul (by omega) (by omega) hk.1 (by omega)⟩
theorem scaP_step {a q : List Int} {k c : Int} {n : Nat} (h : ScaP a k n c q) (hn : n < a.length) (oa : okd a) (hk : 0 ≤ k ∧ k ≤ 1000000000) :
    ScaP a k (n + 1) ((a.getD n 0 * k + c) / 1000000000) (q.set n ((a.getD n 0 * k + c) % 1000000000)) := by
  obtain ⟨h1, h2, h3, h4⟩ := h
  have ka := okd_getD oa n
  simp only [Bz] at ka
  have hd := sca_dig hk ka
  refine ⟨by simp [h1], okd_set h2 _ _ (by simp only [Bz]; omega), by omega, ?_⟩
  rw [val_take_set _ _ _ (by omega), val_take_succ a n hn]
  have e1 : Bz ^ (n + 1) = Bz ^ n * Bz := Int.pow_succ Bz n
  have e2 := Int.mul_ediv_add_emod (a.getD n 0 * k + c) 1000000000
  rw [e1]; simp only [Bz] at *
  generalize (a.getD n 0 * k + c) / 1000000000 = x at *
  generalize (a.getD n 0 * k + c) % 1000000000 = y at *
  grind
theorem scaP_zero (a : List Int) (k : Int) : ScaP a k 0 0 (List.replicate (a.length + 1) 0) := ⟨by simp, okd_rep _, by omega, by simp [val]⟩
theorem scaP_end {a q : List Int} {k c : Int} (h : ScaP a k a.length c q) : okd (q.set a.length c) ∧ val (q.set a.length c) = k * val a ∧ (q.set a.length c).length = a.length + 1 := by
  obtain ⟨h1, h2, h3, h4⟩ := h
  refine ⟨okd_set h2 _ _ h3, ?_, by simp [h1]⟩
  have e := val_take_set q a.length c (by omega)
  rw [List.take_of_length_le (by simp; omega)] at e
  rw [e, h4, List.take_of_length_le (Nat.le_refl _)]
set_option maxRecDepth 100000 in
theorem M_172 [SpC] (a : List Int) (k : Int) (ha : a.length < 2 ^ 30) (oa : okd a) (hk : 0 ≤ k ∧ k ≤ 1000000000) :
    ∃ q, M X 172 [isl a, .int .i64 k] = some (.fresh (ints q) (a.length + 1) 1) ∧ okd q ∧ val q = k * val a ∧ q.length = a.length + 1 := by
  suffices h : ∃ r, (∃ q, r = .fresh (ints q) (a.length + 1) 1 ∧ okd q ∧ val q = k * val a ∧ q.length = a.length + 1) ∧ M X 172 [isl a, .int .i64 k] = some r by
    obtain ⟨r, ⟨q, rfl, h1⟩, h2⟩ := h
    exact ⟨q, h2, h1⟩
  refine M_ex (fn := Tryz.f172) Tryz.func172 rfl ok_172 mode_172 res_172 _ rfl _ ?_
  simp (maxSteps := 4000000) (disch := first | omega | (simp only [List.length_set, List.length_replicate, List.length_append, List.length_take, List.length_drop, List.length_cons, List.length_nil]; omega)) only [go_sem, reduceCtorEq, Nat.reduceEqDiff, Nat.reduceAdd, Nat.reduceMul, Nat.reduceSub, ↓Nat.reduceBEq, Nat.reduceLT, Nat.reduceLeDiff, Int.reduceLT, Int.reduceLE, Int.reduceNeg, Int.reduceToNat]
  refine W_loop X (fun (n : Nat) s => n ≤ a.length ∧ s.env 0 = isl a ∧ s.env 1 = .int .i64 k ∧ s.env 5 = .sl 32 0 (a.length + 1) (some (a.length + 1)) 1 ∧ s.env 14 = isl a ∧ s.env 15 = .int .i64 a.length ∧ s.env 16 = .int .i64 n ∧ 32 < s.next ∧
    ∃ q c, s.heap 32 = some (.cells (ints q) false false) ∧ s.env 6 = .int .i64 c ∧ ScaP a k n c q) (fun n => a.length - n) ?_ 0 _ ?_
  · rintro n ⟨env, heap, nx⟩ ⟨hn, g0, g1, g5, g14, g15, g16, hnx, q, c, gh, g6, hm⟩
    simp only at g0 g1 g5 g14 g15 g16 gh g6 hnx
    have hq := hm.1
    have hc := hm.2.2.1
    by_cases h1 : n < a.length
    · have ka := okd_getD oa n
      simp only [Bz] at ka
      have hm' := scaP_step hm h1 oa hk
      have hd := sca_dig hk ka
      simp (maxSteps := 4000000) (disch := first | omega | (simp only [List.length_set, List.length_replicate, List.length_append, List.length_take, List.length_drop, List.length_cons, List.length_nil]; omega)) only [go_sem, reduceCtorEq, Nat.reduceEqDiff, Nat.reduceAdd, Nat.reduceMul, Nat.reduceSub, ↓Nat.reduceBEq, Nat.reduceLT, Nat.reduceLeDiff, Int.reduceLT, Int.reduceLE, Int.reduceNeg, Int.reduceToNat, g0, g1, g5, g6, g14, g15, g16, gh, hq]
      exact ⟨n + 1, ⟨by omega, rfl, by omega, _, _, rfl, rfl, hm'⟩, by omega⟩
    · have hn' : n = a.length := by omega
      subst hn'
      have hm' := scaP_end hm
      simp (maxSteps := 4000000) (disch := first | omega | (simp only [List.length_set, List.length_replicate, List.length_append, List.length_take, List.length_drop, List.length_cons, List.length_nil]; omega)) only [go_sem, reduceCtorEq, Nat.reduceEqDiff, Nat.reduceAdd, Nat.reduceMul, Nat.reduceSub, ↓Nat.reduceBEq, Nat.reduceLT, Nat.reduceLeDiff, Int.reduceLT, Int.reduceLE, Int.reduceNeg, Int.reduceToNat, g0, g1, g5, g6, g14, g15, g16, gh, hq]
      have hl := hm'.2.2
      rw [top_ints _ _ _ _ _ _ (q.set a.length c) (g := false) (by simp [upd_apply]) (by omega), ← hl, List.drop_zero, List.take_length, PN_some]
      exact ⟨q.set a.length c, by simp [AV.weak, weaks_ints], hm'.1, hm'.2.1, rfl⟩
  · refine ⟨Nat.zero_le _, ?_, ?_, ?_, ?_, ?_, ?_, ?_, _, 0, ?_, ?_, scaP_zero a k⟩ <;> simp [upd_apply, argEnv]
end Go.Proofs.YtjccikgdebgebaaGreatDoor.Abs
end
