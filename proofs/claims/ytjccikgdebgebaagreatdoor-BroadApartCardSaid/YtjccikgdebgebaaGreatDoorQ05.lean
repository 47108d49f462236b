/-
  Long division of digits: the estimate of a digit of the quotient, in plain numbers. No conditions. Long division of digits: one round on lists of digits. No conditions. Long division of digits: taking away, adding back, one whole round. No conditions. Package integer: long, the division by at least two digits. No conditions. Package integer: divide, Div, Gcd and Compare, by value. No conditions. Package integer: Div and Gcd, by value. No conditions.
-/
import Derived.Test.YtjccikgdebgebaaGreatDoorQ04
set_option linter.unusedSimpArgs false
set_option linter.unusedVariables false
section
set_option linter.unusedSimpArgs false
namespace Go.Proofs.YtjccikgdebgebaaGreatDoor.Abs
open Go
/-- The numbers of one round: the dividend's part, the divisor, their first digits. -/
structure KN (U V P T v1 v2 u2 : Int) : Prop where
  pp : 0 < P
  ul : (T * Bz + u2) * P ≤ U
  uh : U < (T * Bz + u2 + 1) * P
  vl : (v1 * Bz + v2) * P ≤ V
  vh : V < (v1 * Bz + v2 + 1) * P
  hv1 : 1 ≤ v1 ∧ v1 < Bz
  hv2 : 0 ≤ v2 ∧ v2 < Bz
  hu2 : 0 ≤ u2 ∧ u2 < Bz
  ht : 0 ≤ T ∧ T ≤ v1 * Bz + Bz - 1
variable {U V P T v1 v2 u2 : Int}
theorem KN.init (h : KN U V P T v1 v2 u2) : U < (T / v1 + 1) * V := by
  have h1 : T + 1 ≤ (T / v1 + 1) * v1 := by
    have := Int.lt_ediv_add_one_mul_self T (show 0 < v1 from by have := h.hv1; omega)
    omega
  have h0 : 0 ≤ T / v1 + 1 := by have := Int.ediv_nonneg h.ht.1 (show 0 ≤ v1 by have := h.hv1; omega); omega
  generalize T / v1 + 1 = g at *
  have pb : 0 ≤ Bz * P := Int.mul_nonneg (by decide) (by have := h.pp; omega)
  have a1 : (T + 1) * (Bz * P) ≤ g * v1 * (Bz * P) := Int.mul_le_mul_of_nonneg_right h1 pb
  have a2 : g * ((v1 * Bz + v2) * P) ≤ g * V := Int.mul_le_mul_of_nonneg_left h.vl h0
  have a3 : 0 ≤ g * (v2 * P) := Int.mul_nonneg h0 (Int.mul_nonneg h.hv2.1 (by have := h.pp; omega))
  have a4 : (u2 + 1) * P ≤ Bz * P := Int.mul_le_mul_of_nonneg_right (by have := h.hu2; omega) (by have := h.pp; omega)
  have a5 := h.uh
  grind
theorem KN.step (h : KN U V P T v1 v2 u2) (hU : U < Bz * V) {g rest : Int} (hg : g * v1 + rest = T) (hg0 : 0 ≤ g) (hc : Bz ≤ g ∨ rest * Bz + u2 < g * v2) (hU0 : 0 ≤ U) : U < g * V ∧ 1 ≤ g := by
  have hV : 0 < V := by
    have a1 : 0 ≤ (v1 * Bz + v2) * P := Int.mul_nonneg (by have := h.hv1; have := h.hv2; simp only [Bz] at *; omega) (by have := h.pp; omega)
    have a2 := h.vl
    rcases Int.lt_or_eq_of_le (Int.le_trans a1 a2) with h1 | h1
    · exact h1
    · exfalso; rw [← h1] at hU; omega
  have key : U < g * V := by
    rcases hc with hc | hc
    · exact Int.lt_of_lt_of_le hU (Int.mul_le_mul_of_nonneg_right hc (by omega))
    · have a1 : T * Bz + u2 + 1 ≤ g * (v1 * Bz + v2) := by grind
      have a2 : (T * Bz + u2 + 1) * P ≤ g * (v1 * Bz + v2) * P := Int.mul_le_mul_of_nonneg_right a1 (by have := h.pp; omega)
      have a3 : g * ((v1 * Bz + v2) * P) ≤ g * V := Int.mul_le_mul_of_nonneg_left h.vl hg0
      have a4 := h.uh
      grind
  refine ⟨key, ?_⟩
  rcases Int.lt_or_eq_of_le hg0 with h1 | h1
  · omega
  · exfalso; rw [← h1] at key; omega
theorem KN.fin (h : KN U V P T v1 v2 u2) {g rest : Int} (hg : g * v1 + rest = T) (hg0 : 0 ≤ g ∧ g < Bz) (hc : g * v2 ≤ rest * Bz + u2) : g * V < U + V := by
  have a1 : g * (v1 * Bz + v2) ≤ T * Bz + u2 := by grind
  have a2 : g * (v1 * Bz + v2) * P ≤ (T * Bz + u2) * P := Int.mul_le_mul_of_nonneg_right a1 (by have := h.pp; omega)
  have a3 : g * V ≤ g * ((v1 * Bz + v2 + 1) * P) := Int.mul_le_mul_of_nonneg_left (by have := h.vh; omega) hg0.1
  have a4 : (g + 1) * P ≤ Bz * P := Int.mul_le_mul_of_nonneg_right (by omega) (by have := h.pp; omega)
  have a5 : Bz * P ≤ (v1 * Bz + v2) * P := Int.mul_le_mul_of_nonneg_right (by have := h.hv1; have := h.hv2; simp only [Bz] at *; omega) (by have := h.pp; omega)
  have a6 := h.ul
  have a7 := h.vl
  have a8 := h.pp
  grind
theorem KN.brk (h : KN U V P T v1 v2 u2) {g rest : Int} (hg : g * v1 + rest = T) (hg0 : 0 ≤ g) (hr : Bz ≤ rest) : g < Bz ∧ g * v2 ≤ rest * Bz + u2 := by
  have h1 : g < Bz := by
    apply Classical.byContradiction; intro hn
    have a1 : Bz * v1 ≤ g * v1 := Int.mul_le_mul_of_nonneg_right (by omega) (by have := h.hv1; omega)
    have a2 := h.ht
    simp only [Bz] at *
    omega
  refine ⟨h1, ?_⟩
  have a1 : g * v2 ≤ 999999999 * 999999999 := Int.mul_le_mul (by simp only [Bz] at *; omega) (by have := h.hv2; simp only [Bz] at *; omega) h.hv2.1 (by omega)
  have a2 := h.hu2
  simp only [Bz] at *; omega
theorem KN.vpos (h : KN U V P T v1 v2 u2) : 0 < V := by
  have a5 : 1 * P ≤ (v1 * Bz + v2) * P := Int.mul_le_mul_of_nonneg_right (by have := h.hv1; have := h.hv2; simp only [Bz] at *; omega) (by have := h.pp; omega)
  have a7 := h.vl
  have a8 := h.pp
  omega
end Go.Proofs.YtjccikgdebgebaaGreatDoor.Abs
end
section
set_option linter.unusedSimpArgs false
namespace Go.Proofs.YtjccikgdebgebaaGreatDoor.Abs
open Go
theorem bz_mono {i j : Nat} (h : i ≤ j) : Bz ^ i ≤ Bz ^ j := by
  induction h with
  | refl => exact Int.le_refl _
  | step _ ih => rw [Int.pow_succ]; have := bz_pos i; simp only [Bz] at *; omega
theorem val_cut (l : List Int) (k : Nat) (h : k ≤ l.length) : val l = val (l.take k) + Bz ^ k * val (l.drop k) := by
  conv => lhs; rw [← List.take_append_drop k l]
  rw [val_app, List.length_take, Nat.min_eq_left h]
theorem okd_part {l : List Int} (h : okd l) (k n : Nat) : okd ((l.drop k).take n) := okd_take (okd_drop h k) n
theorem val_take_lt {l : List Int} (h : okd l) (k : Nat) : val (l.take k) < Bz ^ k := by
  have h1 := val_lt (okd_take h k)
  refine Int.lt_of_lt_of_le h1 ?_
  rw [List.length_take]
  exact bz_mono (Nat.min_le_left _ _)
theorem getD_drop (l : List Int) (k n : Nat) : (l.drop k).getD n 0 = l.getD (k + n) 0 := by
  simp [List.getD_eq_getElem?_getD]
theorem drop_congr {l m : List Int} {k : Nat} (n : Nat) (h : l.drop k = m.drop k) (hn : k ≤ n) : l.drop n = m.drop n := by
  have := congrArg (fun x => x.drop (n - k)) h
  simpa [List.drop_drop, Nat.add_sub_cancel' hn] using this
theorem getD_congr {l m : List Int} {k : Nat} (n : Nat) (h : l.drop k = m.drop k) (hn : k ≤ n) : l.getD n 0 = m.getD n 0 := by
  have := congrArg (fun x => x.getD (n - k) 0) h
  simpa only [getD_drop, Nat.add_sub_cancel' hn] using this
theorem take_congr {l m : List Int} {k : Nat} (n : Nat) (h : l.take k = m.take k) (hn : n ≤ k) : l.take n = m.take n := by
  have := congrArg (fun x => x.take n) h
  simpa [List.take_take, Nat.min_eq_left hn] using this
/-- The divisor. -/
structure KV (v : List Int) (n : Nat) (V : Int) : Prop where
  len : v.length = n
  ok : okd v
  two : 2 ≤ n
  value : val v = V
  top : 1 ≤ v.getD (n - 1) 0
theorem KV.pos {v : List Int} {n : Nat} {V : Int} (h : KV v n V) : 0 < V := by
  have h1 := val_cut v (n - 1) (by have := h.len; omega)
  have h2 := val_drop v (n - 1) (by have := h.len; have := h.two; omega)
  have h3 := val_nonneg (okd_take h.ok (n - 1))
  have h4 := val_nonneg (okd_drop h.ok (n - 1 + 1))
  have h5 := bz_pos (n - 1)
  have h6 : 0 < Bz ^ (n - 1) * val (v.drop (n - 1)) := Int.mul_pos h5 (by have := h.top; simp only [Bz] at *; omega)
  rw [← h.value]; omega
theorem KV.lt {v : List Int} {n : Nat} {V : Int} (h : KV v n V) : V < Bz ^ n := by
  have := val_lt h.ok
  rwa [h.value, h.len] at this
/-- The digits above the part that is divided are 0. -/
theorem hi_zero {u : List Int} {k n : Nat} {V : Int} (ou : okd u) (h : val (u.drop k) < V) (hV : V < Bz ^ n) : val (u.drop (k + n)) = 0 := by
  by_cases hk : k + n ≤ u.length
  · have h1 := val_cut (u.drop k) n (by simp; omega)
    rw [List.drop_drop] at h1
    have h2 := val_nonneg (okd_part ou k n)
    have h3 := val_nonneg (okd_drop ou (k + n))
    rcases Int.lt_or_eq_of_le h3 with h4 | h4
    · exfalso
      have h5 : Bz ^ n * 1 ≤ Bz ^ n * val (u.drop (k + n)) := Int.mul_le_mul_of_nonneg_left (by omega) (by have := bz_pos n; omega)
      omega
    · exact h4.symm
  · rw [List.drop_of_length_le (by omega)]; rfl
/-- One round's numbers. -/
theorem round_KN {u v : List Int} {j n : Nat} {V : Int} (hv : KV v n V) (ou : okd u) (hl : j + n < u.length) (h : val (u.drop (j + 1)) < V) :
    KN (val (u.drop j)) V (Bz ^ (n - 2)) (u.getD (j + n) 0 * Bz + u.getD (j + n - 1) 0) (v.getD (n - 1) 0) (v.getD (n - 2) 0) (u.getD (j + n - 2) 0) ∧ val (u.drop j) < Bz * V ∧ 0 ≤ val (u.drop j) := by
  obtain ⟨k, rfl⟩ : ∃ k, n = k + 2 := ⟨n - 2, by have := hv.two; omega⟩
  have e1 : k + 2 - 2 = k := by omega
  have e2 : j + (k + 2) - 2 = j + k := by omega
  have e3 : j + (k + 2) - 1 = j + k + 1 := by omega
  have e4 : k + 2 - 1 = k + 1 := by omega
  have e5 : j + (k + 2) = j + k + 2 := by omega
  have hz := hi_zero ou h hv.lt
  have e6 : j + 1 + (k + 2) = j + k + 2 + 1 := by omega
  rw [e6] at hz
  rw [e1, e2, e3, e4, e5]
  have b0 := okd_getD ou (j + k)
  have b1 := okd_getD ou (j + k + 1)
  have b2 := okd_getD ou (j + k + 2)
  have c0 := okd_getD hv.ok k
  have c1 := okd_getD hv.ok (k + 1)
  have hvl := hv.len
  have u0 := val_cut (u.drop j) k (by simp; omega)
  rw [List.drop_drop] at u0
  have u1 := val_drop u (j + k) (by omega)
  have u2 := val_drop u (j + k + 1) (by omega)
  have u3 := val_drop u (j + k + 1 + 1) (by omega)
  rw [show j + k + 1 + 1 = j + k + 2 from rfl] at u2 u3
  rw [hz] at u3
  have ulo := val_nonneg (okd_part ou j k)
  have uhi : val ((u.drop j).take k) < Bz ^ k := val_take_lt (okd_drop ou j) k
  have w0 := val_cut v k (by omega)
  have w1 := val_drop v k (by omega)
  have w2 := val_drop v (k + 1) (by omega)
  rw [show v.drop (k + 1 + 1) = [] from List.drop_of_length_le (by omega), val_nil] at w2
  have wlo := val_nonneg (okd_take hv.ok k)
  have whi : val (v.take k) < Bz ^ k := val_take_lt hv.ok k
  rw [hv.value] at w0
  have hP := bz_pos k
  have hU : val (u.drop j) = u.getD j 0 + Bz * val (u.drop (j + 1)) := val_drop u j (by omega)
  have bj := okd_getD ou j
  have htop := hv.top
  rw [e4] at htop
  -- the first digit
  have ht : u.getD (j + k + 2) 0 ≤ v.getD (k + 1) 0 := by
    have t0 := val_cut (u.drop (j + 1)) (k + 1) (by simp; omega)
    rw [List.drop_drop, show j + 1 + (k + 1) = j + k + 2 from by omega, u3] at t0
    have t1 := val_nonneg (okd_part ou (j + 1) (k + 1))
    have t2 : Bz ^ (k + 1) = Bz ^ k * Bz := Int.pow_succ Bz k
    have t3 := val_cut v (k + 1) (by omega)
    rw [hv.value, w2] at t3
    have t4 : val (v.take (k + 1)) < Bz ^ (k + 1) := val_take_lt hv.ok (k + 1)
    have t5 := bz_pos (k + 1)
    apply Classical.byContradiction; intro hn
    have t6 : Bz ^ (k + 1) * (v.getD (k + 1) 0 + 1) ≤ Bz ^ (k + 1) * u.getD (j + k + 2) 0 := Int.mul_le_mul_of_nonneg_left (by omega) (by omega)
    rw [Int.mul_add] at t6
    simp only [Int.mul_zero, Int.add_zero] at t0 t3
    omega
  refine ⟨⟨hP, ?_, ?_, ?_, ?_, ⟨htop, c1.2⟩, c0, b0, ?_, ?_⟩, ?_, val_nonneg (okd_drop ou j)⟩
  · rw [u0, u1, u2, u3]; grind
  · rw [u0, u1, u2, u3]; grind
  · rw [w0, w1, w2]; grind
  · rw [w0, w1, w2]; grind
  · simp only [Bz] at *; omega
  · simp only [Bz] at *; omega
  · rw [hU]; simp only [Bz] at *; omega
end Go.Proofs.YtjccikgdebgebaaGreatDoor.Abs
end
section
set_option linter.unusedSimpArgs false
namespace Go.Proofs.YtjccikgdebgebaaGreatDoor.Abs
open Go
theorem set_take_lt (l : List Int) (j p : Nat) (d : Int) (h : j ≤ p) : (l.set p d).take j = l.take j := List.take_set_of_le h
/-- Taking away guess times the divisor: i digits are done. -/
def SubP (u v : List Int) (g : Int) (j i : Nat) (c : Int) (o : List Int) : Prop :=
  o.length = u.length ∧ okd o ∧ (0 ≤ c ∧ c < 1000000000) ∧ o.take j = u.take j ∧ o.drop (i + j) = u.drop (i + j) ∧ val o = val u - Bz ^ j * (g * val (v.take i)) + Bz ^ (i + j) * c
theorem subP_lt {u v o : List Int} {g c : Int} {i j : Nat} (h : SubP u v g j i c o) (hi : i + j < u.length) (hiv : i < v.length) (ov : okd v) (hg : 0 ≤ g ∧ g < 1000000000) (w c' : Int)
    (hw : w = o.getD (i + j) 0 - g * v.getD i 0 - c) (hn : w < 0) (hc' : c' = (0 - w + 1000000000 - 1) / 1000000000) : SubP u v g j (i + 1) c' (o.set (i + j) (w + c' * 1000000000)) := by
  obtain ⟨h1, h2, h3, h4, h5, h6⟩ := h
  have ko := okd_getD h2 (i + j)
  have kv := okd_getD ov i
  have hm := mul_dig hg kv
  simp only [Bz] at ko kv
  refine ⟨by simp [h1], okd_set h2 _ _ (by simp only [Bz]; omega), by omega, by rw [set_take_lt _ _ _ _ (by omega), h4], ?_, ?_⟩
  · rw [drop_set_gt _ _ _ _ (by omega)]; exact drop_congr _ h5 (by omega)
  · rw [val_set _ _ _ (by omega), h6, val_take_succ v i hiv, hw]
    have e1 : Bz ^ (i + 1 + j) = Bz ^ (i + j) * Bz := by rw [show i + 1 + j = i + j + 1 from by omega]; exact Int.pow_succ _ _
    have e2 : Bz ^ (i + j) = Bz ^ i * Bz ^ j := Int.pow_add Bz i j
    rw [e1, e2]; simp only [Bz]
    grind
theorem subP_ge {u v o : List Int} {g c : Int} {i j : Nat} (h : SubP u v g j i c o) (hi : i + j < u.length) (hiv : i < v.length) (ov : okd v) (hg : 0 ≤ g ∧ g < 1000000000) (w : Int)
    (hw : w = o.getD (i + j) 0 - g * v.getD i 0 - c) (hn : 0 ≤ w) : SubP u v g j (i + 1) 0 (o.set (i + j) w) := by
  obtain ⟨h1, h2, h3, h4, h5, h6⟩ := h
  have ko := okd_getD h2 (i + j)
  have kv := okd_getD ov i
  have hm := mul_dig hg kv
  simp only [Bz] at ko kv
  refine ⟨by simp [h1], okd_set h2 _ _ (by simp only [Bz]; omega), by omega, by rw [set_take_lt _ _ _ _ (by omega), h4], ?_, ?_⟩
  · rw [drop_set_gt _ _ _ _ (by omega)]; exact drop_congr _ h5 (by omega)
  · rw [val_set _ _ _ (by omega), h6, val_take_succ v i hiv, hw]
    have e2 : Bz ^ (i + j) = Bz ^ i * Bz ^ j := Int.pow_add Bz i j
    rw [e2]
    grind
theorem subP_zero (u v : List Int) (g : Int) (j : Nat) (ou : okd u) : SubP u v g j 0 0 u := ⟨rfl, ou, by omega, rfl, rfl, by simp [val]⟩
/-- All is taken away; the digit above may be less than 0. -/
def MidP (u : List Int) (V g : Int) (j n : Nat) (o : List Int) : Prop :=
  o.length = u.length ∧ okd (o.take (j + n)) ∧ o.take j = u.take j ∧ o.drop (j + n + 1) = u.drop (j + n + 1) ∧ val o = val u - Bz ^ j * (g * V)
theorem subP_end {u v o : List Int} {g c V : Int} {j n : Nat} (h : SubP u v g j n c o) (hv : KV v n V) (hl : j + n < u.length) : MidP u V g j n (o.set (j + n) (o.getD (j + n) 0 - c)) ∧ o.getD (j + n) 0 - c < 1000000000 ∧ (0 ≤ o.getD (j + n) 0 - c → okd (o.set (j + n) (o.getD (j + n) 0 - c))) := by
  obtain ⟨h1, h2, h3, h4, h5, h6⟩ := h
  have ko := okd_getD h2 (j + n)
  simp only [Bz] at ko
  refine ⟨⟨by simp [h1], ?_, by rw [set_take_lt _ _ _ _ (by omega), h4], ?_, ?_⟩, by omega, fun hh => okd_set h2 _ _ (by simp only [Bz]; omega)⟩
  · rw [set_take_lt _ _ _ _ (by omega)]; exact okd_take h2 _
  · rw [drop_set_gt _ _ _ _ (by omega)]; exact drop_congr _ h5 (by omega)
  · rw [val_set _ _ _ (by omega), h6, List.take_of_length_le (by have := hv.len; omega), hv.value, Nat.add_comm n j]
    grind
/-- Adding back: i digits are done. -/
def AddP (o1 v : List Int) (j n i : Nat) (c : Int) (o : List Int) : Prop :=
  o.length = o1.length ∧ okd (o.take (j + n)) ∧ (0 ≤ c ∧ c ≤ 1) ∧ o.take j = o1.take j ∧ o.drop (i + j) = o1.drop (i + j) ∧ val o + Bz ^ (i + j) * c = val o1 + Bz ^ j * val (v.take i)
theorem getD_take {l : List Int} {n k : Nat} (h : n < k) : (l.take k).getD n 0 = l.getD n 0 := by
  simp [List.getD_eq_getElem?_getD, List.getElem?_take, h]
theorem addP_step {o1 v o : List Int} {c : Int} {i j n : Nat} (h : AddP o1 v j n i c o) (hl : j + n < o1.length) (hi : i < n) (hv : v.length = n) (ov : okd v) (w : Int) (hw : w = o.getD (i + j) 0 + v.getD i 0 + c) :
    AddP o1 v j n (i + 1) (w / 1000000000) (o.set (i + j) (w % 1000000000)) := by
  obtain ⟨h1, h2, h3, h4, h5, h6⟩ := h
  have ko := okd_getD h2 (i + j)
  rw [getD_take (by omega)] at ko
  have kv := okd_getD ov i
  simp only [Bz] at ko kv
  refine ⟨by simp [h1], ?_, by omega, by rw [set_take_lt _ _ _ _ (by omega), h4], ?_, ?_⟩
  · rw [List.take_set]; exact okd_set h2 _ _ (by simp only [Bz]; omega)
  · rw [drop_set_gt _ _ _ _ (by omega)]; exact drop_congr _ h5 (by omega)
  · rw [val_set _ _ _ (by omega), val_take_succ v i (by omega)]
    have e1 : Bz ^ (i + 1 + j) = Bz ^ (i + j) * Bz := by rw [show i + 1 + j = i + j + 1 from by omega]; exact Int.pow_succ _ _
    have e2 : Bz ^ (i + j) = Bz ^ i * Bz ^ j := Int.pow_add Bz i j
    have e3 := Int.mul_ediv_add_emod w 1000000000
    rw [e1]
    rw [e2] at h6 ⊢
    simp only [Bz] at *
    generalize w / 1000000000 = x at *
    generalize w % 1000000000 = y at *
    grind
theorem addP_zero {u o1 v : List Int} {V g : Int} {j n : Nat} (h : MidP u V g j n o1) : AddP o1 v j n 0 0 o1 := ⟨rfl, h.2.1, by omega, rfl, rfl, by simp [val]⟩
/-- What holds of a round's outcome. -/
def RoundP (u : List Int) (V g : Int) (j : Nat) (o : List Int) : Prop :=
  o.length = u.length ∧ okd o ∧ o.take j = u.take j ∧ val (o.drop j) = val (u.drop j) - g * V ∧ val (o.drop j) < V
theorem val_drop_of {u o : List Int} {j : Nat} {x : Int} (h1 : o.length = u.length) (h2 : o.take j = u.take j) (h3 : val o = val u + Bz ^ j * x) (hj : j ≤ u.length) : val (o.drop j) = val (u.drop j) + x := by
  have e1 := val_cut o j (by omega)
  have e2 := val_cut u j hj
  rw [h2, h3, e2] at e1
  have hp := bz_pos j
  have e3 : Bz ^ j * (val (o.drop j)) = Bz ^ j * (val (u.drop j) + x) := by rw [Int.mul_add]; omega
  exact Int.eq_of_mul_eq_mul_left (by omega) e3
theorem round_ge {u o1 : List Int} {V g : Int} {j n : Nat} (h : MidP u V g j n o1) (hl : j + n < u.length) (ok : okd o1) (hu : val (u.drop j) < (g + 1) * V) : RoundP u V g j o1 := by
  obtain ⟨h1, h2, h3, h4, h5⟩ := h
  have e := val_drop_of (x := -(g * V)) h1 h3 (by rw [h5, Int.mul_neg]; omega) (by omega)
  refine ⟨h1, ok, h3, by omega, ?_⟩
  rw [e]; rw [Int.add_mul] at hu; omega
theorem round_lt {u v o1 o : List Int} {V g c : Int} {j n : Nat} (h : MidP u V g j n o1) (ha : AddP o1 v j n n c o) (hv : KV v n V) (ou : okd u) (hl : j + n < u.length) (hn : o1.getD (j + n) 0 < 0) (hu : val (u.drop (j + 1)) < V) (hg : g * V < val (u.drop j) + V) (hg0 : 0 ≤ g) :
    1 ≤ g ∧ o.getD (j + n) 0 + c = 0 ∧ RoundP u V (g - 1) j (o.set (j + n) (o.getD (j + n) 0 + c)) := by
  obtain ⟨h1, h2, h3, h4, h5⟩ := h
  obtain ⟨a1, a2, a3, a4, a5, a6⟩ := ha
  have hz := hi_zero ou hu hv.lt
  rw [show j + 1 + n = j + n + 1 from by omega] at hz
  have hp := bz_pos n
  -- what stands in o1
  have s1 := val_drop_of (x := -(g * V)) h1 h3 (by rw [h5, Int.mul_neg]; omega) (by omega)
  have s2 := val_cut (o1.drop j) n (by simp; omega)
  rw [List.drop_drop] at s2
  have s3 := val_drop o1 (j + n) (by omega)
  rw [h4, hz] at s3
  have s4 : val ((o1.drop j).take n) < Bz ^ n := by
    have e : (o1.drop j).take n = (o1.take (j + n)).drop j := by rw [List.drop_take, Nat.add_sub_cancel_left]
    have := val_lt (okd_drop h2 j)
    rw [e]
    refine Int.lt_of_lt_of_le this (bz_mono ?_)
    simp; omega
  have s5 : Bz ^ n * o1.getD (j + n) 0 ≤ Bz ^ n * (-1) := Int.mul_le_mul_of_nonneg_left (by omega) (by omega)
  have s6 : val (o1.drop j) < 0 := by rw [s2, s3]; simp only [Int.mul_zero, Int.add_zero]; omega
  -- what stands in the sum
  have r1 : val (o.set (j + n) (o.getD (j + n) 0 + c)) = val u + Bz ^ j * (-((g - 1) * V)) := by
    rw [val_set _ _ _ (by omega)]
    rw [List.take_of_length_le (by have := hv.len; omega), hv.value, Nat.add_comm n j] at a6
    rw [h5] at a6
    grind
  have r2 := val_drop_of (o := o.set (j + n) (o.getD (j + n) 0 + c)) (by simp; omega) (by rw [set_take_lt _ _ _ _ (by omega), a4, h3]) r1 (by omega)
  have r3 := val_cut ((o.set (j + n) (o.getD (j + n) 0 + c)).drop j) n (by simp; omega)
  rw [List.drop_drop] at r3
  have r4 := val_drop (o.set (j + n) (o.getD (j + n) 0 + c)) (j + n) (by simp; omega)
  rw [getD_set_self _ _ _ (by omega), drop_set_gt o (j + n) (j + n + 1) _ (by omega), drop_congr (j + n + 1) a5 (by omega), h4, hz] at r4
  have e : ((o.set (j + n) (o.getD (j + n) 0 + c)).drop j).take n = (o.take (j + n)).drop j := by
    rw [← set_take_lt o (j + n) (j + n) (o.getD (j + n) 0 + c) (Nat.le_refl _), List.drop_take, Nat.add_sub_cancel_left]
  have r5 : val (((o.set (j + n) (o.getD (j + n) 0 + c)).drop j).take n) < Bz ^ n := by
    have := val_lt (okd_drop a2 j)
    rw [e]
    refine Int.lt_of_lt_of_le this (bz_mono ?_)
    simp; omega
  have r6 : 0 ≤ val (((o.set (j + n) (o.getD (j + n) 0 + c)).drop j).take n) := by rw [e]; exact val_nonneg (okd_drop a2 j)
  have r7 : (g - 1) * V = g * V - V := by rw [Int.sub_mul]; omega
  have hVl := hv.lt
  have hd : o.getD (j + n) 0 + c = 0 := by
    generalize o.getD (j + n) 0 + c = t at *
    apply Classical.byContradiction; intro ht
    rcases Int.lt_or_gt_of_ne ht with h7 | h7
    · have : Bz ^ n * t ≤ Bz ^ n * (-1) := Int.mul_le_mul_of_nonneg_left (by omega) (by omega)
      rw [r4] at r3; simp only [Int.mul_zero, Int.add_zero] at r3
      omega
    · have : Bz ^ n * 1 ≤ Bz ^ n * t := Int.mul_le_mul_of_nonneg_left (by omega) (by omega)
      rw [r4] at r3; simp only [Int.mul_zero, Int.add_zero] at r3
      omega
  have hg1 : 1 ≤ g := by
    rcases Int.lt_or_eq_of_le hg0 with h7 | h7
    · omega
    · exfalso; rw [← h7] at s1; have := val_nonneg (okd_drop ou j); omega
  refine ⟨hg1, hd, by simp; omega, ?_, by rw [set_take_lt _ _ _ _ (by omega), a4, h3], by omega, by omega⟩
  have e9 : o.set (j + n) (o.getD (j + n) 0 + c) = o.take (j + n) ++ (0 :: o.drop (j + n + 1)) := by
    rw [hd, List.set_eq_take_append_cons_drop, if_pos (by omega)]
  rw [e9, okd_app, okd_cons]
  refine ⟨a2, by simp only [Bz]; omega, ?_⟩
  rw [drop_congr (j + n + 1) a5 (by omega), h4]
  exact okd_drop ou _
/-- The whole division: the digits from j on are found. -/
structure LonP (S : Int) (v : List Int) (n : Nat) (V : Int) (la j : Nat) (u q : List Int) : Prop where
  lu : u.length = la + 1
  ou : okd u
  lq : q.length = la - n + 1
  oq : okd q
  lt : val (u.drop j) < V
  value : val u + Bz ^ j * (V * val (q.drop j)) = S
theorem lonP_step {S : Int} {v : List Int} {n la j : Nat} {V : Int} {u q o : List Int} {g : Int} (h : LonP S v n V la (j + 1) u q) (hj : j + n ≤ la) (hr : RoundP u V g j o) (hg : 0 ≤ g ∧ g < 1000000000) : LonP S v n V la j o (q.set j g) := by
  obtain ⟨r1, r2, r3, r4, r5⟩ := hr
  refine ⟨by rw [r1, h.lu], r2, by simp [h.lq], okd_set h.oq _ _ hg, r5, ?_⟩
  have e1 := val_cut o j (by have := h.lu; omega)
  have e2 := val_cut u j (by have := h.lu; omega)
  have e3 := h.value
  rw [val_drop_set _ _ _ (by have := h.lq; omega), e1, r3, r4]
  rw [e2, Int.pow_succ] at e3
  grind
theorem lonP_zero {S V : Int} {u : List Int} (v : List Int) {n la : Nat} (hn : n ≤ la) (lu : u.length = la + 1) (ou : okd u) (hS : val u = S) (hb : S < Bz ^ (la - n + 1) * V) : LonP S v n V la (la - n + 1) u (List.replicate (la - n + 1) 0) := by
  refine ⟨lu, ou, by simp, okd_rep _, ?_, ?_⟩
  · have e := val_cut u (la - n + 1) (by omega)
    have e1 := val_nonneg (okd_take ou (la - n + 1))
    rw [hS] at e
    have hp := bz_pos (la - n + 1)
    apply Classical.byContradiction; intro hc
    have := Int.mul_le_mul_of_nonneg_left (Int.not_lt.1 hc) (show 0 ≤ Bz ^ (la - n + 1) by omega)
    omega
  · rw [hS, List.drop_of_length_le (by simp)]; simp [val]
theorem lonP_end {s A B : Int} {v u q : List Int} {n la : Nat} (hs : 0 < s) (hB : 0 < B) (hv : KV v n (s * B)) (h : LonP (s * A) v n (s * B) la 0 u q) : val q = A / B ∧ val (u.take n) / s = A % B ∧ val (u.take n) = val u := by
  have h1 := h.value
  have h2 := h.lt
  rw [List.drop_zero] at h2
  rw [List.drop_zero] at h1
  have hlt : val u < Bz ^ n := Int.lt_trans h2 hv.lt
  have hz := hi_zero (k := 0) h.ou (V := s * B) (by simpa using h2) hv.lt
  have hcut : val (u.take n) = val u := by
    by_cases hk : n ≤ u.length
    · have := val_cut u n hk
      rw [Nat.zero_add] at hz
      rw [hz] at this; simpa using this.symm
    · rw [List.take_of_length_le (by omega)]
  have h0 := val_nonneg h.ou
  -- val u = s * r
  have e : val u = s * (A - B * val q) := by
    have : Bz ^ 0 = 1 := rfl
    rw [this] at h1; grind
  generalize val q = y at *
  have r0 : 0 ≤ A - B * y := by
    apply Classical.byContradiction; intro hc
    have := Int.mul_le_mul_of_nonneg_left (show A - B * y ≤ -1 by omega) (show 0 ≤ s by omega)
    omega
  have r1 : A - B * y < B := by
    apply Classical.byContradiction; intro hc
    have := Int.mul_le_mul_of_nonneg_left (show B ≤ A - B * y by omega) (show 0 ≤ s by omega)
    omega
  have hA : A = B * y + (A - B * y) := by omega
  refine ⟨?_, ?_, hcut⟩
  · rw [hA, Int.mul_add_ediv_left _ _ (by omega), Int.ediv_eq_zero_of_lt r0 r1]; simp
  · rw [hcut, e, Int.mul_ediv_cancel_left _ (by omega)]
    conv => rhs; rw [hA, Int.mul_add_emod_self_left, Int.emod_eq_of_lt r0 r1]
end Go.Proofs.YtjccikgdebgebaaGreatDoor.Abs
end
section
set_option linter.unusedSimpArgs false
namespace Go.Proofs.YtjccikgdebgebaaGreatDoor.Abs
open Go
/-- The scale. -/
theorem scale_ok {t : Int} (h : 1 ≤ t ∧ t < 1000000000) : 1 ≤ 1000000000 / (t + 1) ∧ 1000000000 / (t + 1) ≤ 1000000000 ∧ 1000000000 / (t + 1) * (t + 1) ≤ 1000000000 := by
  have h1 : 1 ≤ 1000000000 / (t + 1) := by rw [Int.le_ediv_iff_mul_le (by omega)]; omega
  have h2 := Int.mul_ediv_add_emod 1000000000 (t + 1)
  have h3 := Int.emod_nonneg 1000000000 (show t + 1 ≠ 0 by omega)
  rw [Int.mul_comm] at h2
  refine ⟨h1, ?_, by omega⟩
  have := Int.mul_le_mul_of_nonneg_left (show 1 ≤ t + 1 by omega) (show 0 ≤ 1000000000 / (t + 1) by omega)
  omega
theorem top_le {b : List Int} {n : Nat} (ob : okd b) (hl : b.length = n + 1) : val b < Bz ^ n * (b.getD n 0 + 1) ∧ Bz ^ n * b.getD n 0 ≤ val b := by
  have h1 := val_cut b n (by omega)
  have h2 := val_drop b n (by omega)
  rw [List.drop_of_length_le (i := n + 1) (by omega), val_nil] at h2
  have h3 : val (b.take n) < Bz ^ n := val_take_lt ob n
  have h4 := val_nonneg (okd_take ob n)
  rw [h2] at h1
  simp only [Int.mul_zero, Int.add_zero] at h1
  rw [Int.mul_add]; omega
theorem long_KV {b vl : List Int} {s : Int} (ob : okd b) (h2 : 2 ≤ b.length) (ht : 1 ≤ b.getD (b.length - 1) 0) (hs : s = 1000000000 / (b.getD (b.length - 1) 0 + 1)) (ov : okd vl) (hv : val vl = s * val b) (hl : vl.length = b.length + 1) : KV (vl.take b.length) b.length (s * val b) := by
  obtain ⟨n, hn⟩ : ∃ n, b.length = n + 1 := ⟨b.length - 1, by omega⟩
  have hb := okd_getD ob (b.length - 1)
  simp only [Bz] at hb
  have hsc := scale_ok ⟨ht, hb.2⟩
  rw [← hs] at hsc
  rw [hn, Nat.add_sub_cancel] at hsc ht hb
  have htl := top_le ob hn
  have hp := bz_pos n
  have hlt : val vl < Bz ^ (n + 1) := by
    rw [hv, Int.pow_succ]
    have a1 : s * val b < s * (Bz ^ n * (b.getD n 0 + 1)) := Int.mul_lt_mul_of_pos_left htl.1 (by omega)
    have a2 : Bz ^ n * (s * (b.getD n 0 + 1)) ≤ Bz ^ n * Bz := Int.mul_le_mul_of_nonneg_left hsc.2.2 (by omega)
    rw [Int.mul_left_comm] at a1
    omega
  have hz : val (vl.drop (n + 1)) = 0 := by
    have := hi_zero (k := 0) (n := n + 1) (V := Bz ^ (n + 1)) ov
    by_cases hh : val vl < Bz ^ (n + 1)
    · have e := val_cut vl (n + 1) (by omega)
      have e1 := val_nonneg (okd_take ov (n + 1))
      have e2 := val_nonneg (okd_drop ov (n + 1))
      rcases Int.lt_or_eq_of_le e2 with h4 | h4
      · exfalso
        have := Int.mul_le_mul_of_nonneg_left (show 1 ≤ val (vl.drop (n + 1)) by omega) (show 0 ≤ Bz ^ (n + 1) by have := bz_pos (n + 1); omega)
        omega
      · exact h4.symm
    · exact absurd hlt hh
  have hvt : val (vl.take (n + 1)) = s * val b := by
    have e := val_cut vl (n + 1) (by omega)
    rw [hz, hv] at e; simpa using e.symm
  rw [hn]
  refine ⟨by simp; omega, okd_take ov _, by omega, hvt, ?_⟩
  rw [Nat.add_sub_cancel]
  have e := top_le (okd_take ov (n + 1)) (n := n) (by simp; omega)
  rw [hvt] at e
  have a1 : Bz ^ n * 1 ≤ Bz ^ n * b.getD n 0 := Int.mul_le_mul_of_nonneg_left ht (by omega)
  have a2 : 1 * val b ≤ s * val b := Int.mul_le_mul_of_nonneg_right hsc.1 (val_nonneg ob)
  apply Classical.byContradiction; intro hc
  have a3 : Bz ^ n * ((vl.take (n + 1)).getD n 0 + 1) ≤ Bz ^ n * 1 := Int.mul_le_mul_of_nonneg_left (by omega) (by omega)
  omega
theorem long_S {a b : List Int} {s : Int} (oa : okd a) (hb0 : 1 ≤ b.length) (ht : 1 ≤ b.getD (b.length - 1) 0) (ob : okd b) (hl : b.length ≤ a.length) (hs : 0 < s) : s * val a < Bz ^ (a.length - b.length + 1) * (s * val b) := by
  obtain ⟨n, hn⟩ : ∃ n, b.length = n + 1 := ⟨b.length - 1, by omega⟩
  have htl := top_le ob hn
  rw [hn, Nat.add_sub_cancel] at ht
  have hp := bz_pos n
  have a1 : Bz ^ n * 1 ≤ Bz ^ n * b.getD n 0 := Int.mul_le_mul_of_nonneg_left ht (by omega)
  have a2 := val_lt oa
  have e : Bz ^ a.length = Bz ^ (a.length - b.length + 1) * Bz ^ n := by rw [← Int.pow_add]; congr 1; omega
  have hq := bz_pos (a.length - b.length + 1)
  have a3 : Bz ^ (a.length - b.length + 1) * Bz ^ n ≤ Bz ^ (a.length - b.length + 1) * val b := Int.mul_le_mul_of_nonneg_left (by omega) (by omega)
  rw [Int.mul_left_comm]
  exact Int.mul_lt_mul_of_pos_left (by omega) hs
theorem blk_cut [SpC] {i : Nat} {c : HC} {st : St} {Φ : Ex → St → Prop} (R : St → Prop) (h : ∀ s, R s → Φ .normal s) (hb : @W X c st (blkQ i (norQ R))) : @W X c st (blkQ i Φ) := by
  refine @W_mono X c st _ _ hb fun e s hh => ?_
  cases e with
  | normal => exact h s hh
  | ret => exact hh.elim
  | exit k =>
    rw [blkQ_exit] at hh ⊢
    by_cases hk : k = i
    · rw [if_pos hk] at hh ⊢; exact h s hh
    · rw [if_neg hk] at hh; exact hh.elim
/-- What stays while long works. -/
def LFr (s : Int) (la n : Nat) (vl : List Int) (j : Int) (q : List Int) (st : St) : Prop :=
  st.env 6 = .int .i64 s ∧ st.env 7 = .sl 104 0 (la + 1) none 1 ∧ st.env 8 = .sl 128 0 n none 1 ∧ st.env 9 = .int .i64 n ∧ st.env 10 = .sl 240 0 (la - n + 1) (some (la - n + 1)) 1 ∧ st.env 11 = .int .i64 j ∧
    st.heap 128 = some (.cells (ints vl) true false) ∧ st.heap 240 = some (.cells (ints q) false false) ∧ 240 < st.next
theorem LFr_eq (s : Int) (la n : Nat) (vl : List Int) (j : Int) (q : List Int) (st : St) : LFr s la n vl j q st = (
  st.env 6 = .int .i64 s ∧ st.env 7 = .sl 104 0 (la + 1) none 1 ∧ st.env 8 = .sl 128 0 n none 1 ∧ st.env 9 = .int .i64 n ∧ st.env 10 = .sl 240 0 (la - n + 1) (some (la - n + 1)) 1 ∧ st.env 11 = .int .i64 j ∧
    st.heap 128 = some (.cells (ints vl) true false) ∧ st.heap 240 = some (.cells (ints q) false false) ∧ 240 < st.next) := nr rfl
set_option maxRecDepth 100000 in
set_option maxHeartbeats 4000000 in
theorem M_169 [SpC] (a b : List Int) (ha : a.length < 2 ^ 28) (oa : okd a) (ob : okd b) (h2 : 2 ≤ b.length) (hl : b.length ≤ a.length) (ht : 1 ≤ b.getD (b.length - 1) 0) :
    ∃ q r, M X 169 [isl a, isl b] = some (.tuple [isl q, isl r]) ∧ okd q ∧ okd r ∧ val q = val a / val b ∧ val r = val a % val b ∧ q.length ≤ a.length ∧ r.length ≤ a.length := by
  suffices h : ∃ x, (∃ q r, x = .tuple [isl q, isl r] ∧ okd q ∧ okd r ∧ val q = val a / val b ∧ val r = val a % val b ∧ q.length ≤ a.length ∧ r.length ≤ a.length) ∧ M X 169 [isl a, isl b] = some x by
    obtain ⟨x, ⟨q, r, rfl, h1⟩, h2⟩ := h
    exact ⟨q, r, h2, h1⟩
  refine M_ex (fn := Tryz.f169) Tryz.func169 rfl ok_169 mode_169 res_169 _ rfl _ ?_
  have hb := okd_getD ob (b.length - 1)
  simp only [Bz] at hb
  have hsc := scale_ok ⟨ht, hb.2⟩
  obtain ⟨s, hs⟩ : ∃ s, s = 1000000000 / (b.getD (b.length - 1) 0 + 1) := ⟨_, rfl⟩
  rw [← hs] at hsc
  obtain ⟨u, u1, u2, u3, u4⟩ := M_172 a s (by omega) oa ⟨by omega, hsc.2.1⟩
  obtain ⟨vl, v1, v2, v3, v4⟩ := M_172 b s (by omega) ob ⟨by omega, hsc.2.1⟩
  have kv := long_KV ob h2 ht hs v2 v3 v4
  simp (maxSteps := 4000000) (disch := first | omega | (simp only [List.length_set, List.length_replicate, List.length_append, List.length_take, List.length_drop, List.length_cons, List.length_nil]; omega)) only [go_sem, reduceCtorEq, Nat.reduceEqDiff, Nat.reduceAdd, Nat.reduceMul, Nat.reduceSub, ↓Nat.reduceBEq, Nat.reduceLT, Nat.reduceLeDiff, Int.reduceLT, Int.reduceLE, Int.reduceNeg, Int.reduceToNat, ← hs, mode_172, u1, v1, v4, u4]
  refine W_loop X (fun (m : Nat) st => m ≤ a.length - b.length + 1 ∧ ∃ u q, LFr s a.length b.length vl ((m : Int) - 1) q st ∧ st.heap 104 = some (.cells (ints u) true false) ∧ LonP (s * val a) (vl.take b.length) b.length (s * val b) a.length m u q) (fun m => m) ?_ (a.length - b.length + 1) _ ?_
  · clear u1 u2 u3 u4 u
    rintro m ⟨env, heap, nx⟩ ⟨hm, u, q, hf, h104, hlon⟩
    obtain ⟨f6, f7, f8, f9, f10, f11, f128, f240, fnx⟩ := hf
    simp only at f6 f7 f8 f9 f10 f11 f128 f240 fnx h104
    have hlu := hlon.lu
    have hlq := hlon.lq
    obtain _ | j := m
    · obtain ⟨r, r1, r2, r3, r4⟩ := M_168 (u.take b.length) s (by simp; omega) (okd_take hlon.ou _) ⟨by omega, by omega⟩
      have hend := lonP_end (by omega) (by
        have := top_le ob (n := b.length - 1) (by omega)
        have hp := bz_pos (b.length - 1)
        have := Int.mul_le_mul_of_nonneg_left ht (show 0 ≤ Bz ^ (b.length - 1) by omega)
        omega) kv hlon
      simp (maxSteps := 4000000) (disch := first | omega | (simp only [List.length_set, List.length_replicate, List.length_append, List.length_take, List.length_drop, List.length_cons, List.length_nil]; omega)) only [go_sem, reduceCtorEq, Nat.reduceEqDiff, Nat.reduceAdd, Nat.reduceMul, Nat.reduceSub, ↓Nat.reduceBEq, Nat.reduceLT, Nat.reduceLeDiff, Int.reduceLT, Int.reduceLE, Int.reduceNeg, Int.reduceToNat, f6, f7, f8, f9, f10, f11, f128, f240, h104, hlu, hlq, mode_168, r1]
      refine ⟨q, r, rfl, hlon.oq, r2, hend.1, by rw [r3, hend.2.1], by omega, ?_⟩
      rw [r4, List.length_take]; omega
    · obtain ⟨kn', hU, hU0⟩ := round_KN (j := j) kv hlon.ou (by omega) hlon.lt
      rw [getD_take (by omega), getD_take (by omega)] at kn'
      obtain ⟨T, hT⟩ : ∃ T, T = u.getD (j + b.length) 0 * 1000000000 + u.getD (j + b.length - 1) 0 := ⟨_, rfl⟩
      have kn : KN (val (u.drop j)) (s * val b) (Bz ^ (b.length - 2)) T (vl.getD (b.length - 1) 0) (vl.getD (b.length - 2) 0) (u.getD (j + b.length - 2) 0) := by rw [hT]; exact kn'
      clear kn'
      have hv1 : 1 ≤ vl.getD (b.length - 1) 0 ∧ vl.getD (b.length - 1) 0 < 1000000000 := kn.hv1
      have hv2 : 0 ≤ vl.getD (b.length - 2) 0 ∧ vl.getD (b.length - 2) 0 < 1000000000 := kn.hv2
      have hu2 : 0 ≤ u.getD (j + b.length - 2) 0 ∧ u.getD (j + b.length - 2) 0 < 1000000000 := kn.hu2
      have d0 : 0 ≤ u.getD (j + b.length) 0 ∧ u.getD (j + b.length) 0 < 1000000000 := okd_getD hlon.ou _
      have d1 : 0 ≤ u.getD (j + b.length - 1) 0 ∧ u.getD (j + b.length - 1) 0 < 1000000000 := okd_getD hlon.ou _
      have hT0 : 0 ≤ T ∧ T < 1000000000000000000 := by omega
      have hj : j + b.length ≤ a.length := by omega
      simp (maxSteps := 4000000) (disch := first | omega | (simp only [List.length_set, List.length_replicate, List.length_append, List.length_take, List.length_drop, List.length_cons, List.length_nil]; omega)) only [go_sem, reduceCtorEq, Nat.reduceEqDiff, Nat.reduceAdd, Nat.reduceMul, Nat.reduceSub, ↓Nat.reduceBEq, Nat.reduceLT, Nat.reduceLeDiff, Int.reduceLT, Int.reduceLE, Int.reduceNeg, Int.reduceToNat, f6, f7, f8, f9, f10, f11, f128, f240, h104, hlu, hlq, v4, ← hT]
      refine blk_cut (fun st => LFr s a.length b.length vl j q st ∧ st.heap 104 = some (.cells (ints u) true false) ∧ ∃ g, st.env 13 = .int .i64 g ∧ (0 ≤ g ∧ g < 1000000000) ∧ val (u.drop j) < (g + 1) * (s * val b) ∧ g * (s * val b) < val (u.drop j) + s * val b) ?_ ?_
      · clear f6 f7 f8 f9 f10 f11 f128 f240 fnx h104
        rintro ⟨env, heap, nx⟩ ⟨hf, h104, g, g13, hg, hg1, hg2⟩
        obtain ⟨f6, f7, f8, f9, f10, f11, f128, f240, fnx⟩ := hf
        simp only at f6 f7 f8 f9 f10 f11 f128 f240 fnx h104 g13
        simp (maxSteps := 4000000) (disch := first | omega | (simp only [List.length_set, List.length_replicate, List.length_append, List.length_take, List.length_drop, List.length_cons, List.length_nil]; omega)) only [go_sem, reduceCtorEq, Nat.reduceEqDiff, Nat.reduceAdd, Nat.reduceMul, Nat.reduceSub, ↓Nat.reduceBEq, Nat.reduceLT, Nat.reduceLeDiff, Int.reduceLT, Int.reduceLE, Int.reduceNeg, Int.reduceToNat, f6, f7, f8, f9, f10, f11, f128, f240, h104, hlu, hlq, v4, g13]
        refine W_loop X (fun (i : Nat) st => i ≤ b.length ∧ LFr s a.length b.length vl j q st ∧ st.env 13 = .int .i64 g ∧ st.env 117 = .int .i64 b.length ∧ st.env 118 = .int .i64 i ∧ ∃ o c, st.heap 104 = some (.cells (ints o) true false) ∧ st.env 15 = .int .i64 c ∧ SubP u (vl.take b.length) g j i c o) (fun i => b.length - i) ?_ 0 _ ?_
        · clear f6 f7 f8 f9 f10 f11 f128 f240 fnx h104 g13
          rintro i ⟨env, heap, nx⟩ ⟨hi, hf, g13, g117, g118, o, c, h104, g15, hs'⟩
          obtain ⟨f6, f7, f8, f9, f10, f11, f128, f240, fnx⟩ := hf
          simp only at f6 f7 f8 f9 f10 f11 f128 f240 fnx h104 g13 g117 g118 g15
          have lo : o.length = a.length + 1 := by rw [hs'.1, hlu]
          have hc := hs'.2.2.1
          by_cases hi2 : i < b.length
          · have ko := okd_getD hs'.2.1 (i + j)
            have kvi := okd_getD v2 i
            have hm' := mul_dig hg kvi
            simp only [Bz] at ko kvi
            have hgt : (vl.take b.length).getD i 0 = vl.getD i 0 := getD_take hi2
            by_cases hw : o.getD (i + j) 0 - g * vl.getD i 0 - c < 0
            · have hn := subP_lt hs' (by omega) (by rw [kv.len]; exact hi2) kv.ok hg _ _ (by rw [hgt]) hw rfl
              simp (maxSteps := 4000000) (disch := first | omega | (simp only [List.length_set, List.length_replicate, List.length_append, List.length_take, List.length_drop, List.length_cons, List.length_nil]; omega)) only [go_sem, reduceCtorEq, Nat.reduceEqDiff, Nat.reduceAdd, Nat.reduceMul, Nat.reduceSub, ↓Nat.reduceBEq, Nat.reduceLT, Nat.reduceLeDiff, Int.reduceLT, Int.reduceLE, Int.reduceNeg, Int.reduceToNat, LFr_eq, f6, f7, f8, f9, f10, f11, f128, f240, h104, hlu, hlq, v4, g13, g117, g118, g15, lo]
              exact ⟨i + 1, ⟨by omega, by omega, rfl, _, _, rfl, rfl, hn⟩, by omega⟩
            · have hn := subP_ge hs' (by omega) (by rw [kv.len]; exact hi2) kv.ok hg _ (by rw [hgt]) (Int.not_lt.1 hw)
              simp (maxSteps := 4000000) (disch := first | omega | (simp only [List.length_set, List.length_replicate, List.length_append, List.length_take, List.length_drop, List.length_cons, List.length_nil]; omega)) only [go_sem, reduceCtorEq, Nat.reduceEqDiff, Nat.reduceAdd, Nat.reduceMul, Nat.reduceSub, ↓Nat.reduceBEq, Nat.reduceLT, Nat.reduceLeDiff, Int.reduceLT, Int.reduceLE, Int.reduceNeg, Int.reduceToNat, LFr_eq, f6, f7, f8, f9, f10, f11, f128, f240, h104, hlu, hlq, v4, g13, g117, g118, g15, lo]
              exact ⟨i + 1, ⟨by omega, by omega, rfl, _, _, rfl, rfl, hn⟩, by omega⟩
          · have hi' : i = b.length := by omega
            subst hi'
            have ko := okd_getD hs'.2.1 (j + b.length)
            simp only [Bz] at ko
            obtain ⟨e1, e2, e3⟩ := subP_end hs' kv (by omega)
            by_cases hw : o.getD (j + b.length) 0 - c < 0
            · simp (maxSteps := 4000000) (disch := first | omega | (simp only [List.length_set, List.length_replicate, List.length_append, List.length_take, List.length_drop, List.length_cons, List.length_nil]; omega)) only [go_sem, reduceCtorEq, Nat.reduceEqDiff, Nat.reduceAdd, Nat.reduceMul, Nat.reduceSub, ↓Nat.reduceBEq, Nat.reduceLT, Nat.reduceLeDiff, Int.reduceLT, Int.reduceLE, Int.reduceNeg, Int.reduceToNat, LFr_eq, f6, f7, f8, f9, f10, f11, f128, f240, h104, hlu, hlq, v4, g13, g117, g118, g15, lo, getD_set_self]
              obtain ⟨o1, ho1⟩ : ∃ o1, o1 = o.set (j + b.length) (o.getD (j + b.length) 0 - c) := ⟨_, rfl⟩
              rw [← ho1] at e1 ⊢
              have hneg : o1.getD (j + b.length) 0 < 0 := by rw [ho1, getD_set_self _ _ _ (by omega)]; exact hw
              have hneg2 : -1000000000 ≤ o1.getD (j + b.length) 0 := by rw [ho1, getD_set_self _ _ _ (by omega)]; omega
              have lo1 : o1.length = a.length + 1 := by rw [ho1]; simp [lo]
              refine W_loop X (fun (i : Nat) st => i ≤ b.length ∧ LFr s a.length b.length vl j q st ∧ st.env 13 = .int .i64 (g - 1) ∧ st.env 172 = .int .i64 b.length ∧ st.env 173 = .int .i64 i ∧ ∃ o c, st.heap 104 = some (.cells (ints o) true false) ∧ st.env 15 = .int .i64 c ∧ AddP o1 (vl.take b.length) j b.length i c o) (fun i => b.length - i) ?_ 0 _ ?_
              · clear f6 f7 f8 f9 f10 f11 f128 f240 fnx h104 g13 g117 g118 g15 lo ho1 hw e2 e3 ko hc hs' hi
                rintro i ⟨env, heap, nx⟩ ⟨hi, hf, g13, g172, g173, o2, c2, h104, g15, ha'⟩
                obtain ⟨f6, f7, f8, f9, f10, f11, f128, f240, fnx⟩ := hf
                simp only at f6 f7 f8 f9 f10 f11 f128 f240 fnx h104 g13 g172 g173 g15
                have lo : o2.length = a.length + 1 := by rw [ha'.1, lo1]
                have hc := ha'.2.2.1
                by_cases hi2 : i < b.length
                · have ko := okd_getD ha'.2.1 (i + j)
                  rw [getD_take (by omega)] at ko
                  have kvi := okd_getD v2 i
                  simp only [Bz] at ko kvi
                  have hgt : (vl.take b.length).getD i 0 = vl.getD i 0 := getD_take hi2
                  have hn := addP_step ha' (by omega) hi2 kv.len kv.ok _ (by rw [hgt])
                  simp (maxSteps := 4000000) (disch := first | omega | (simp only [List.length_set, List.length_replicate, List.length_append, List.length_take, List.length_drop, List.length_cons, List.length_nil]; omega)) only [go_sem, reduceCtorEq, Nat.reduceEqDiff, Nat.reduceAdd, Nat.reduceMul, Nat.reduceSub, ↓Nat.reduceBEq, Nat.reduceLT, Nat.reduceLeDiff, Int.reduceLT, Int.reduceLE, Int.reduceNeg, Int.reduceToNat, LFr_eq, f6, f7, f8, f9, f10, f11, f128, f240, h104, hlu, hlq, v4, g13, g172, g173, g15, lo]
                  exact ⟨i + 1, ⟨by omega, by omega, rfl, _, _, rfl, rfl, hn⟩, by omega⟩
                · have hi' : i = b.length := by omega
                  subst hi'
                  obtain ⟨e4, e5, e6⟩ := round_lt e1 ha' kv hlon.ou (by omega) hneg hlon.lt hg2 hg.1
                  have e7 := getD_congr (j + b.length) ha'.2.2.2.2.1 (by omega)
                  have hn := lonP_step hlon hj e6 (by omega)
                  simp (maxSteps := 4000000) (disch := first | omega | (simp only [List.length_set, List.length_replicate, List.length_append, List.length_take, List.length_drop, List.length_cons, List.length_nil]; omega)) only [go_sem, reduceCtorEq, Nat.reduceEqDiff, Nat.reduceAdd, Nat.reduceMul, Nat.reduceSub, ↓Nat.reduceBEq, Nat.reduceLT, Nat.reduceLeDiff, Int.reduceLT, Int.reduceLE, Int.reduceNeg, Int.reduceToNat, LFr_eq, f6, f7, f8, f9, f10, f11, f128, f240, h104, hlu, hlq, v4, g13, g172, g173, g15, lo]
                  exact ⟨j, ⟨by omega, _, _, ⟨rfl, rfl, by omega⟩, rfl, hn⟩, by omega⟩
              · have hz := addP_zero (v := vl.take b.length) e1
                simp (maxSteps := 4000000) (disch := first | omega | (simp only [List.length_set, List.length_replicate, List.length_append, List.length_take, List.length_drop, List.length_cons, List.length_nil]; omega)) only [go_sem, reduceCtorEq, Nat.reduceEqDiff, Nat.reduceAdd, Nat.reduceMul, Nat.reduceSub, ↓Nat.reduceBEq, Nat.reduceLT, Nat.reduceLeDiff, Int.reduceLT, Int.reduceLE, Int.reduceNeg, Int.reduceToNat, LFr_eq, f6, f7, f8, f9, f10, f11, f128, f240, h104, hlu, hlq, v4, g13, g117, g118, g15, lo]
                exact ⟨by omega, _, _, rfl, rfl, hz⟩
            · have hr := round_ge e1 (by omega) (e3 (Int.not_lt.1 hw)) hg1
              have hn := lonP_step hlon hj hr hg
              simp (maxSteps := 4000000) (disch := first | omega | (simp only [List.length_set, List.length_replicate, List.length_append, List.length_take, List.length_drop, List.length_cons, List.length_nil]; omega)) only [go_sem, reduceCtorEq, Nat.reduceEqDiff, Nat.reduceAdd, Nat.reduceMul, Nat.reduceSub, ↓Nat.reduceBEq, Nat.reduceLT, Nat.reduceLeDiff, Int.reduceLT, Int.reduceLE, Int.reduceNeg, Int.reduceToNat, LFr_eq, f6, f7, f8, f9, f10, f11, f128, f240, h104, hlu, hlq, v4, g13, g117, g118, g15, lo, getD_set_self]
              exact ⟨j, ⟨by omega, _, _, ⟨rfl, rfl, by omega⟩, rfl, hn⟩, by omega⟩
        · have hz := subP_zero u (vl.take b.length) g j hlon.ou
          simp (maxSteps := 4000000) (disch := first | omega | (simp only [List.length_set, List.length_replicate, List.length_append, List.length_take, List.length_drop, List.length_cons, List.length_nil]; omega)) only [go_sem, reduceCtorEq, Nat.reduceEqDiff, Nat.reduceAdd, Nat.reduceMul, Nat.reduceSub, ↓Nat.reduceBEq, Nat.reduceLT, Nat.reduceLeDiff, Int.reduceLT, Int.reduceLE, Int.reduceNeg, Int.reduceToNat, LFr_eq, f6, f7, f8, f9, f10, f11, f128, f240, h104, hlu, hlq, v4, g13]
          exact ⟨by omega, _, _, rfl, rfl, hz⟩
      · refine W_loop X (fun (g : Int) st => LFr s a.length b.length vl j q st ∧ st.heap 104 = some (.cells (ints u) true false) ∧ st.env 13 = .int .i64 g ∧ (0 ≤ g ∧ g ≤ 1000000000000000000) ∧ ∃ rest, st.env 14 = .int .i64 rest ∧ g * vl.getD (b.length - 1) 0 + rest = T ∧ (0 ≤ rest ∧ rest < 1000000000) ∧ val (u.drop j) < (g + 1) * (s * val b)) (fun g => g.toNat) ?_ (T / vl.getD (b.length - 1) 0) _ ?_
        · clear f6 f7 f8 f9 f10 f11 f128 f240 fnx h104
          rintro g ⟨env, heap, nx⟩ ⟨hf, h104, g13, hg, rest, g14, hgr, hr, hgu⟩
          obtain ⟨f6, f7, f8, f9, f10, f11, f128, f240, fnx⟩ := hf
          simp only at f6 f7 f8 f9 f10 f11 f128 f240 fnx h104 g13 g14
          have hstep : ∀ (hc : Bz ≤ g ∨ rest * Bz + u.getD (j + b.length - 2) 0 < g * vl.getD (b.length - 2) 0), val (u.drop j) < (g - 1 + 1) * (s * val b) ∧ 1 ≤ g ∧ (g - 1) * vl.getD (b.length - 1) 0 + (rest + vl.getD (b.length - 1) 0) = T := by
            intro hc
            obtain ⟨x1, x2⟩ := kn.step hU hgr hg.1 hc hU0
            exact ⟨by rw [Int.sub_add_cancel]; exact x1, x2, by rw [Int.sub_mul]; omega⟩
          by_cases hA : 1000000000 ≤ g
          · obtain ⟨x1, x2, x3⟩ := hstep (.inl hA)
            by_cases hB : 1000000000 ≤ rest + vl.getD (b.length - 1) 0
            · obtain ⟨y1, y2⟩ := kn.brk x3 (by omega) hB
              have y3 := kn.fin x3 ⟨by omega, y1⟩ y2
              simp (maxSteps := 4000000) (disch := first | omega | (simp only [List.length_set, List.length_replicate, List.length_append, List.length_take, List.length_drop, List.length_cons, List.length_nil]; omega)) only [go_sem, reduceCtorEq, Nat.reduceEqDiff, Nat.reduceAdd, Nat.reduceMul, Nat.reduceSub, ↓Nat.reduceBEq, Nat.reduceLT, Nat.reduceLeDiff, Int.reduceLT, Int.reduceLE, Int.reduceNeg, Int.reduceToNat, LFr_eq, f6, f7, f8, f9, f10, f11, f128, f240, h104, hlu, hlq, v4, g13, g14, norQ_normal]
              exact ⟨by omega, g - 1, rfl, ⟨by omega, y1⟩, x1, y3⟩
            · simp (maxSteps := 4000000) (disch := first | omega | (simp only [List.length_set, List.length_replicate, List.length_append, List.length_take, List.length_drop, List.length_cons, List.length_nil]; omega)) only [go_sem, reduceCtorEq, Nat.reduceEqDiff, Nat.reduceAdd, Nat.reduceMul, Nat.reduceSub, ↓Nat.reduceBEq, Nat.reduceLT, Nat.reduceLeDiff, Int.reduceLT, Int.reduceLE, Int.reduceNeg, Int.reduceToNat, LFr_eq, f6, f7, f8, f9, f10, f11, f128, f240, h104, hlu, hlq, v4, g13, g14, norQ_normal]
              exact ⟨g - 1, ⟨by omega, rfl, by omega, _, rfl, x3, by omega, x1⟩, by omega⟩
          · have hgv := mul_dig ⟨hg.1, by omega⟩ hv2
            by_cases hC : rest * 1000000000 + u.getD (j + b.length - 2) 0 < g * vl.getD (b.length - 2) 0
            · obtain ⟨x1, x2, x3⟩ := hstep (.inr hC)
              by_cases hB : 1000000000 ≤ rest + vl.getD (b.length - 1) 0
              · obtain ⟨y1, y2⟩ := kn.brk x3 (by omega) hB
                have y3 := kn.fin x3 ⟨by omega, y1⟩ y2
                simp (maxSteps := 4000000) (disch := first | omega | (simp only [List.length_set, List.length_replicate, List.length_append, List.length_take, List.length_drop, List.length_cons, List.length_nil]; omega)) only [go_sem, reduceCtorEq, Nat.reduceEqDiff, Nat.reduceAdd, Nat.reduceMul, Nat.reduceSub, ↓Nat.reduceBEq, Nat.reduceLT, Nat.reduceLeDiff, Int.reduceLT, Int.reduceLE, Int.reduceNeg, Int.reduceToNat, LFr_eq, f6, f7, f8, f9, f10, f11, f128, f240, h104, hlu, hlq, v4, g13, g14, norQ_normal]
                exact ⟨by omega, g - 1, rfl, ⟨by omega, y1⟩, x1, y3⟩
              · simp (maxSteps := 4000000) (disch := first | omega | (simp only [List.length_set, List.length_replicate, List.length_append, List.length_take, List.length_drop, List.length_cons, List.length_nil]; omega)) only [go_sem, reduceCtorEq, Nat.reduceEqDiff, Nat.reduceAdd, Nat.reduceMul, Nat.reduceSub, ↓Nat.reduceBEq, Nat.reduceLT, Nat.reduceLeDiff, Int.reduceLT, Int.reduceLE, Int.reduceNeg, Int.reduceToNat, LFr_eq, f6, f7, f8, f9, f10, f11, f128, f240, h104, hlu, hlq, v4, g13, g14, norQ_normal]
                exact ⟨g - 1, ⟨by omega, rfl, by omega, _, rfl, x3, by omega, x1⟩, by omega⟩
            · have y3 := kn.fin hgr ⟨hg.1, by simp only [Bz]; omega⟩ (by simp only [Bz]; omega)
              simp (maxSteps := 4000000) (disch := first | omega | (simp only [List.length_set, List.length_replicate, List.length_append, List.length_take, List.length_drop, List.length_cons, List.length_nil]; omega)) only [go_sem, reduceCtorEq, Nat.reduceEqDiff, Nat.reduceAdd, Nat.reduceMul, Nat.reduceSub, ↓Nat.reduceBEq, Nat.reduceLT, Nat.reduceLeDiff, Int.reduceLT, Int.reduceLE, Int.reduceNeg, Int.reduceToNat, LFr_eq, f6, f7, f8, f9, f10, f11, f128, f240, h104, hlu, hlq, v4, g13, g14, norQ_normal]
              exact ⟨by omega, g, rfl, ⟨hg.1, by omega⟩, hgu, y3⟩
        · have hz := kn.init
          have hz1 := Int.mul_ediv_add_emod T (vl.getD (b.length - 1) 0)
          have hz2 := Int.emod_nonneg T (show vl.getD (b.length - 1) 0 ≠ 0 by omega)
          have hz3 := Int.emod_lt_of_pos T (show 0 < vl.getD (b.length - 1) 0 by omega)
          have hz4 := IntWalk.tdiv_le T (vl.getD (b.length - 1) 0) hT0.1 hv1.1
          rw [Int.mul_comm] at hz1
          simp (maxSteps := 4000000) (disch := first | omega | (simp only [List.length_set, List.length_replicate, List.length_append, List.length_take, List.length_drop, List.length_cons, List.length_nil]; omega)) only [go_sem, reduceCtorEq, Nat.reduceEqDiff, Nat.reduceAdd, Nat.reduceMul, Nat.reduceSub, ↓Nat.reduceBEq, Nat.reduceLT, Nat.reduceLeDiff, Int.reduceLT, Int.reduceLE, Int.reduceNeg, Int.reduceToNat, LFr_eq, f6, f7, f8, f9, f10, f11, f128, f240, h104, hlu, hlq, v4]
          exact ⟨by omega, by omega, _, rfl, hz1, by omega, hz⟩
  · have hz := lonP_zero (S := s * val a) (V := s * val b) (u := u) (vl.take b.length) hl u4 u2 u3 (long_S oa (by omega) ht ob hl (by omega))
    simp (maxSteps := 4000000) (disch := first | omega | (simp only [List.length_set, List.length_replicate, List.length_append, List.length_take, List.length_drop, List.length_cons, List.length_nil]; omega)) only [go_sem, reduceCtorEq, Nat.reduceEqDiff, Nat.reduceAdd, Nat.reduceMul, Nat.reduceSub, ↓Nat.reduceBEq, Nat.reduceLT, Nat.reduceLeDiff, Int.reduceLT, Int.reduceLE, Int.reduceNeg, Int.reduceToNat, LFr_eq, v4, u4]
    exact ⟨_, _, rfl, rfl, hz⟩
end Go.Proofs.YtjccikgdebgebaaGreatDoor.Abs
end
section
set_option linter.unusedSimpArgs false
namespace Go.Proofs.YtjccikgdebgebaaGreatDoor.Abs
open Go
/-- The last digit is not 0. -/
theorem digs_last (n : Nat) (h : n ≠ 0) : 1 ≤ (digs n).getD ((digs n).length - 1) 0 := by
  induction n using Nat.strongRecOn with
  | ind n ih =>
    by_cases h1 : n < Bn
    · rw [digs_lt n h h1]
      simp; omega
    · have h2 : n / Bn ≠ 0 := by simp only [Bn] at *; omega
      have h3 := ih _ (Nat.div_lt_self (by omega) (by decide)) h2
      have h4 : 0 < (digs (n / Bn)).length := by rw [digs_pos _ h2]; simp
      rw [digs_pos n h]
      obtain ⟨k, hk⟩ : ∃ k, (digs (n / Bn)).length = k + 1 := ⟨(digs (n / Bn)).length - 1, by omega⟩
      rw [hk] at h3
      rw [List.length_cons, hk]
      exact h3
theorem zz_zero : AV.agg [.bool false, .ro [] 0 false] = AV.agg [zS 0, zD 0] := by rw [zz_nil, zz_false]
theorem unsZ [SpC] (u : Int) (h0 : 0 ≤ u) (h1 : u < 2 ^ 64) : M X 134 [.bool false, .int .u64 u] = some (.agg [zS u, zD u]) := by
  rw [M_134 false u h0 h1, aI_digs false _ u (by simp; omega)]
theorem nat_div (x y : Int) (hy : y ≠ 0) : 0 ≤ (x.natAbs : Int) / y.natAbs ∧ (x.natAbs : Int) / y.natAbs ≤ x.natAbs ∧ 0 ≤ (x.natAbs : Int) % y.natAbs ∧ (x.natAbs : Int) % y.natAbs < y.natAbs ∧ (x.natAbs : Int) % y.natAbs ≤ x.natAbs := by
  have h1 := IntWalk.tdiv_le (x.natAbs : Int) y.natAbs (by omega) (by omega)
  have h2 := Int.emod_nonneg (x.natAbs : Int) (show (y.natAbs : Int) ≠ 0 by omega)
  have h3 := Int.emod_lt_of_pos (x.natAbs : Int) (show 0 < (y.natAbs : Int) by omega)
  have h4 := Int.mul_ediv_add_emod (x.natAbs : Int) y.natAbs
  have h5 := Int.mul_nonneg (show 0 ≤ (y.natAbs : Int) by omega) h1.1
  exact ⟨h1.1, h1.2, h2, h3, by omega⟩
set_option maxRecDepth 100000 in
theorem M_158 [SpC] (x y : Int) (hx : nd x < 2 ^ 28) (hy : nd y < 2 ^ 28) (h0 : y ≠ 0) : M X 158 [zD x, zD y] =
    some (.tuple [.agg [zS ((x.natAbs : Int) / y.natAbs), zD ((x.natAbs : Int) / y.natAbs)], .agg [zS ((x.natAbs : Int) % y.natAbs), zD ((x.natAbs : Int) % y.natAbs)]]) := by
  refine M_of X (fn := Tryz.f158) Tryz.func158 rfl ok_158 mode_158 res_158 _ rfl _ ?_
  intro r hr
  have hc := compareZ x y (by omega) (by omega)
  obtain ⟨d1, d2, d3, d4, d5⟩ := nat_div x y h0
  have hof := ofZ false (digs x.natAbs) (x.natAbs : Int) (okd_nat x) (by rw [len_nd]; omega) (by rw [val_nat]; simp)
  rw [← zD_eq] at hof
  by_cases h1 : x.natAbs < 1000000000000000000
  · have t1 := two_lt x h1
    by_cases h2 : y.natAbs < 1000000000000000000
    · have t2 := two_lt y h2
      have u1 := unsZ ((x.natAbs : Int) / y.natAbs) d1 (by omega)
      have u2 := unsZ ((x.natAbs : Int) % y.natAbs) d3 (by omega)
      simp (maxSteps := 4000000) (disch := first | omega | (simp only [List.length_set, List.length_replicate, List.length_append, List.length_take, List.length_drop, List.length_cons, List.length_nil]; omega)) only [go_sem, reduceCtorEq, Nat.reduceEqDiff, Nat.reduceAdd, Nat.reduceMul, Nat.reduceSub, ↓Nat.reduceBEq, Nat.reduceLT, Nat.reduceLeDiff, Int.reduceLT, Int.reduceLE, Int.reduceNeg, Int.reduceToNat, mode_157, mode_134, t1, t2, u1, u2]
      rw [hr]
    · have t2 := two_ge y (by omega) (by omega)
      rw [cmpZ_lt (by omega)] at hc
      simp (maxSteps := 4000000) (disch := first | omega | (simp only [List.length_set, List.length_replicate, List.length_append, List.length_take, List.length_drop, List.length_cons, List.length_nil]; omega)) only [go_sem, reduceCtorEq, Nat.reduceEqDiff, Nat.reduceAdd, Nat.reduceMul, Nat.reduceSub, ↓Nat.reduceBEq, Nat.reduceLT, Nat.reduceLeDiff, Int.reduceLT, Int.reduceLE, Int.reduceNeg, Int.reduceToNat, mode_157, mode_128, mode_126, t1, t2, hc, hof]
      rw [hr, zz_zero, Int.ediv_eq_zero_of_lt (by omega) (by omega), Int.emod_eq_of_lt (by omega) (by omega)]
  · have t1 := two_ge x (by omega) (by omega)
    by_cases h3 : x.natAbs < y.natAbs
    · rw [cmpZ_lt (by omega)] at hc
      simp (maxSteps := 4000000) (disch := first | omega | (simp only [List.length_set, List.length_replicate, List.length_append, List.length_take, List.length_drop, List.length_cons, List.length_nil]; omega)) only [go_sem, reduceCtorEq, Nat.reduceEqDiff, Nat.reduceAdd, Nat.reduceMul, Nat.reduceSub, ↓Nat.reduceBEq, Nat.reduceLT, Nat.reduceLeDiff, Int.reduceLT, Int.reduceLE, Int.reduceNeg, Int.reduceToNat, mode_157, mode_128, mode_126, t1, hc, hof]
      rw [hr, zz_zero, Int.ediv_eq_zero_of_lt (by omega) (by omega), Int.emod_eq_of_lt (by omega) (by omega)]
    · have hc' : 0 ≤ cmpZ (x.natAbs : Int) y.natAbs := by unfold cmpZ; rw [if_neg (by omega)]; split <;> omega
      by_cases h4 : nd y ≤ 1
      · have y1 := (nd_le_one y).1 h4
        obtain ⟨q, q1, q2, q3, q4⟩ := M_168 (digs x.natAbs) (y.natAbs : Int) (by rw [len_nd]; omega) (okd_nat x) (by omega)
        rw [val_nat] at q1 q3
        rw [len_nd] at q4
        rw [← zD_eq] at q1
        have u1 := ofZ false q ((x.natAbs : Int) / y.natAbs) q2 (by omega) (by rw [q3]; simp)
        have u2 := unsZ ((x.natAbs : Int) % y.natAbs) d3 (by omega)
        have ey := zD_one y h0 y1
        rw [ey] at hc ⊢
        simp (maxSteps := 4000000) (disch := first | omega | (simp only [List.length_set, List.length_replicate, List.length_append, List.length_take, List.length_drop, List.length_cons, List.length_nil]; omega)) only [go_sem, reduceCtorEq, Nat.reduceEqDiff, Nat.reduceAdd, Nat.reduceMul, Nat.reduceSub, ↓Nat.reduceBEq, Nat.reduceLT, Nat.reduceLeDiff, Int.reduceLT, Int.reduceLE, Int.reduceNeg, Int.reduceToNat, mode_157, mode_128, mode_126, mode_168, mode_134, t1, hc, q1, u1, u2]
        rw [hr]
      · obtain ⟨q, r', q1, q2, q3, q4, q5, q6, q7⟩ := M_169 (digs x.natAbs) (digs y.natAbs) (by rw [len_nd]; omega) (okd_nat x) (okd_nat y) (by rw [len_nd]; omega) (by rw [len_nd, len_nd]; exact nd_mono (by omega)) (digs_last _ (by omega))
        rw [val_nat, val_nat] at q4 q5
        rw [len_nd] at q6 q7
        rw [← zD_eq, ← zD_eq] at q1
        have u1 := ofZ false q ((x.natAbs : Int) / y.natAbs) q2 (by omega) (by rw [q4]; simp)
        have u2 := ofZ false r' ((x.natAbs : Int) % y.natAbs) q3 (by omega) (by rw [q5]; simp)
        simp (maxSteps := 4000000) (disch := first | omega | (simp only [List.length_set, List.length_replicate, List.length_append, List.length_take, List.length_drop, List.length_cons, List.length_nil]; omega)) only [go_sem, reduceCtorEq, Nat.reduceEqDiff, Nat.reduceAdd, Nat.reduceMul, Nat.reduceSub, ↓Nat.reduceBEq, Nat.reduceLT, Nat.reduceLeDiff, Int.reduceLT, Int.reduceLE, Int.reduceNeg, Int.reduceToNat, mode_157, mode_128, mode_126, mode_169, t1, hc, q1, u1, u2]
        rw [hr]
set_option maxRecDepth 100000 in
theorem M_101 [SpC] (x y : Int) (hx : nd x < 2 ^ 28) (hy : nd y < 2 ^ 28) : M X 101 [.agg [zS x, zD x], .agg [zS y, zD y]] = some (.int .i64 (cmpZ x y)) := by
  refine M_of X (fn := Tryz.f101) Tryz.func101 rfl ok_101 mode_101 res_101 _ rfl _ ?_
  intro r hr
  have hc := compareZ x y (by omega) (by omega)
  have hc' := compareZ y x (by omega) (by omega)
  by_cases h1 : x < 0
  · by_cases h2 : y < 0
    · simp (maxSteps := 4000000) (disch := first | omega | (simp only [List.length_set, List.length_replicate, List.length_append, List.length_take, List.length_drop, List.length_cons, List.length_nil]; omega)) only [go_sem, reduceCtorEq, Nat.reduceEqDiff, Nat.reduceAdd, Nat.reduceMul, Nat.reduceSub, ↓Nat.reduceBEq, Nat.reduceLT, Nat.reduceLeDiff, Int.reduceLT, Int.reduceLE, Int.reduceNeg, Int.reduceToNat, zS_neg, mode_128, hc, hc']
      rw [hr]; congr 1; unfold cmpZ; grind
    · simp (maxSteps := 4000000) (disch := first | omega | (simp only [List.length_set, List.length_replicate, List.length_append, List.length_take, List.length_drop, List.length_cons, List.length_nil]; omega)) only [go_sem, reduceCtorEq, Nat.reduceEqDiff, Nat.reduceAdd, Nat.reduceMul, Nat.reduceSub, ↓Nat.reduceBEq, Nat.reduceLT, Nat.reduceLeDiff, Int.reduceLT, Int.reduceLE, Int.reduceNeg, Int.reduceToNat, zS_neg, zS_pos, mode_128, hc, hc']
      rw [hr, cmpZ_lt (by omega)]
  · by_cases h2 : y < 0
    · simp (maxSteps := 4000000) (disch := first | omega | (simp only [List.length_set, List.length_replicate, List.length_append, List.length_take, List.length_drop, List.length_cons, List.length_nil]; omega)) only [go_sem, reduceCtorEq, Nat.reduceEqDiff, Nat.reduceAdd, Nat.reduceMul, Nat.reduceSub, ↓Nat.reduceBEq, Nat.reduceLT, Nat.reduceLeDiff, Int.reduceLT, Int.reduceLE, Int.reduceNeg, Int.reduceToNat, zS_neg, zS_pos, mode_128, hc, hc']
      rw [hr, cmpZ_gt (by omega)]
    · simp (maxSteps := 4000000) (disch := first | omega | (simp only [List.length_set, List.length_replicate, List.length_append, List.length_take, List.length_drop, List.length_cons, List.length_nil]; omega)) only [go_sem, reduceCtorEq, Nat.reduceEqDiff, Nat.reduceAdd, Nat.reduceMul, Nat.reduceSub, ↓Nat.reduceBEq, Nat.reduceLT, Nat.reduceLeDiff, Int.reduceLT, Int.reduceLE, Int.reduceNeg, Int.reduceToNat, zS_pos, mode_128, hc, hc']
      rw [hr]; congr 1; unfold cmpZ; grind
end Go.Proofs.YtjccikgdebgebaaGreatDoor.Abs
end
section
set_option linter.unusedSimpArgs false
namespace Go.Proofs.YtjccikgdebgebaaGreatDoor.Abs
open Go
theorem nd_le_of {x : Int} {k : Nat} (h : x.natAbs < Bn ^ k) : nd x ≤ k := (len_digs _ _).2 h
theorem lt_of_nd (x : Int) : x.natAbs < Bn ^ nd x := (len_digs _ _).1 (Nat.le_refl _)
theorem nd_one : nd 1 = 1 := by rw [nd, show (1 : Int).natAbs = 1 from rfl, digs_lt 1 (by decide) (by decide)]; rfl
theorem isl_one : isl [1] = AV.ro [.int .i64 1] 1 false := rfl
theorem zD_nat (x : Int) : zD (x.natAbs : Int) = zD x := by rw [zD, zD, Int.natAbs_natCast]
theorem nd_nat (x : Int) : nd (x.natAbs : Int) = nd x := by rw [nd, nd, Int.natAbs_natCast]
theorem div_unique {x y q r : Int} (h : x = y * q + r) (h0 : 0 ≤ r) (h1 : r < y.natAbs) : x / y = q ∧ x % y = r := by
  rcases Int.lt_or_gt_of_ne (show y ≠ 0 by omega) with hy | hy
  · have := (Int.ediv_emod_unique (a := x) (b := -y) (r := r) (q := -q) (by omega)).2 ⟨by rw [h, Int.neg_mul_neg]; omega, h0, by omega⟩
    rw [Int.ediv_neg, Int.emod_neg] at this
    exact ⟨by omega, this.2⟩
  · exact (Int.ediv_emod_unique (a := x) (b := y) (r := r) (q := q) (by omega)).2 ⟨by rw [h]; omega, h0, by omega⟩
set_option maxRecDepth 100000 in
theorem M_133 [SpC] (x y : Int) (hx : nd x < 2 ^ 28 - 1) (hy : nd y < 2 ^ 28) (h0 : y ≠ 0) : M X 133 [.agg [zS x, zD x], .agg [zS y, zD y]] =
    some (.tuple [.agg [zS (x / y), zD (x / y)], .agg [zS (x % y), zD (x % y)]]) := by
  refine M_of X (fn := Tryz.f133) Tryz.func133 rfl ok_133 mode_133 res_133 _ rfl _ ?_
  intro w hw
  have hd := M_158 x y (by omega) hy h0
  obtain ⟨d1, d2, d3, d4, d5⟩ := nat_div x y h0
  have he := Int.mul_ediv_add_emod (x.natAbs : Int) y.natAbs
  obtain ⟨q, hq⟩ : ∃ q, q = (x.natAbs : Int) / y.natAbs := ⟨_, rfl⟩
  obtain ⟨r, hr⟩ : ∃ r, r = (x.natAbs : Int) % y.natAbs := ⟨_, rfl⟩
  rw [← hq, ← hr] at hd he
  rw [← hq] at d1 d2
  rw [← hr] at d3 d4 d5
  have yp := nd_pos y h0
  by_cases h1 : x < 0
  · by_cases h2 : r = 0
    · have rz := nd_zero r h2
      by_cases h3 : y < 0
      · have e := div_unique (x := x) (y := y) (q := q) (r := 0) (by rw [h2, show (y.natAbs : Int) = -y by omega, Int.neg_mul] at he; omega) (by omega) (by omega)
        simp (maxSteps := 4000000) (disch := first | omega | (simp only [List.length_set, List.length_replicate, List.length_append, List.length_take, List.length_drop, List.length_cons, List.length_nil]; omega)) only [go_sem, reduceCtorEq, Nat.reduceEqDiff, Nat.reduceAdd, Nat.reduceMul, Nat.reduceSub, ↓Nat.reduceBEq, Nat.reduceLT, Nat.reduceLeDiff, Int.reduceLT, Int.reduceLE, Int.reduceNeg, Int.reduceToNat, zS_neg, zS_pos, mode_158, hd, rz]
        rw [hw, e.1, e.2, h2, zS_pos q d1, zS_pos 0 (by omega)]
      · have e := div_unique (x := x) (y := y) (q := -q) (r := 0) (by rw [h2, show (y.natAbs : Int) = y by omega] at he; rw [Int.mul_neg]; omega) (by omega) (by omega)
        by_cases h4 : q = 0
        · exfalso; rw [h4] at he; omega
        · have qp := nd_pos q h4
          simp (maxSteps := 4000000) (disch := first | omega | (simp only [List.length_set, List.length_replicate, List.length_append, List.length_take, List.length_drop, List.length_cons, List.length_nil]; omega)) only [go_sem, reduceCtorEq, Nat.reduceEqDiff, Nat.reduceAdd, Nat.reduceMul, Nat.reduceSub, ↓Nat.reduceBEq, Nat.reduceLT, Nat.reduceLeDiff, Int.reduceLT, Int.reduceLE, Int.reduceNeg, Int.reduceToNat, zS_neg, zS_pos, mode_158, hd, rz]
          rw [hw, e.1, e.2, h2, zS_neg (-q) (by omega), zS_pos 0 (by omega), show zD (-q) = zD q by simp [zD]]
    · have rp := nd_pos r h2
      have nq : nd q ≤ nd x := nd_mono (by omega)
      obtain ⟨p, p1, p2, p3, p4, p5⟩ := plusZ q 1 (by omega) (by rw [nd_one]; decide)
      rw [zD_one 1 (by decide) (by decide), show ([((1 : Int).natAbs : Int)] : List Int) = [1] from rfl, isl_one] at p1
      have p6 := p5 false (q + 1) (by simp; omega)
      obtain ⟨m, m1, m2, m3, m4, m5⟩ := minusZ y r hy (nd_mono (by omega)) (by omega)
      have m6 := m5 false (y.natAbs - r) (by simp; omega)
      have qp := nd_pos (q + 1) (by omega)
      by_cases h3 : y < 0
      · have e := div_unique (x := x) (y := y) (q := q + 1) (r := y.natAbs - r) (by rw [show (y.natAbs : Int) = -y by omega] at he ⊢; rw [Int.neg_mul] at he; rw [Int.mul_add]; omega) (by omega) (by omega)
        simp (maxSteps := 4000000) (disch := first | omega | (simp only [List.length_set, List.length_replicate, List.length_append, List.length_take, List.length_drop, List.length_cons, List.length_nil]; omega)) only [go_sem, reduceCtorEq, Nat.reduceEqDiff, Nat.reduceAdd, Nat.reduceMul, Nat.reduceSub, ↓Nat.reduceBEq, Nat.reduceLT, Nat.reduceLeDiff, Int.reduceLT, Int.reduceLE, Int.reduceNeg, Int.reduceToNat, zS_neg, zS_pos, mode_158, mode_127, mode_129, mode_126, hd, p1, p6, m1, m6]
        rw [hw, e.1, e.2, zS_pos (q + 1) (by omega), zS_pos (y.natAbs - r) (by omega)]
      · have e := div_unique (x := x) (y := y) (q := -(q + 1)) (r := y.natAbs - r) (by rw [show (y.natAbs : Int) = y by omega] at he ⊢; rw [Int.mul_neg, Int.mul_add]; omega) (by omega) (by omega)
        simp (maxSteps := 4000000) (disch := first | omega | (simp only [List.length_set, List.length_replicate, List.length_append, List.length_take, List.length_drop, List.length_cons, List.length_nil]; omega)) only [go_sem, reduceCtorEq, Nat.reduceEqDiff, Nat.reduceAdd, Nat.reduceMul, Nat.reduceSub, ↓Nat.reduceBEq, Nat.reduceLT, Nat.reduceLeDiff, Int.reduceLT, Int.reduceLE, Int.reduceNeg, Int.reduceToNat, zS_neg, zS_pos, mode_158, mode_127, mode_129, mode_126, hd, p1, p6, m1, m6]
        rw [hw, e.1, e.2, zS_neg (-(q + 1)) (by omega), zS_pos (y.natAbs - r) (by omega), show zD (-(q + 1)) = zD (q + 1) by rw [zD, zD, Int.natAbs_neg]]
  · by_cases h3 : y < 0
    · have e := div_unique (x := x) (y := y) (q := -q) (r := r) (by rw [show (y.natAbs : Int) = -y by omega] at he; rw [Int.neg_mul] at he; rw [Int.mul_neg]; omega) (by omega) (by omega)
      by_cases h4 : q = 0
      · have qz := nd_zero q h4
        simp (maxSteps := 4000000) (disch := first | omega | (simp only [List.length_set, List.length_replicate, List.length_append, List.length_take, List.length_drop, List.length_cons, List.length_nil]; omega)) only [go_sem, reduceCtorEq, Nat.reduceEqDiff, Nat.reduceAdd, Nat.reduceMul, Nat.reduceSub, ↓Nat.reduceBEq, Nat.reduceLT, Nat.reduceLeDiff, Int.reduceLT, Int.reduceLE, Int.reduceNeg, Int.reduceToNat, zS_neg, zS_pos, mode_158, hd, qz]
        rw [hw, e.1, e.2, h4, zS_pos r d3]; rfl
      · have qp := nd_pos q h4
        simp (maxSteps := 4000000) (disch := first | omega | (simp only [List.length_set, List.length_replicate, List.length_append, List.length_take, List.length_drop, List.length_cons, List.length_nil]; omega)) only [go_sem, reduceCtorEq, Nat.reduceEqDiff, Nat.reduceAdd, Nat.reduceMul, Nat.reduceSub, ↓Nat.reduceBEq, Nat.reduceLT, Nat.reduceLeDiff, Int.reduceLT, Int.reduceLE, Int.reduceNeg, Int.reduceToNat, zS_neg, zS_pos, mode_158, hd]
        rw [hw, e.1, e.2, zS_pos r d3, zS_neg (-q) (by omega), show zD (-q) = zD q by simp [zD]]
    · have e := div_unique (x := x) (y := y) (q := q) (r := r) (by rw [show (y.natAbs : Int) = y by omega] at he; omega) (by omega) (by omega)
      simp (maxSteps := 4000000) (disch := first | omega | (simp only [List.length_set, List.length_replicate, List.length_append, List.length_take, List.length_drop, List.length_cons, List.length_nil]; omega)) only [go_sem, reduceCtorEq, Nat.reduceEqDiff, Nat.reduceAdd, Nat.reduceMul, Nat.reduceSub, ↓Nat.reduceBEq, Nat.reduceLT, Nat.reduceLeDiff, Int.reduceLT, Int.reduceLE, Int.reduceNeg, Int.reduceToNat, zS_pos, mode_158, hd]
      rw [hw, e.1, e.2, zS_pos q d1, zS_pos r d3]
set_option maxRecDepth 100000 in
theorem Div_zero [SpC] (x y : Int) (h0 : y = 0) : M X 133 [.agg [zS x, zD x], .agg [zS y, zD y]] = some (.tuple [.agg [zS 0, zD 0], .agg [zS 0, zD 0]]) := by
  refine M_of X (fn := Tryz.f133) Tryz.func133 rfl ok_133 mode_133 res_133 _ rfl _ ?_
  intro w hw
  have yz := nd_zero y h0
  simp (maxSteps := 4000000) (disch := first | omega | (simp only [List.length_set, List.length_replicate, List.length_append, List.length_take, List.length_drop, List.length_cons, List.length_nil]; omega)) only [go_sem, reduceCtorEq, Nat.reduceEqDiff, Nat.reduceAdd, Nat.reduceMul, Nat.reduceSub, ↓Nat.reduceBEq, Nat.reduceLT, Nat.reduceLeDiff, Int.reduceLT, Int.reduceLE, Int.reduceNeg, Int.reduceToNat, yz]
  rw [hw, zz_zero]
theorem gcd_step (m n : Nat) : Nat.gcd n (m % n) = Nat.gcd m n := by
  rw [Nat.gcd_comm m n, Nat.gcd_rec n m, Nat.gcd_comm]
theorem nd_natmono {m n : Nat} (h : m ≤ n) : nd (m : Int) ≤ nd (n : Int) := nd_mono (by omega)
set_option maxRecDepth 100000 in
set_option maxHeartbeats 1000000 in
theorem M_131 [SpC] (x y : Int) (hx : nd x < 2 ^ 28) (hy : nd y < 2 ^ 28) : M X 131 [.agg [zS x, zD x], .agg [zS y, zD y]] = some (.agg [zS (Int.gcd x y), zD (Int.gcd x y)]) := by
  refine M_of X (fn := Tryz.f131) Tryz.func131 rfl ok_131 mode_131 res_131 _ rfl _ ?_
  intro r hr
  have hof : ∀ x : Int, nd x < 2 ^ 28 → M X 126 [.bool false, zD x] = some (.agg [zS (x.natAbs : Int), zD (x.natAbs : Int)]) := by
    intro x hx
    have := ofZ false (digs x.natAbs) (x.natAbs : Int) (okd_nat x) (by rw [len_nd]; omega) (by rw [val_nat]; simp)
    rwa [← zD_eq] at this
  have ox := hof x hx
  have oy := hof y hy
  simp (maxSteps := 4000000) (disch := first | omega | (simp only [List.length_set, List.length_replicate, List.length_append, List.length_take, List.length_drop, List.length_cons, List.length_nil]; omega)) only [go_sem, reduceCtorEq, Nat.reduceEqDiff, Nat.reduceAdd, Nat.reduceMul, Nat.reduceSub, ↓Nat.reduceBEq, Nat.reduceLT, Nat.reduceLeDiff, Int.reduceLT, Int.reduceLE, Int.reduceNeg, Int.reduceToNat, mode_126, ox, oy]
  refine W_loop X (fun (n : Nat) s => s.env 4 = .ptr 16 0 ∧ s.env 5 = .ptr 72 0 ∧ s.env 6 = .ptr 80 0 ∧ 80 < s.next ∧ s.heap 16 = some (.cells [.bool false, .ro [] 0 false] false false) ∧ ∃ m : Nat, s.heap 72 = some (.cells [zS m, zD m] false false) ∧ s.heap 80 = some (.cells [zS n, zD n] false false) ∧ nd m < 2 ^ 28 ∧ nd n < 2 ^ 28 ∧ Nat.gcd m n = Int.gcd x y) (fun n => n) ?_ y.natAbs _ ?_
  · rintro n ⟨env, heap, nx⟩ ⟨g4, g5, g6, hnx, h16, m, h72, h80, hm, hn, hg⟩
    simp only at g4 g5 g6 hnx h16 h72 h80
    by_cases h0 : n = 0
    · have nz := nd_zero (n : Int) (by omega)
      simp (maxSteps := 4000000) (disch := first | omega | (simp only [List.length_set, List.length_replicate, List.length_append, List.length_take, List.length_drop, List.length_cons, List.length_nil]; omega)) only [go_sem, reduceCtorEq, Nat.reduceEqDiff, Nat.reduceAdd, Nat.reduceMul, Nat.reduceSub, ↓Nat.reduceBEq, Nat.reduceLT, Nat.reduceLeDiff, Int.reduceLT, Int.reduceLE, Int.reduceNeg, Int.reduceToNat, g4, g5, g6, h16, h72, h80, nz]
      rw [h0, Nat.gcd_zero_right] at hg
      rw [hr, ← hg]
    · have np := nd_pos (n : Int) (by omega)
      by_cases h1 : m < 1000000000000000000 ∧ n < 1000000000000000000
      · have t1 := two_lt (m : Int) (by omega)
        have t2 := two_lt (n : Int) (by omega)
        rw [Int.natAbs_natCast] at t1 t2
        simp (maxSteps := 4000000) (disch := first | omega | (simp only [List.length_set, List.length_replicate, List.length_append, List.length_take, List.length_drop, List.length_cons, List.length_nil]; omega)) only [go_sem, reduceCtorEq, Nat.reduceEqDiff, Nat.reduceAdd, Nat.reduceMul, Nat.reduceSub, ↓Nat.reduceBEq, Nat.reduceLT, Nat.reduceLeDiff, Int.reduceLT, Int.reduceLE, Int.reduceNeg, Int.reduceToNat, g4, g5, g6, h16, h72, h80, mode_157, t1, t2]
        refine W_loop X (fun (n : Nat) s => s.env 4 = .ptr 16 0 ∧ 80 < s.next ∧ s.heap 16 = some (.cells [.bool false, .ro [] 0 false] false false) ∧ ∃ m : Nat, s.env 7 = .int .i64 m ∧ s.env 9 = .int .i64 n ∧ m < 1000000000000000000 ∧ n < 1000000000000000000 ∧ Nat.gcd m n = Int.gcd x y) (fun n => n) ?_ n _ ?_
        · clear g4 g5 g6 hnx h16 h72 h80 t1 t2 hm hn np h0 h1 hg
          rintro n' ⟨env, heap, nx⟩ ⟨g4, hnx, h16, m', g7, g9, hm, hn, hg⟩
          simp only at g4 hnx h16 g7 g9
          by_cases h2 : n' = 0
          · rw [h2, Nat.gcd_zero_right] at hg
            have u1 := unsZ (m' : Int) (by omega) (by omega)
            simp (maxSteps := 4000000) (disch := first | omega | (simp only [List.length_set, List.length_replicate, List.length_append, List.length_take, List.length_drop, List.length_cons, List.length_nil]; omega)) only [go_sem, reduceCtorEq, Nat.reduceEqDiff, Nat.reduceAdd, Nat.reduceMul, Nat.reduceSub, ↓Nat.reduceBEq, Nat.reduceLT, Nat.reduceLeDiff, Int.reduceLT, Int.reduceLE, Int.reduceNeg, Int.reduceToNat, g4, g7, g9, h16, mode_134, u1]
            rw [hr, ← hg]
          · have hlt := Nat.mod_lt m' (show 0 < n' by omega)
            simp (maxSteps := 4000000) (disch := first | omega | (simp only [List.length_set, List.length_replicate, List.length_append, List.length_take, List.length_drop, List.length_cons, List.length_nil]; omega)) only [go_sem, reduceCtorEq, Nat.reduceEqDiff, Nat.reduceAdd, Nat.reduceMul, Nat.reduceSub, ↓Nat.reduceBEq, Nat.reduceLT, Nat.reduceLeDiff, Int.reduceLT, Int.reduceLE, Int.reduceNeg, Int.reduceToNat, g4, g7, g9, h16]
            exact ⟨m' % n', ⟨by omega, n', rfl, rfl, hn, by omega, by rw [gcd_step, hg]⟩, by omega⟩
        · simp (maxSteps := 4000000) (disch := first | omega | (simp only [List.length_set, List.length_replicate, List.length_append, List.length_take, List.length_drop, List.length_cons, List.length_nil]; omega)) only [go_sem, reduceCtorEq, Nat.reduceEqDiff, Nat.reduceAdd, Nat.reduceMul, Nat.reduceSub, ↓Nat.reduceBEq, Nat.reduceLT, Nat.reduceLeDiff, Int.reduceLT, Int.reduceLE, Int.reduceNeg, Int.reduceToNat, g4, h16]
          exact ⟨by omega, m, rfl, h1.1, h1.2, hg⟩
      · have hd := M_158 m n hm hn (by omega)
        rw [Int.natAbs_natCast, Int.natAbs_natCast] at hd
        have hlt := Nat.mod_lt m (show 0 < n by omega)
        have hno : ∃ b1 b2 z1 z2, M X 157 [zD (m : Int)] = some (.tuple [.int .i64 z1, .bool b1]) ∧ M X 157 [zD (n : Int)] = some (.tuple [.int .i64 z2, .bool b2]) ∧ (b1 = false ∨ b2 = false) := by
          by_cases h2 : m < 1000000000000000000
          · exact ⟨_, _, _, _, two_lt m (by omega), two_ge n (by omega) (by omega), .inr rfl⟩
          · by_cases h3 : n < 1000000000000000000
            · exact ⟨_, _, _, _, two_ge m (by omega) (by omega), two_lt n (by omega), .inl rfl⟩
            · exact ⟨_, _, _, _, two_ge m (by omega) (by omega), two_ge n (by omega) (by omega), .inl rfl⟩
        obtain ⟨b1, b2, z1, z2, t1, t2, hb⟩ := hno
        rcases hb with rfl | rfl
        · simp (maxSteps := 4000000) (disch := first | omega | (simp only [List.length_set, List.length_replicate, List.length_append, List.length_take, List.length_drop, List.length_cons, List.length_nil]; omega)) only [go_sem, reduceCtorEq, Nat.reduceEqDiff, Nat.reduceAdd, Nat.reduceMul, Nat.reduceSub, ↓Nat.reduceBEq, Nat.reduceLT, Nat.reduceLeDiff, Int.reduceLT, Int.reduceLE, Int.reduceNeg, Int.reduceToNat, g4, g5, g6, h16, h72, h80, mode_157, mode_158, t1, t2, hd]
          exact ⟨m % n, ⟨by omega, n, rfl, rfl, hn, Nat.lt_of_le_of_lt (nd_natmono (by omega)) hn, by rw [gcd_step, hg]⟩, by omega⟩
        · cases b1
          all_goals
            simp (maxSteps := 4000000) (disch := first | omega | (simp only [List.length_set, List.length_replicate, List.length_append, List.length_take, List.length_drop, List.length_cons, List.length_nil]; omega)) only [go_sem, reduceCtorEq, Nat.reduceEqDiff, Nat.reduceAdd, Nat.reduceMul, Nat.reduceSub, ↓Nat.reduceBEq, Nat.reduceLT, Nat.reduceLeDiff, Int.reduceLT, Int.reduceLE, Int.reduceNeg, Int.reduceToNat, g4, g5, g6, h16, h72, h80, mode_157, mode_158, t1, t2, hd]
            exact ⟨m % n, ⟨by omega, n, rfl, rfl, hn, Nat.lt_of_le_of_lt (nd_natmono (by omega)) hn, by rw [gcd_step, hg]⟩, by omega⟩
  · simp (maxSteps := 4000000) (disch := first | omega | (simp only [List.length_set, List.length_replicate, List.length_append, List.length_take, List.length_drop, List.length_cons, List.length_nil]; omega)) only [go_sem, reduceCtorEq, Nat.reduceEqDiff, Nat.reduceAdd, Nat.reduceMul, Nat.reduceSub, ↓Nat.reduceBEq, Nat.reduceLT, Nat.reduceLeDiff, Int.reduceLT, Int.reduceLE, Int.reduceNeg, Int.reduceToNat]
    exact ⟨x.natAbs, rfl, by rw [nd_nat]; exact hx, by rw [nd_nat]; exact hy, rfl⟩
end Go.Proofs.YtjccikgdebgebaaGreatDoor.Abs
end
