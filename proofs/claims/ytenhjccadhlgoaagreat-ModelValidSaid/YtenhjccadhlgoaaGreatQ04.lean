/-
  Lists of ints in memory: loads and stores of theirs. No conditions. The rules of the walk, put together. No conditions. Package integer: lists of digits; what of, compare and their kin answer. No conditions. Package integer: sums and differences of digits. No conditions. Package integer: differences of digits; sums. No conditions. Package integer: sums of integers, by value. No conditions. Package integer: two, and products of integers, by value. No conditions. Package integer: short and scaled: digits by a digit. No conditions. Long division of digits: the estimate of a digit of the quotient, in plain numbers. No conditions. Long division of digits: one round on lists of digits. No conditions. Long division of digits: taking away, adding back, one whole round. No conditions. Package integer: long, the division by at least two digits. No conditions.
-/
import Derived.Test.YtenhjccadhlgoaaGreatQ02
import Derived.Test.YtenhjccadhlgoaaGreatQ03
set_option linter.unusedSimpArgs false
set_option linter.unusedVariables false
set_option maxRecDepth 100000
set_option maxHeartbeats 16000000
namespace Go.Proofs.YtenhjccadhlgoaaGreat.Abs
open Go
theorem ld1_ints (l : List Int) (k : Nat) (rd : List Nat) (hk : k < l.length) : ld1 (some (List.drop k (ints l), rd)) = some (.loc ⟨.int .i64 (l.getD k 0), rd, []⟩) := by
 rw [ints_drop_cons l k hk]; rfl
theorem ixS_isl (l : List Int) (n : Int) (hn : 0 ≤ n ∧ n < l.length) : ixS 1 (isl l) n = some (.loc ⟨.rptr (List.drop n.toNat (ints l)), [], []⟩) := by
 simp only [ixS, isl_def, hn, and_self, if_true, valE, Nat.mul_one]
theorem ixS_ro (cs : List AV) (len : Nat) (f : Bool) (s : Nat) (n : Int) (hn : 0 ≤ n ∧ n < len) : ixS s (.ro cs len f) n = some (.loc ⟨.rptr (List.drop (n.toNat * s) cs), [], []⟩) := if_pos hn
theorem ixS_sl (b off len s : Nat) (c : Option Nat) (n : Int) (hn : 0 ≤ n ∧ n < len) : ixS s (.sl b off len c s) n = some (.loc ⟨.ptr b (off + n.toNat * s), [], []⟩) := if_pos ⟨hn.1, hn.2, rfl⟩
theorem splice_ints (l : List Int) (n : Nat) (d : Int) (h : n < l.length) : splice (ints l) n [.int .i64 d] = ints (l.set n d) := ints_splice l n d h
theorem splice_full (l m : List Int) (h : m.length = l.length) : splice (ints l) 0 (ints m) = ints m := by
 simp only [splice, List.take_zero, List.nil_append, ints_drop, ints_length, Nat.zero_add]
 rw [List.drop_of_length_le (by omega)]; simp [ints]
theorem replA_int (n : Nat) (d : Int) : replA n [.int .i64 d] = ints (List.replicate n d) := by
 induction n with
 | zero => rfl
 | succ n ih => rw [List.replicate_succ, ints_cons, ← ih]; rfl
theorem ro_ints (l : List Int) : AV.ro (ints l) l.length false = isl l := nr rfl
theorem M_ex [SpC] {f : FuncId} {fn : Func} {c : Code} {md : CMode} {rs : List ResultVar} (hf : X.P.funcs[f]? = some fn) (hb : fn.body = some c) (hok : funcOk fn = true) (hm : X.mode f = md) (hr : fn.results.toList = rs)
  (args : List AV) (hl : (args.length == fn.params.size + fn.nfree) = true) (Q : AV → Prop) (h : @W X ⟨c⟩ ⟨argEnv args, emptyHeap, 0⟩ (outR X md rs Q)) (hns : md.isSpec = false := by rfl) : ∃ r, Q r ∧ M X f args = some r := by
 have key : ∃ r, Q r ∧ @W X ⟨c⟩ ⟨argEnv args, emptyHeap, 0⟩ (outR X md rs (· = r)) := by
  obtain ⟨e, s, h1, h4⟩ := h
  cases e with
  | exit i => exact h4.elim
  | normal => obtain ⟨vs, h5, v, h6, h7⟩ := h4; exact ⟨v, h7, _, s, h1, vs, h5, v, h6, rfl⟩
  | ret => obtain ⟨vs, h5, v, h6, h7⟩ := h4; exact ⟨v, h7, _, s, h1, vs, h5, v, h6, rfl⟩
 obtain ⟨r, h1, h2⟩ := key
 exact ⟨r, h1, M_of X hf hb hok hm hr args hl r (fun r' hr' => hr' ▸ h2) hns⟩
theorem ints_snoc (l : List Int) (d : Int) : ints l ++ [.int .i64 d] = ints (l ++ [d]) := by simp [ints]
def Grow (lo : Nat) (h : Heap) (nx : Nat) (v : AV) (o : List Int) : Prop := (v = .ro [] 0 true ∧ o = []) ∨ ∃ B, (lo ≤ B ∧ B < nx) ∧ v = .sl B 0 o.length none 1 ∧ h B = some (.cells (ints o) true false)
theorem grow_nil (lo : Nat) (h : Heap) (nx : Nat) : Grow lo h nx (.ro [] 0 true) [] := .inl ⟨rfl, rfl⟩
theorem grow_one (lo : Nat) (h : Heap) (nx b : Nat) (d : Int) (hb : lo ≤ b ∧ b < nx) : Grow lo (upd h b (some (.cells [.int .i64 d] true false))) nx (.sl b 0 1 none 1) [d] := .inr ⟨b, hb, rfl, by simp [upd_apply, ints]⟩
theorem grow_app (lo : Nat) (h : Heap) (nx b n : Nat) (o : List Int) (d : Int) (hb : lo ≤ b ∧ b < nx) (hn : n = o.length + 1) : Grow lo (upd h b (some (.cells (ints (o ++ [d])) true false))) nx (.sl b 0 n none 1) (o ++ [d]) := .inr ⟨b, hb, by simp [hn], by simp [upd_apply]⟩
theorem ro_isl (l : List Int) (n : Nat) (h : n = l.length) : AV.ro (ints l) n false = isl l := by subst h; rfl
theorem bb_tt : (true == true) = true := nr rfl
theorem bb_tf : (true == false) = false := nr rfl
theorem bb_ft : (false == true) = false := nr rfl
theorem bb_ff : (false == false) = true := nr rfl
theorem rep0 {α : Type} (a : α) : List.replicate 0 a = [] := nr rfl
theorem rep1 {α : Type} (a : α) : List.replicate 1 a = [a] := nr rfl
theorem rep2 {α : Type} (a : α) : List.replicate 2 a = [a, a] := nr rfl
theorem rep3 {α : Type} (a : α) : List.replicate 3 a = [a, a, a] := nr rfl
theorem rep4 {α : Type} (a : α) : List.replicate 4 a = [a, a, a, a] := nr rfl
theorem rep5 {α : Type} (a : α) : List.replicate 5 a = [a, a, a, a, a] := nr rfl
theorem rep6 {α : Type} (a : α) : List.replicate 6 a = [a, a, a, a, a, a] := nr rfl
def zS (z : Int) : AV := .bool (decide (z < 0))
def zD (z : Int) : AV := isl (digs z.natAbs)
theorem zS_eq (z : Int) : zS z = .bool (decide (z < 0)) := nr rfl
theorem zD_eq (z : Int) : zD z = isl (digs z.natAbs) := nr rfl
theorem zS_neg (z : Int) (h : z < 0) : zS z = .bool true := by simp [zS, h]
theorem zS_pos (z : Int) (h : 0 ≤ z) : zS z = .bool false := by simp [zS]; omega
theorem weak_zS (z : Int) : (zS z).weak = zS z := weak_bool _
theorem weak_zD (z : Int) : (zD z).weak = zD z := weak_isl _
theorem cells_zS (z : Int) : (zS z).cells = [zS z] := nr rfl
theorem cells_zD (z : Int) : (zD z).cells = [zD z] := nr rfl
theorem tupleB_zS (z : Int) : (zS z).tupleB = false := nr rfl
theorem tupleB_zD (z : Int) : (zD z).tupleB = false := nr rfl
theorem snap_zS (h : Heap) (d : Nat) (z : Int) : snap h (d + 1) (zS z) = some (zS z, []) := nr rfl
theorem snap_zD (h : Heap) (d : Nat) (z : Int) : snap h (d + 1) (zD z) = some (zD z, []) := nr rfl
theorem inst1_zS (id j : Nat) (z : Int) : inst1 id j (zS z) = some (zS z, [], j) := nr rfl
theorem inst1_zD (id j : Nat) (z : Int) : inst1 id j (zD z) = some (zD z, [], j) := nr rfl
theorem nrf_zS (z : Int) : (zS z).noRef = true := nr rfl
theorem scl_zS (z : Int) : (zS z).scal = true := nr rfl
theorem scl_zD (z : Int) : (zD z).scal = false := nr rfl
theorem nrf_zD (z : Int) : (zD z).noRef = false := nr rfl
def nd (z : Int) : Nat := (digs z.natAbs).length
theorem lenS_zD (z : Int) : lenS (zD z) = some (.int .i64 (nd z)) := nr rfl
theorem nd_zero (z : Int) (h : z = 0) : nd z = 0 := by subst h; simp [nd, digs_zero]
theorem nd_pos (z : Int) (h : z ≠ 0) : 0 < nd z := by rw [nd, digs_pos _ (by omega)]; simp
theorem zz_nil : AV.ro [] 0 false = zD 0 := by simp [zD, digs_zero, isl, ints]
theorem zz_false : AV.bool false = zS 0 := by simp [zS]
attribute [go_sem ↓] PN_some PN_none PN_nx PN_mp nx_some nx_none mp_some mp_none guardedOp_true guardedOp_false
attribute [go_sem] W_seq W_block W_scope W_skip W_label W_ret W_exit W_cond W_text W_draw RT_nil RT_cons RT_guard RE_nil RE_cons RE_guard RK_pure RK_rd RK_wr RK_glob seqQ_normal seqQ_ret seqQ_exit blkQ_normal blkQ_ret blkQ_exit cndQ_true cndQ_false lpQ_normal lpQ_ret
attribute [go_sem] lpQ_exit norQ_normal afterD_loc afterD_glob gdst_zero gdst_succ wantT_some wantT_none wantB_t wantB_f wantB_u clashes_nil clashes_cons clashE_f clashE_t clashE_n clash1 edges_list Region.binds List.map_nil List.map_cons upd_sel sel_true sel_false beq_no beq_yes evalA_tmp evalA_const evalA_global evalA_func const_bool const_int const_str
attribute [go_sem] const_ptr const_slice const_map const_func const_iface evalsA_nil evalsA_cons optA_none optA_some partsA_nil partsA_cons putEnv_some putEnv_none applyWr_nil applyWr_cons valE_eq argEnv_eq getD_zero getD_succ pickA_true pickA_false pickA_bools nilA_ptr nilA_rptr nilA_func exA_zero exA_succ callA_plain callA_func op_move
attribute [go_sem] op_assign op_pick op_alloc op_box op_build op_buildSlice op_load op_store op_nilCheck op_binOp op_unOp op_convert op_makeFunc op_makeSlice op_slice op_slice3 op_fieldAddr op_field op_indexAddr op_index op_extract op_len op_append op_copy op_min op_max op_call min2A_int max2A_int bin_add
attribute [go_sem] bin_sub bin_mul bin_quo bin_rem bin_eql bin_neq bin_lss bin_leq bin_gtr bin_geq bin_shl bin_shr un_neg un_not cellsAt_rptr cellsAt_ptr cellsO_some tupleB_int tupleB_bool tupleB_ro tupleB_isl tupleB_agg tupleB_sl tupleB_ptr tupleB_rptr tupleB_func tupleB_str cells_int cells_bool cells_ro
attribute [go_sem] cells_isl cells_agg cells_sl cells_ptr cells_rptr cells_func cells_str aBox_eq st1_eq ldn_eq splice_ints splice_eq fillA_nil fillA_cons fillP_some plOf_zero plOf_succ plEv_eq blS_eq bsS_eq ixA_rptr ixA_ptr loadRess_nil loadRess_cons loadRes_tmp valOf_loc loadRes_cell weak_zS weak_zD cells_zS
attribute [go_sem] cells_zD tupleB_zS tupleB_zD snap_zS snap_zD inst1_zS inst1_zD lenS_zD weak_bool weak_int weak_ro weak_agg weak_tuple weak_fresh weak_func weak_str weak_nilptr weak_nilfunc weakgo_nil weakgo_cons weaks_ints weak_isl ld1_cons stS_ptr lenS_ro lenS_sl lenS_isl sliS_isl sliS_islm boundA_none
attribute [go_sem] slcX_ro slcX_isl slcX_sl slcX_rptr slcX_str slcX_ptr slP_eq slPO_some slR_eq slRC_eq boundA_nat sliS_sl sliS_slm slice_sl0 slice_sl0e slice_slc slice_slce sliS_ro slice_ro slice_isl slice_islm faS_ptr faS_rptr fdS_leaf fdS_agg mkS_int src_sl srcO_some src_isl src_ro cpD_sl cpD_ro cpO_some apS_eq apD_ro apD_sl apO_cap apO_open splice_full ints_app
attribute [go_sem] ints_snoc ld1_ints ixS_isl ixS_ro ixS_sl replA_int inst_bool inst_int inst_ro inst_isl inst_tuple inst_agg inst_fresh insts_nil insts_cons inst1_bool inst1_int inst1_ro inst1_isl inst1_agg inst1_nil inst1_fresh aCall_eq callS_ro callS_top callS_spec callS_inl callS_none frz_eq frzL_nil
attribute [go_sem] frzL_true frzL_false frzO_t frzO_f frozen_some frozen_none nrf_int nrf_bool nrf_ro nrf_isl nrf_agg nrf_tuple nrf_nil nrf_cons nrf_zS nrf_zD nrf_ints nrf_fresh scl_int scl_bool scl_ro scl_isl scl_agg scl_tuple scl_fresh scl_zS scl_zD outR_ret outR_normal oneV_one oneV_nil oneV_two outM_ro outM_top snap_int snap_bool snap_ro snap_isl snap_agg snap_tuple snap_sl snap_ptr snapP_some
attribute [go_sem] snap_rptr snap_func snaps_nil snaps_cons snaps_ints List.getElem?_toArray List.getElem?_cons_zero List.getElem?_cons_succ List.length_cons List.length_nil List.nil_append List.cons_append List.append_nil List.append_assoc Bool.false_eq_true if_true if_false List.drop_zero List.drop_succ_cons List.drop_nil List.take_zero List.take_succ_cons and_true true_and not_true_eq_false not_false_eq_true and_self or_false false_or or_true
attribute [go_sem] true_or List.any_nil List.any_cons List.contains_nil List.contains_cons Bool.or_false Bool.and_self Bool.not_false Bool.and_true Bool.true_and Bool.false_and Bool.and_false Bool.false_or Bool.or_true Bool.true_or true_implies false_implies implies_true Option.isSome_some Option.isSome_none Option.isNone_some Option.isNone_none ints_length decide_true decide_false Bool.not_true Int.lt_irrefl Int.natCast_zero Int.natCast_pos Bool.true_eq_false
attribute [go_sem] Bool.not_eq_true Bool.not_eq_false Nat.lt_irrefl Bool.decide_eq_true eq_self Int.toNat_natCast Int.natCast_nonneg Nat.zero_le Nat.sub_zero Nat.mul_one Nat.le_refl Nat.zero_mul Nat.zero_add ints_take Int.toNat_zero up_add up_one up_sub up_pred up_two Nat.add_sub_cancel IntWalk.i64_in IntWalk.u64_in IntWalk.u8_in IntWalk.u32_in IntWalk.i64_quo IntWalk.u64_quo IntWalk.u32_quo IntWalk.rem_in rep0
attribute [go_sem] rep1 rep2 rep3 rep4 rep5 rep6 ints_cons ints_nil if_pos if_neg decide_eq_true decide_eq_false List.length_replicate Nat.min_self List.take_length List.length_set List.length_append bb_tt bb_tf bb_ft bb_ff List.take_of_length_le ro_isl
attribute [go_sem] reduceCtorEq Nat.reduceEqDiff Nat.reduceAdd Nat.reduceMul Nat.reduceSub Nat.reduceLT Nat.reduceLeDiff Int.reduceLT Int.reduceLE Int.reduceNeg Int.reduceToNat
attribute [go_sem ↓] Nat.reduceBEq
theorem LL : (∀ {α : Type} (l : List α) (i : Nat) (x : α), (l.set i x).length = l.length) ∧ (∀ {α : Type} (n : Nat) (x : α), (List.replicate n x).length = n) ∧ (∀ {α : Type} (a b : List α), (a ++ b).length = a.length + b.length) ∧ (∀ {α : Type} (n : Nat) (l : List α), (l.take n).length = min n l.length) ∧ (∀ {α : Type} (n : Nat) (l : List α), (l.drop n).length = l.length - n) ∧ (∀ {α : Type} (x : α) (l : List α), (x :: l).length = l.length + 1) ∧ (∀ {α : Type}, ([] : List α).length = 0) := by
 refine ⟨?_, ?_, ?_, ?_, ?_, ?_, ?_⟩ <;> intros <;> simp
theorem getD_get (l : List Int) (n : Nat) (h : n < l.length) : l.getD n 0 = l[n] := by
 simp [List.getD_eq_getElem?_getD, List.getElem?_eq_getElem h]
def aI (neg : Bool) (d : List Int) : List AV := [.bool (neg && !d.isEmpty), isl d]
theorem M_154 [SpC] (neg : Bool) (l : List Int) (hl : l.length < 2 ^ 40) : M X 154 [.bool neg, isl l] = some (.agg (aI neg (trim l))) := by
 refine M_of X (fn := Tryz.f154) Tryz.func154 rfl ok_154 mode_154 res_154 _ rfl _ ?_
 intro r hr
 simp (disch := omega) only [go_sem]
 refine W_loop X (fun (n : Nat) s => n ≤ l.length ∧ s.env 0 = .bool neg ∧ s.env 1 = isl l ∧ s.env 4 = .ptr 0 0 ∧ s.env 5 = .int .i64 n ∧ s.heap 0 = some (.cells [AV.bool false, AV.ro [] 0 false] false false) ∧ trim (l.take n) = trim l) (fun n => n) ?_ l.length _ ?_
 ·rintro n ⟨env, heap, next⟩ ⟨hn, h0, h1, h4, h5, hh, ht⟩
  simp only at h0 h1 h4 h5 hh
  obtain _ | m := n
  ·simp (disch := omega) only [go_sem, h0, h1, h4, h5, hh]
   simp [hr, aI, ← ht, trim_nil, isl, ints]
  ·by_cases hz : l.getD m 0 = 0
   ·simp (disch := omega) only [go_sem, h0, h1, h4, h5, hh, hz]
    exact ⟨m, ⟨by omega, rfl, by rw [← ht, trim_zero l m hn hz]⟩, by omega⟩
   ·simp (disch := omega) only [go_sem, h0, h1, h4, h5, hh, hz]
    have he : (l.take (m + 1)).isEmpty = false := by
     cases l with
     | nil => simp at hn
     | cons a l => rfl
    rw [hr, ← ht, trim_keep l m hn hz, aI, he]
    simp [isl]
 ·simp [argEnv, upd_apply, emptyHeap]
theorem M_195 [SpC] (a : Int) : M X 195 [.int .i64 a] = some (.bool false) := by
 refine M_of X (fn := Tryz.f195) Tryz.func195 rfl ok_195 mode_195 res_195 _ rfl _ ?_
 rintro _ rfl
 simp (disch := omega) only [go_sem]
theorem M_131 [SpC] (a b : Int) : M X 131 [.int .i64 a, .int .i64 b] = some (.int .i64 (if a < b then -1 else if b < a then 1 else 0)) := by
 refine M_of X (fn := Tryz.f131) Tryz.func131 rfl ok_131 mode_131 res_131 _ rfl _ ?_
 intro r hr
 by_cases h1 : a < b
 ·simp (disch := omega) only [go_sem, M_195]
  simp [hr, h1]
 ·by_cases h2 : b < a
  ·simp (disch := omega) only [go_sem, M_195]
   simp [hr, h1, h2]
  ·simp (disch := omega) only [go_sem, M_195]
   simp [hr, h1, h2]
theorem cmpD_step (a b : List Int) (n : Nat) (ha : n < a.length) (hb : n < b.length) : cmpD (a.drop n) (b.drop n) = if cmpD (a.drop (n + 1)) (b.drop (n + 1)) ≠ 0 then cmpD (a.drop (n + 1)) (b.drop (n + 1)) else if a.getD n 0 < b.getD n 0 then -1 else if b.getD n 0 < a.getD n 0 then 1 else 0 := by
 rw [List.drop_eq_getElem_cons ha, List.drop_eq_getElem_cons hb, cmpD, getD_get a n ha, getD_get b n hb]
theorem cmpD_drop (a b : List Int) : ∀ n, cmpD (a.drop n) (b.drop n) ≠ 0 → cmpD a b = cmpD (a.drop n) (b.drop n) := by
 induction a generalizing b with
 | nil => intro n h; simp [cmpD] at h
 | cons x a ih =>
  intro n h
  cases b with
  | nil => exfalso; apply h; rw [List.drop_nil]; cases (x :: a).drop n <;> rfl
  | cons y b =>
   cases n with
   | zero => rfl
   | succ n =>
    simp only [List.drop_succ_cons] at h ⊢
    rw [cmpD, ih b n h, if_pos h]
theorem M_156 [SpC] (a b : List Int) (ha : a.length < 2 ^ 40) (_ : b.length < 2 ^ 40) : M X 156 [isl a, isl b] = some (.int .i64 (cmpL a b)) := by
 refine M_of X (fn := Tryz.f156) Tryz.func156 rfl ok_156 mode_156 res_156 _ rfl _ ?_
 intro r hr
 by_cases hl : a.length = b.length
 ·simp (disch := omega) only [go_sem, M_131]
  refine W_loop X (fun (n : Nat) s => n ≤ a.length ∧ s.env 0 = isl a ∧ s.env 1 = isl b ∧ s.env 5 = .int .i64 ((n : Int) - 1) ∧ cmpD (a.drop n) (b.drop n) = 0) (fun n => n) ?_ a.length _ ?_
  ·rintro n ⟨env, heap, next⟩ ⟨hn, h0, h1, h5, hc⟩
   simp only at h0 h1 h5
   obtain _ | m := n
   ·simp (disch := omega) only [go_sem, M_131, h0, h1, h5]
    simp at hc
    simp [hr, cmpL, hl, hc]
   ·have hs := cmpD_step a b m (by omega) (by omega)
    rw [if_neg (by simp [hc])] at hs
    by_cases he : a.getD m 0 = b.getD m 0
    ·simp (disch := omega) only [go_sem, M_131, h0, h1, h5, he]
     refine ⟨m, ⟨by omega, rfl, ?_⟩, by omega⟩
     rw [hs, he]; simp
    ·simp (disch := omega) only [go_sem, M_131, h0, h1, h5, he]
     have hL : cmpL a b = cmpD a b := by simp [cmpL, hl]
     have hd : cmpD (a.drop m) (b.drop m) ≠ 0 := by rw [hs]; split <;> (try split) <;> omega
     rw [hr, hL, cmpD_drop a b m hd, hs]
     split
     ·rfl
     ·rw [if_pos (by omega)]
  ·refine ⟨Nat.le_refl _, ?_, ?_, ?_, ?_⟩ <;> simp [argEnv, upd_apply, cmpD]
 ·simp (disch := omega) only [go_sem, M_131]
  rw [hr, cmpL]
  rcases Nat.lt_or_ge a.length b.length with h | h
  ·rw [if_pos (by omega), if_pos h]
  ·rw [if_neg (by omega), if_neg (by omega), if_pos (by omega)]
theorem aI_eq (neg : Bool) (d : List Int) : aI neg d = [.bool (neg && !d.isEmpty), isl d] := nr rfl
theorem aI_digs (neg : Bool) (n : Nat) (z : Int) (h : z = if neg then -(n : Int) else n) : aI neg (digs n) = [zS z, zD z] := by
 subst h
 unfold aI zS zD
 by_cases h : n = 0
 ·subst h; simp [digs_zero]
 ·have h1 : (digs n).isEmpty = false := by rw [digs_pos n h]; rfl
  rw [h1]
  cases neg with
  | true => simp; omega
  | false => simp
theorem M_163 [SpC] (neg : Bool) (u : Int) (h0 : 0 ≤ u) (h1 : u < 2 ^ 64) : M X 163 [.bool neg, .int .u64 u] = some (.agg (aI neg (digs u.toNat))) := by
 refine M_of X (fn := Tryz.f163) Tryz.func163 rfl ok_163 mode_163 res_163 _ rfl _ ?_
 intro r hr
 by_cases h2 : u = 0
 ·simp (disch := omega) only [go_sem, h2]
  simp [hr, h2, digs_zero, aI, isl, ints]
 ·by_cases h3 : u < 1000000000
  ·simp (disch := omega) only [go_sem]
   rw [hr, digs_lt _ (by omega) (by simp only [Bn]; omega)]
   simp [aI, isl, ints, h0]; omega
  ·by_cases h4 : u < 1000000000 * 1000000000
   ·simp (disch := omega) only [go_sem]
    rw [hr, digs_two _ (by simp only [Bn]; omega) (by simp only [Bn]; omega)]
    simp [aI, isl, ints, h0]; omega
   ·simp (disch := omega) only [go_sem]
    rw [hr, digs_three _ (by simp only [Bn]; omega) (by simp only [Bn]; omega)]
    simp [aI, isl, ints, h0]; omega
theorem M_147 [SpC] (n : Int) (h : -9223372036854775808 ≤ n ∧ n ≤ 9223372036854775807) : M X 147 [.int .i64 n] = some (.agg [zS n, zD n]) := by
 refine M_of X (fn := Tryz.f147) Tryz.func147 rfl ok_147 mode_147 res_147 _ rfl _ ?_
 intro r hr
 by_cases hn : n < 0
 ·have hw : IntKind.u64.wrap (0 - IntKind.u64.wrap n) = -n := by
   simp [IntKind.wrap, IntKind.bits, IntKind.signed]; omega
  simp (disch := omega) only [go_sem, M_163, hw, aI_eq]
  rw [hr, ← aI_digs true (-n).toNat n (by simp; omega), aI, Bool.true_and]
 ·simp (disch := omega) only [go_sem, M_163, aI_eq]
  rw [hr, ← aI_digs false n.toNat n (by simp; omega), aI, Bool.false_and]
theorem M_220 [SpC] (z : Int) : M X 220 [.agg [zS z, zD z]] = some (.agg [zS (-z), zD (-z)]) := by
 refine M_of X (fn := Tryz.f220) Tryz.func220 rfl ok_220 mode_220 res_220 _ rfl _ ?_
 intro r hr
 have hn : zD (-z) = zD z := by simp [zD]
 rcases Int.lt_trichotomy z 0 with h | h | h
 ·have hp := nd_pos z (by omega)
  simp (disch := omega) only [go_sem, zS_neg]
  rw [hr, hn, zS_pos (-z) (by omega)]
 ·have hp := nd_zero z h
  simp (disch := omega) only [go_sem, zS_pos, hp]
  rw [hr, hn, zS_pos (-z) (by omega)]
 ·have hp := nd_pos z (by omega)
  simp (disch := omega) only [go_sem, zS_pos]
  rw [hr, hn, zS_neg (-z) (by omega)]
theorem M_135 [SpC] (z : Int) : M X 135 [.agg [zS z, zD z]] = some (.int .i64 (cmpZ z 0)) := by
 refine M_of X (fn := Tryz.f135) Tryz.func135 rfl ok_135 mode_135 res_135 _ rfl _ ?_
 intro r hr
 rcases Int.lt_trichotomy z 0 with h | h | h
 ·have hp := nd_pos z (by omega)
  simp (disch := omega) only [go_sem, zS_neg]
  rw [hr, cmpZ_lt h]
 ·have hp := nd_zero z h
  simp (disch := omega) only [go_sem, zS_pos, hp]
  rw [hr, h, cmpZ_self]
 ·have hp := nd_pos z (by omega)
  simp (disch := omega) only [go_sem, zS_pos]
  rw [hr, cmpZ_gt h]
theorem take_set_succ (l : List Int) (n : Nat) (d : Int) (h : n < l.length) : (l.set n d).take (n + 1) = l.take n ++ [d] := by
 rw [List.take_succ_eq_append_getElem (by simpa using h), List.take_set_of_le (by omega)]
 simp
theorem val_take_set (l : List Int) (n : Nat) (d : Int) (h : n < l.length) : val ((l.set n d).take (n + 1)) = val (l.take n) + Bz ^ n * d := by
 rw [take_set_succ l n d h, val_app, List.length_take, Nat.min_eq_left (by omega)]; simp [val]
def PlusI (a b : List Int) (B : Nat) (k : Nat) (s : St) : Prop :=
 k ≤ a.length ∧ s.env 0 = isl a ∧ s.env 1 = isl b ∧ s.env 21 = isl a ∧ s.env 22 = .int .i64 a.length ∧ s.env 23 = .int .i64 k ∧
 s.env 5 = .sl B 0 (a.length + 1) (some (a.length + 1)) 1 ∧
 ∃ (c : Int) (out : List Int), (c = 0 ∨ c = 1) ∧ s.env 6 = .int .i64 c ∧ s.heap B = some (.cells (ints out) false false) ∧ out.length = a.length + 1 ∧ okd out ∧
  val (out.take k) + Bz ^ k * c = val (a.take k) + val (b.take k)
theorem M_155 [SpC] (a b : List Int) (ha : a.length < 2 ^ 30) (hb : b.length < 2 ^ 30) (oa : okd a) (ob : okd b) :
  ∃ out, M X 155 [isl a, isl b] = some (isl out) ∧ okd out ∧ val out = val a + val b ∧ out.length ≤ a.length + b.length + 1 := by
 suffices h : ∃ r, (∃ out, r = isl out ∧ okd out ∧ val out = val a + val b ∧ out.length ≤ a.length + b.length + 1) ∧ M X 155 [isl a, isl b] = some r by
  obtain ⟨r, ⟨out, rfl, h1⟩, h2⟩ := h
  exact ⟨out, h2, h1⟩
 refine M_ex (fn := Tryz.f155) Tryz.func155 rfl ok_155 mode_155 res_155 _ rfl _ ?_
 simp (disch := omega) only [go_sem]
 refine cnd_cut X (fun s => ∃ a' b' : List Int, s.env 0 = isl a' ∧ s.env 1 = isl b' ∧ b'.length ≤ a'.length ∧ okd a' ∧ okd b' ∧ a'.length < 2 ^ 30 ∧ a'.length ≤ a.length + b.length ∧ val a' + val b' = val a + val b) ?_ ?_ ?_
 ·rintro ⟨env, heap, next⟩ ⟨a', b', h0, h1, hl, oa', ob', hn, hm, hv⟩
  simp only at h0 h1
  simp (disch := omega) only [go_sem, h0, h1]
  refine W_loop X (PlusI a' b' (next + 24)) (fun k => a'.length + 1 - k) ?_ 0 _ ?_
  ·rintro k ⟨env, heap, nx⟩ ⟨hk, g0, g1, g21, g22, g23, g5, c, out, hc, g6, gh, ho, oo, hv2⟩
   simp only at g0 g1 g21 g22 g23 g5 g6 gh
   have hc' : 0 ≤ c ∧ c ≤ 1 := by omega
   have ka := okd_getD oa' k
   have kb := okd_getD ob' k
   simp only [Bz] at ka kb
   by_cases h2 : k < a'.length
   ·by_cases h3 : k < b'.length
    ·by_cases h4 : 1000000000 ≤ a'.getD k 0 + c + b'.getD k 0
     ·simp (disch := omega) only [go_sem, g0, g1, g21, g22, g23, g5, g6, gh, ho]
      have hp : Bz ^ (k + 1) = Bz ^ k * Bz := Int.pow_succ Bz k
      refine ⟨k + 1, ⟨by omega, ?_, ?_, ?_, ?_, ?_, ?_, 1, out.set k (a'.getD k 0 + c + b'.getD k 0 - 1000000000), by omega, ?_, ?_, ?_, ?_, ?_⟩, by omega⟩
      all_goals try simp [upd_apply, g0, g1, g21, g22, g5, ho, -List.getD_eq_getElem?_getD]
      ·exact okd_set oo k _ (by simp only [Bz]; omega)
      ·have e1 := val_take_succ a' k h2
       have e2 := val_take_succ b' k h3
       rw [val_take_set out k _ (by omega)]
       grind
     ·simp (disch := omega) only [go_sem, g0, g1, g21, g22, g23, g5, g6, gh, ho]
      have hp : Bz ^ (k + 1) = Bz ^ k * Bz := Int.pow_succ Bz k
      refine ⟨k + 1, ⟨by omega, ?_, ?_, ?_, ?_, ?_, ?_, 0, out.set k (a'.getD k 0 + c + b'.getD k 0), by omega, ?_, ?_, ?_, ?_, ?_⟩, by omega⟩
      all_goals try simp [upd_apply, g0, g1, g21, g22, g5, ho, -List.getD_eq_getElem?_getD]
      ·exact okd_set oo k _ (by simp only [Bz]; omega)
      ·have e1 := val_take_succ a' k h2
       have e2 := val_take_succ b' k h3
       rw [val_take_set out k _ (by omega)]
       grind
    ·by_cases h4 : 1000000000 ≤ a'.getD k 0 + c
     ·simp (disch := omega) only [go_sem, g0, g1, g21, g22, g23, g5, g6, gh, ho]
      have hp : Bz ^ (k + 1) = Bz ^ k * Bz := Int.pow_succ Bz k
      refine ⟨k + 1, ⟨by omega, ?_, ?_, ?_, ?_, ?_, ?_, 1, out.set k (a'.getD k 0 + c - 1000000000), by omega, ?_, ?_, ?_, ?_, ?_⟩, by omega⟩
      all_goals try simp [upd_apply, g0, g1, g21, g22, g5, ho, -List.getD_eq_getElem?_getD]
      ·exact okd_set oo k _ (by simp only [Bz]; omega)
      ·have e1 := val_take_succ a' k h2
       have e2 := show val (b'.take (k + 1)) = val (b'.take k) from by rw [List.take_of_length_le (by omega), List.take_of_length_le (by omega)]
       rw [val_take_set out k _ (by omega)]
       grind
     ·simp (disch := omega) only [go_sem, g0, g1, g21, g22, g23, g5, g6, gh, ho]
      have hp : Bz ^ (k + 1) = Bz ^ k * Bz := Int.pow_succ Bz k
      refine ⟨k + 1, ⟨by omega, ?_, ?_, ?_, ?_, ?_, ?_, 0, out.set k (a'.getD k 0 + c), by omega, ?_, ?_, ?_, ?_, ?_⟩, by omega⟩
      all_goals try simp [upd_apply, g0, g1, g21, g22, g5, ho, -List.getD_eq_getElem?_getD]
      ·exact okd_set oo k _ (by simp only [Bz]; omega)
      ·have e1 := val_take_succ a' k h2
       have e2 := show val (b'.take (k + 1)) = val (b'.take k) from by rw [List.take_of_length_le (by omega), List.take_of_length_le (by omega)]
       rw [val_take_set out k _ (by omega)]
       grind
   ·simp (disch := omega) only [go_sem, g0, g1, g21, g22, g23, g5, g6, gh, ho]
    have hk' : k = a'.length := by omega
    subst hk'
    try simp (disch := omega) only [ints_length, List.length_set, ho, if_true, Nat.le_refl, ↓mp_some, ↓PN_some, snaps_ints, List.take_length, ints_take, weak_ro, weaks_ints]
    have e0 : (out.set a'.length c).take (a'.length + 1) = out.set a'.length c := List.take_of_length_le (by simp [ho])
    rw [List.take_of_length_le (Nat.le_refl _), List.take_of_length_le hl] at hv2
    refine ⟨out.set a'.length c, ?_, okd_set oo _ _ (by simp only [Bz]; omega), ?_, ?_⟩
    ·rw [e0, isl]; simp [ho]
    ·rw [← hv, ← hv2, ← val_take_set out a'.length c (by omega), e0]
    ·simp [ho]; omega
  ·refine ⟨Nat.zero_le _, ?_⟩
   refine ⟨?_, ?_, ?_, ?_, ?_, ?_, 0, List.replicate (a'.length + 1) 0, .inl rfl, ?_, ?_, ?_, okd_rep _, ?_⟩ <;> simp [upd_apply, h0, h1, val]
 ·intro hp
  simp (disch := omega) only [go_sem]
  exact ⟨b, a, rfl, rfl, by omega, ob, oa, hb, by omega, by omega⟩
 ·intro hp
  simp (disch := omega) only [go_sem]
  exact ⟨a, b, rfl, rfl, by omega, oa, ob, ha, by omega, rfl⟩
theorem getD_set_self (l : List Int) (n : Nat) (d : Int) (h : n < l.length) : (l.set n d).getD n 0 = d := by simp [h]
theorem getD_set_ne (l : List Int) (n m : Nat) (d : Int) (h : n ≠ m) : (l.set n d).getD m 0 = l.getD m 0 := by simp [h]
theorem getD_over (l : List Int) (n : Nat) (h : l.length ≤ n) : l.getD n 0 = 0 := by
 rw [List.getD_eq_getElem?_getD, List.getElem?_eq_none h]; rfl
theorem drop_set_gt (l : List Int) (n m : Nat) (d : Int) (h : n < m) : (l.set n d).drop m = l.drop m := by
 rw [List.drop_set]; simp [h]
theorem val_take_succ' (l : List Int) (n : Nat) : val (l.take (n + 1)) = val (l.take n) + Bz ^ n * l.getD n 0 := by
 by_cases h : n < l.length
 ·exact val_take_succ l n h
 ·rw [List.take_of_length_le (by omega), List.take_of_length_le (by omega), getD_over l n (by omega)]; simp
theorem getD_drop_succ {l m : List Int} {k : Nat} (h : l.drop (k + 1) = m.drop (k + 1)) : l.getD (k + 1) 0 = m.getD (k + 1) 0 := by
 have := congrArg (fun x => x.getD 0 0) h
 simpa [List.getD_eq_getElem?_getD] using this
theorem drop_drop_succ {l m : List Int} {k : Nat} (h : l.drop (k + 1) = m.drop (k + 1)) : l.drop (k + 2) = m.drop (k + 2) := by
 have := congrArg (fun x => x.drop 1) h
 simpa [List.drop_drop] using this
def MinP (a b : List Int) (k : Nat) (o : List Int) : Prop :=
 o.length = a.length ∧ okd (o.take k) ∧ o.drop (k + 1) = a.drop (k + 1) ∧ (k < a.length → o.getD k 0 = a.getD k 0 ∨ o.getD k 0 = a.getD k 0 - 1) ∧ val o = val a - val (b.take k)
theorem bz_pos (k : Nat) : 0 < Bz ^ k := Int.pow_pos (by decide)
theorem okd_take_set {l : List Int} {k : Nat} {d : Int} (h : okd (l.take k)) (hk : k < l.length) (hd : 0 ≤ d ∧ d < Bz) : okd ((l.set k d).take (k + 1)) := by
 rw [take_set_succ l k d hk, okd_app]
 exact ⟨h, by intro x hx; simp at hx; subst hx; exact hd⟩
theorem minP_ge {a b o : List Int} {k : Nat} (h : MinP a b k o) (hk : k < a.length) (oa : okd a) (ob : okd b) (hd : 0 ≤ o.getD k 0 - b.getD k 0) : MinP a b (k + 1) (o.set k (o.getD k 0 - b.getD k 0)) := by
 obtain ⟨h1, h2, h3, h4, h5⟩ := h
 have ka := okd_getD oa k
 have kb := okd_getD ob k
 refine ⟨by simp [h1], okd_take_set h2 (by omega) ?_, ?_, ?_, ?_⟩
 ·rcases h4 hk with h | h <;> omega
 ·rw [drop_set_gt _ _ _ _ (by omega)]; exact drop_drop_succ h3
 ·intro _; rw [getD_set_ne _ _ _ _ (by omega)]; exact .inl (getD_drop_succ h3)
 ·rw [val_set _ _ _ (by omega), h5, val_take_succ' b k]; grind
theorem minP_lt {a b o : List Int} {k : Nat} (h : MinP a b k o) (hk : k < a.length) (oa : okd a) (ob : okd b) (hl : b.length ≤ a.length) (hv : val b ≤ val a) (hd : o.getD k 0 - b.getD k 0 < 0) :
  k + 1 < a.length ∧ MinP a b (k + 1) ((o.set k (o.getD k 0 - b.getD k 0 + 1000000000)).set (k + 1) (o.getD (k + 1) 0 - 1)) := by
 obtain ⟨h1, h2, h3, h4, h5⟩ := h
 have ka := okd_getD oa k
 have kb := okd_getD ob k
 have hlt : k + 1 < a.length := by
  apply Classical.byContradiction; intro hn
  have hk1 : k + 1 = a.length := by omega
  have e1 := val_take_succ' b k
  rw [List.take_of_length_le (by omega)] at e1
  have e2 := val_take_succ o k (by omega)
  rw [List.take_of_length_le (by omega)] at e2
  have e3 := val_lt h2
  rw [List.length_take, Nat.min_eq_left (by omega)] at e3
  have e4 := bz_pos k
  generalize Bz ^ k = p at *
  have e5 : p * (o.getD k 0 - b.getD k 0) ≤ p * (-1) := Int.mul_le_mul_of_nonneg_left (by omega) (by omega)
  rw [Int.mul_sub] at e5
  omega
 refine ⟨hlt, by simp [h1], ?_, ?_, ?_, ?_⟩
 ·rw [List.take_set_of_le (by omega)]
  refine okd_take_set h2 (by omega) ?_
  simp only [Bz] at *
  rcases h4 hk with h | h <;> omega
 ·rw [drop_set_gt _ _ _ _ (by omega), drop_set_gt _ _ _ _ (by omega)]; exact drop_drop_succ h3
 ·intro _; rw [getD_set_self _ _ _ (by simp; omega), getD_drop_succ h3]; exact .inr rfl
 ·rw [val_set _ _ _ (by simp; omega), getD_set_ne _ _ _ _ (by omega), val_set _ _ _ (by omega), h5, val_take_succ' b k]
  have hp : Bz ^ (k + 1) = Bz ^ k * Bz := Int.pow_succ Bz k
  rw [hp]; simp only [Bz]; grind
theorem minP_zero (a b : List Int) : MinP a b 0 a := ⟨rfl, by simp [okd], rfl, fun _ => .inl rfl, by simp [val]⟩
theorem minP_end {a b o : List Int} (h : MinP a b a.length o) (hl : b.length ≤ a.length) : okd o ∧ val o = val a - val b ∧ o.length = a.length := by
 obtain ⟨h1, h2, h3, h4, h5⟩ := h
 rw [List.take_of_length_le (by omega)] at h2 h5
 exact ⟨h2, h5, h1⟩
theorem M_157 [SpC] (a b : List Int) (ha : a.length < 2 ^ 30) (hl : b.length ≤ a.length) (oa : okd a) (ob : okd b) (hv : val b ≤ val a) :
  ∃ out, M X 157 [isl a, isl b] = some (isl out) ∧ okd out ∧ val out = val a - val b ∧ out.length = a.length := by
 suffices h : ∃ r, (∃ out, r = isl out ∧ okd out ∧ val out = val a - val b ∧ out.length = a.length) ∧ M X 157 [isl a, isl b] = some r by
  obtain ⟨r, ⟨out, rfl, h1⟩, h2⟩ := h
  exact ⟨out, h2, h1⟩
 refine M_ex (fn := Tryz.f157) Tryz.func157 rfl ok_157 mode_157 res_157 _ rfl _ ?_
 simp (maxSteps := 4000000) (disch := first | omega | (simp only [LL]; omega)) only [go_sem]
 simp (maxSteps := 4000000) (disch := first | omega | (simp only [LL]; omega)) only [ints_length, splice_full _ _ (show a.length = (List.replicate a.length (0:Int)).length by simp), go_sem]
 refine W_loop X (fun (k : Nat) s => k ≤ a.length ∧ s.env 0 = isl a ∧ s.env 1 = isl b ∧ s.env 14 = .int .i64 a.length ∧ s.env 15 = .int .i64 k ∧ s.env 5 = .sl 24 0 a.length (some a.length) 1 ∧
  ∃ o, s.heap 24 = some (.cells (ints o) false false) ∧ MinP a b k o) (fun k => a.length - k) ?_ 0 _ ?_
 ·rintro k ⟨env, heap, nx⟩ ⟨hk, g0, g1, g14, g15, g5, o, gh, hm⟩
  simp only at g0 g1 g14 g15 g5 gh
  have ho := hm.1
  by_cases h2 : k < a.length
  ·have ka := okd_getD oa k
   have kb := okd_getD ob k
   have ka' := hm.2.2.2.1 h2
   simp only [Bz] at ka kb
   by_cases h4 : 0 ≤ o.getD k 0 - b.getD k 0
   ·have hm' := minP_ge hm h2 oa ob h4
    by_cases h3 : k < b.length
    ·simp (maxSteps := 4000000) (disch := first | omega | (simp only [LL]; omega)) only [go_sem, g0, g1, g14, g15, g5, gh, ho, getD_set_self]
     exact ⟨k + 1, ⟨by omega, rfl, _, rfl, hm'⟩, by omega⟩
    ·have hb0 := getD_over b k (by omega)
     have hs : o.set k (o.getD k 0 - b.getD k 0) = o := by rw [hb0, Int.sub_zero, getD_get _ _ (by omega), List.set_getElem_self]
     rw [hs] at hm'
     simp (maxSteps := 4000000) (disch := first | omega | (simp only [LL]; omega)) only [go_sem, g0, g1, g14, g15, g5, gh, ho, getD_set_self]
     exact ⟨k + 1, ⟨by omega, rfl, _, rfl, hm'⟩, by omega⟩
   ·have hm' := minP_lt hm h2 oa ob hl hv (by omega)
    obtain ⟨h5, hm'⟩ := hm'
    have ka1 := okd_getD oa (k + 1)
    have ka1' := getD_drop_succ hm.2.2.1
    simp only [Bz] at ka1
    by_cases h3 : k < b.length
    ·simp (maxSteps := 4000000) (disch := first | omega | (simp only [LL]; omega)) only [go_sem, g0, g1, g14, g15, g5, gh, ho, getD_set_self, getD_set_ne, List.set_set]
     exact ⟨k + 1, ⟨by omega, rfl, _, rfl, hm'⟩, by omega⟩
    ·have hb0 := getD_over b k (by omega)
     rw [hb0, Int.sub_zero] at hm' h4
     simp (maxSteps := 4000000) (disch := first | omega | (simp only [LL]; omega)) only [go_sem, g0, g1, g14, g15, g5, gh, ho, getD_set_self, getD_set_ne, List.set_set]
     exact ⟨k + 1, ⟨by omega, rfl, _, rfl, hm'⟩, by omega⟩
  ·simp (maxSteps := 4000000) (disch := first | omega | (simp only [LL]; omega)) only [go_sem, g0, g1, g14, g15, g5, gh, ho]
   have hk' : k = a.length := by omega
   subst hk'
   obtain ⟨h6, h7, h8⟩ := minP_end hm hl
   exact ⟨o, rfl, h6, h7, h8⟩
 ·refine ⟨Nat.zero_le _, ?_⟩
  refine ⟨?_, ?_, ?_, ?_, ?_, a, ?_, minP_zero a b⟩ <;> simp [upd_apply, argEnv]
theorem okd_nat (x : Int) : okd (digs x.natAbs) := okd_digs _
theorem val_nat (x : Int) : val (digs x.natAbs) = x.natAbs := val_digs _
theorem len_nd (x : Int) : (digs x.natAbs).length = nd x := nr rfl
theorem ofZ [SpC] (neg : Bool) (l : List Int) (z : Int) (ol : okd l) (hl : l.length < 2 ^ 40) (hz : z = if neg then -val l else val l) : M X 154 [.bool neg, isl l] = some (.agg [zS z, zD z]) := by
 rw [M_154 neg l hl, trim_digs ol, aI_digs neg (val l).toNat z]
 have h := val_nonneg ol
 rw [hz, Int.toNat_of_nonneg h]
theorem plusZ [SpC] (x y : Int) (hx : nd x < 2 ^ 28) (hy : nd y < 2 ^ 28) : ∃ out, M X 155 [zD x, zD y] = some (isl out) ∧ okd out ∧ val out = x.natAbs + y.natAbs ∧ out.length ≤ nd x + nd y + 1 ∧ ∀ neg z, z = (if neg then -((x.natAbs : Int) + y.natAbs) else (x.natAbs : Int) + y.natAbs) → M X 154 [.bool neg, isl out] = some (.agg [zS z, zD z]) := by
 obtain ⟨out, h1, h2, h3, h4⟩ := M_155 (digs x.natAbs) (digs y.natAbs) (by rw [len_nd]; omega) (by rw [len_nd]; omega) (okd_nat x) (okd_nat y)
 rw [val_nat, val_nat] at h3
 rw [len_nd, len_nd] at h4
 refine ⟨out, h1, h2, h3, h4, fun neg z hz => ofZ neg out z h2 (by omega) (by rw [h3]; exact hz)⟩
theorem minusZ [SpC] (x y : Int) (hx : nd x < 2 ^ 28) (hl : nd y ≤ nd x) (hv : y.natAbs ≤ x.natAbs) : ∃ out, M X 157 [zD x, zD y] = some (isl out) ∧ okd out ∧ val out = x.natAbs - y.natAbs ∧ out.length = nd x ∧ ∀ neg z, z = (if neg then -((x.natAbs : Int) - y.natAbs) else (x.natAbs : Int) - y.natAbs) → M X 154 [.bool neg, isl out] = some (.agg [zS z, zD z]) := by
 obtain ⟨out, h1, h2, h3, h4⟩ := M_157 (digs x.natAbs) (digs y.natAbs) (by rw [len_nd]; omega) hl (okd_nat x) (okd_nat y) (by rw [val_nat, val_nat]; omega)
 rw [val_nat, val_nat] at h3
 rw [len_nd] at h4
 refine ⟨out, h1, h2, h3, h4, fun neg z hz => ofZ neg out z h2 (by omega) (by rw [h3]; exact hz)⟩
theorem nd_mono {x y : Int} (h : x.natAbs ≤ y.natAbs) : nd x ≤ nd y := by
 rw [nd, len_digs]
 exact Nat.lt_of_le_of_lt h ((len_digs _ _).1 (Nat.le_refl _))
theorem compareZ [SpC] (x y : Int) (hx : nd x < 2 ^ 40) (hy : nd y < 2 ^ 40) : M X 156 [zD x, zD y] = some (.int .i64 (cmpZ x.natAbs y.natAbs)) := by
 rw [← cmpL_digs]
 exact M_156 _ _ hx hy
theorem M_77 [SpC] (x y : Int) (hx : nd x < 2 ^ 28) (hy : nd y < 2 ^ 28) : M X 77 [.agg [zS x, zD x], .agg [zS y, zD y]] = some (.agg [zS (x + y), zD (x + y)]) := by
 refine M_of X (fn := Tryz.f77) Tryz.func77 rfl ok_77 mode_77 res_77 _ rfl _ ?_
 intro r hr
 obtain ⟨p, p1, p2, p3, p4, p5⟩ := plusZ x y hx hy
 have hc := compareZ x y (by omega) (by omega)
 by_cases h1 : x < 0
 ·by_cases h2 : y < 0
  ·have p6 := p5 true (x + y) (by simp; omega)
   simp (maxSteps := 4000000) (disch := first | omega | (simp only [LL]; omega)) only [go_sem, zS_neg, mode_155, mode_154, p1, p6]
   simp (disch := omega) only [hr, zS_neg, zS_pos]
  ·by_cases h3 : x.natAbs < y.natAbs
   ·obtain ⟨m, m1, m2, m3, m4, m5⟩ := minusZ y x hy (nd_mono (by omega)) (by omega)
    have m6 := m5 false (x + y) (by simp; omega)
    rw [cmpZ_lt (by omega)] at hc
    simp (maxSteps := 4000000) (disch := first | omega | (simp only [LL]; omega)) only [go_sem, zS_neg, zS_pos, mode_157, mode_156, mode_154, m1, m6, hc]
    simp (disch := omega) only [hr, zS_neg, zS_pos]
   ·obtain ⟨m, m1, m2, m3, m4, m5⟩ := minusZ x y hx (nd_mono (by omega)) (by omega)
    have m6 := m5 true (x + y) (by simp; omega)
    have hc' : 0 ≤ cmpZ (x.natAbs : Int) y.natAbs := by unfold cmpZ; rw [if_neg (by omega)]; split <;> omega
    simp (maxSteps := 4000000) (disch := first | omega | (simp only [LL]; omega)) only [go_sem, zS_neg, zS_pos, mode_157, mode_156, mode_154, m1, m6, hc]
    simp (disch := omega) only [hr, zS_neg, zS_pos]
 ·by_cases h2 : y < 0
  ·by_cases h3 : x.natAbs < y.natAbs
   ·obtain ⟨m, m1, m2, m3, m4, m5⟩ := minusZ y x hy (nd_mono (by omega)) (by omega)
    have m6 := m5 true (x + y) (by simp; omega)
    rw [cmpZ_lt (by omega)] at hc
    simp (maxSteps := 4000000) (disch := first | omega | (simp only [LL]; omega)) only [go_sem, zS_neg, zS_pos, mode_157, mode_156, mode_154, m1, m6, hc]
    simp (disch := omega) only [hr, zS_neg, zS_pos]
   ·obtain ⟨m, m1, m2, m3, m4, m5⟩ := minusZ x y hx (nd_mono (by omega)) (by omega)
    have m6 := m5 false (x + y) (by simp; omega)
    have hc' : 0 ≤ cmpZ (x.natAbs : Int) y.natAbs := by unfold cmpZ; rw [if_neg (by omega)]; split <;> omega
    simp (maxSteps := 4000000) (disch := first | omega | (simp only [LL]; omega)) only [go_sem, zS_neg, zS_pos, mode_157, mode_156, mode_154, m1, m6, hc]
    simp (disch := omega) only [hr, zS_neg, zS_pos]
  ·have p6 := p5 false (x + y) (by simp; omega)
   simp (maxSteps := 4000000) (disch := first | omega | (simp only [LL]; omega)) only [go_sem, zS_pos, mode_155, mode_154, p1, p6]
   simp (disch := omega) only [hr, zS_neg, zS_pos]
theorem nd_le_two (x : Int) : nd x ≤ 2 ↔ x.natAbs < 1000000000000000000 := by rw [nd, len_digs]; exact Iff.rfl
theorem nd_le_one (x : Int) : nd x ≤ 1 ↔ x.natAbs < 1000000000 := by rw [nd, len_digs]; exact Iff.rfl
theorem zD_nil (x : Int) (h : x = 0) : zD x = isl [] := by rw [zD, h, Int.natAbs_zero, digs_zero]
theorem zD_one (x : Int) (h : x ≠ 0) (h1 : x.natAbs < 1000000000) : zD x = isl [(x.natAbs : Int)] := by rw [zD, digs_lt _ (by omega) h1]
theorem zD_two (x : Int) (h : 1000000000 ≤ x.natAbs) (h1 : x.natAbs < 1000000000000000000) : zD x = isl [((x.natAbs % 1000000000 : Nat) : Int), ((x.natAbs / 1000000000 : Nat) : Int)] := by rw [zD, digs_two _ h h1]
theorem two_lt [SpC] (x : Int) (h : x.natAbs < 1000000000000000000) : M X 218 [zD x] = some (.tuple [.int .i64 x.natAbs, .bool true]) := by
 refine M_of X (fn := Tryz.f218) Tryz.func218 rfl ok_218 mode_218 res_218 _ rfl _ ?_
 intro r hr
 by_cases h0 : x = 0
 ·rw [zD_nil x h0]
  simp (maxSteps := 4000000) (disch := first | omega | (simp only [LL]; omega)) only [go_sem]
  rw [hr, h0]; rfl
 ·by_cases h1 : x.natAbs < 1000000000
  ·rw [zD_one x h0 h1]
   simp (maxSteps := 4000000) (disch := first | omega | (simp only [LL]; omega)) only [go_sem]
   rw [hr]
  ·rw [zD_two x (by omega) h]
   simp (maxSteps := 4000000) (disch := first | omega | (simp only [LL]; omega)) only [go_sem]
   rw [hr]
   congr 3; omega
theorem two_ge [SpC] (x : Int) (h : 1000000000000000000 ≤ x.natAbs) (hx : nd x < 2 ^ 40) : M X 218 [zD x] = some (.tuple [.int .i64 0, .bool false]) := by
 refine M_of X (fn := Tryz.f218) Tryz.func218 rfl ok_218 mode_218 res_218 _ rfl _ ?_
 intro r hr
 have h1 : 2 < nd x := by have := nd_le_two x; omega
 simp (maxSteps := 4000000) (disch := first | omega | (simp only [LL]; omega)) only [go_sem]
 rw [hr]
def MulP (a b : List Int) (i k : Nat) (c : Int) (o : List Int) : Prop :=
 o.length = a.length + b.length ∧ okd o ∧ (0 ≤ c ∧ c < 1000000000) ∧ val o + Bz ^ (i + k) * c = val (a.take i) * val b + Bz ^ i * a.getD i 0 * val (b.take k) ∧ (∀ j, i + b.length ≤ j → o.getD j 0 = 0)
theorem mul_dig {d e : Int} (hd : 0 ≤ d ∧ d < 1000000000) (he : 0 ≤ e ∧ e < 1000000000) : 0 ≤ d * e ∧ d * e ≤ 999999999 * 999999999 :=
 ⟨Int.mul_nonneg hd.1 he.1, Int.mul_le_mul (by omega) (by omega) he.1 (by omega)⟩
theorem mulP_step {a b o : List Int} {i k : Nat} {c : Int} (h : MulP a b i k c o) (hi : i < a.length) (hk : k < b.length) (oa : okd a) (ob : okd b) (v q : Int) (hv : v = o.getD (i + k) 0 + a.getD i 0 * b.getD k 0 + c) (hq : q = v / 1000000000) :
  MulP a b i (k + 1) q (o.set (i + k) (v - q * 1000000000)) := by
 obtain ⟨h1, h2, h3, h4, h5⟩ := h
 have ka := okd_getD oa i
 have kb := okd_getD ob k
 have ko := okd_getD h2 (i + k)
 have hm := mul_dig ka kb
 simp only [Bz] at ka kb ko
 refine ⟨by simp [h1], okd_set h2 _ _ ?_, ?_, ?_, ?_⟩
 ·simp only [Bz]; omega
 ·omega
 ·rw [val_set _ _ _ (by omega), val_take_succ b k hk]
  have e1 : Bz ^ (i + (k + 1)) = Bz ^ (i + k) * Bz := Int.pow_succ Bz (i + k)
  have e2 : Bz ^ (i + k) = Bz ^ i * Bz ^ k := Int.pow_add Bz i k
  rw [e1]
  rw [e2] at h4 ⊢
  simp only [Bz] at h4 ⊢
  grind
 ·intro j hj
  rw [getD_set_ne _ _ _ _ (by omega)]; exact h5 j hj
theorem mulP_end {a b o : List Int} {i : Nat} {c : Int} (h : MulP a b i b.length c o) (hi : i < a.length) : MulP a b (i + 1) 0 0 (o.set (i + b.length) c) := by
 obtain ⟨h1, h2, h3, h4, h5⟩ := h
 refine ⟨by simp [h1], okd_set h2 _ _ h3, by omega, ?_, ?_⟩
 ·rw [List.take_of_length_le (Nat.le_refl _)] at h4
  rw [val_set _ _ _ (by omega), h5 _ (Nat.le_refl _), List.take_zero, val_nil, val_take_succ a i hi]
  grind
 ·intro j hj
  rw [getD_set_ne _ _ _ _ (by omega)]; exact h5 j (by omega)
theorem mulP_zero (a b : List Int) : MulP a b 0 0 0 (List.replicate (a.length + b.length) 0) := by
 refine ⟨by simp, okd_rep _, by omega, by simp [val, val_rep], fun j _ => ?_⟩
 rw [List.getD_eq_getElem?_getD, List.getElem?_replicate]; split <;> rfl
theorem mulP_val {a b o : List Int} (h : MulP a b a.length 0 0 o) : okd o ∧ val o = val a * val b := by
 obtain ⟨h1, h2, h3, h4, h5⟩ := h
 rw [List.take_of_length_le (Nat.le_refl _), List.take_zero, val_nil] at h4
 exact ⟨h2, by simpa using h4⟩
theorem mulL [SpC] (na nb : Bool) (a b : List Int) (ha : a.length < 2 ^ 28) (hb : b.length < 2 ^ 28) (oa : okd a) (ob : okd b) (h1 : ¬ (a.length = 1 ∧ b.length = 1)) (z : Int) (hz : z = if na = nb then val a * val b else -(val a * val b)) :
  M X 80 [.agg [.bool na, isl a], .agg [.bool nb, isl b]] = some (.agg [zS z, zD z]) := by
 refine M_of X (fn := Tryz.f80) Tryz.func80 rfl ok_80 mode_80 res_80 _ rfl _ ?_
 intro r hr
 have hof : ∀ out, okd out → val out = val a * val b → out.length < 2 ^ 40 → ∀ t, t = !(na == nb) → M X 154 [.bool t, isl out] = some (.agg [zS z, zD z]) := by
  intro out h2 h3 h4 t ht
  refine ofZ _ out z h2 h4 ?_
  rw [hz, h3, ht]; cases na <;> cases nb <;> rfl
 by_cases h2 : a.length = 1
 all_goals
  simp (maxSteps := 4000000) (disch := first | omega | (simp only [LL]; omega)) only [go_sem]
  refine W_loop X (fun (i : Nat) s => i ≤ a.length ∧ s.env 2 = .ptr 0 0 ∧ s.env 3 = .ptr 8 0 ∧ s.env 4 = .ptr 16 0 ∧ s.env 5 = isl a ∧ s.env 6 = isl b ∧ s.env 7 = .sl 176 0 (a.length + b.length) (some (a.length + b.length)) 1 ∧
   s.env 47 = isl a ∧ s.env 48 = .int .i64 a.length ∧ s.env 49 = .int .i64 i ∧ s.heap 0 = some (.cells [.bool na, isl a] false false) ∧ s.heap 8 = some (.cells [.bool nb, isl b] false false) ∧ s.heap 16 = some (.cells [.bool false, .ro [] 0 false] false false) ∧ 176 < s.next ∧
   ∃ o, s.heap 176 = some (.cells (ints o) false false) ∧ MulP a b i 0 0 o) (fun i => a.length - i) ?_ 0 _ ?_
  ·rintro i ⟨env, heap, nx⟩ ⟨hi, g2, g3, g4, g5, g6, g7, g47, g48, g49, e0, e8, e16, hnx, o, gh, hm⟩
   simp only at g2 g3 g4 g5 g6 g7 g47 g48 g49 e0 e8 e16 gh hnx
   have ho := hm.1
   by_cases h3 : i < a.length
   ·simp (maxSteps := 4000000) (disch := first | omega | (simp only [LL]; omega)) only [go_sem, g2, g3, g4, g5, g6, g7, g47, g48, g49, e0, e8, e16, gh, ho]
    refine W_loop X (fun (k : Nat) s => k ≤ b.length ∧ s.env 2 = .ptr 0 0 ∧ s.env 3 = .ptr 8 0 ∧ s.env 4 = .ptr 16 0 ∧ s.env 5 = isl a ∧ s.env 6 = isl b ∧ s.env 7 = .sl 176 0 (a.length + b.length) (some (a.length + b.length)) 1 ∧
     s.env 47 = isl a ∧ s.env 48 = .int .i64 a.length ∧ s.env 49 = .int .i64 i ∧ s.env 8 = .int .i64 i ∧ s.env 9 = .int .i64 (a.getD i 0) ∧ s.env 54 = isl b ∧ s.env 55 = .int .i64 b.length ∧ s.env 56 = .int .i64 k ∧ s.heap 0 = some (.cells [.bool na, isl a] false false) ∧ s.heap 8 = some (.cells [.bool nb, isl b] false false) ∧ s.heap 16 = some (.cells [.bool false, .ro [] 0 false] false false) ∧ 176 < s.next ∧
     ∃ o c, s.heap 176 = some (.cells (ints o) false false) ∧ s.env 10 = .int .i64 c ∧ MulP a b i k c o) (fun k => b.length - k) ?_ 0 _ ?_
    ·clear gh hm ho g2 g3 g4 g5 g6 g7 g47 g48 g49 e0 e8 e16 hnx
     rintro k ⟨env, heap, nx⟩ ⟨hk, g2, g3, g4, g5, g6, g7, g47, g48, g49, g8, g9, g54, g55, g56, e0, e8, e16, hnx, o, c, gh, g10, hm⟩
     simp only at g2 g3 g4 g5 g6 g7 g47 g48 g49 g8 g9 g54 g55 g56 e0 e8 e16 gh hnx g10
     have ho := hm.1
     have hc := hm.2.2.1
     by_cases h4 : k < b.length
     ·have ka := okd_getD oa i
      have kb := okd_getD ob k
      have ko := okd_getD hm.2.1 (i + k)
      have hd := mul_dig ka kb
      simp only [Bz] at ka kb ko
      have hm' := mulP_step hm h3 h4 oa ob _ _ rfl rfl
      simp (maxSteps := 4000000) (disch := first | omega | (simp only [LL]; omega)) only [go_sem, g2, g3, g4, g5, g6, g7, g47, g48, g49, g8, g9, g10, g54, g55, g56, e0, e8, e16, gh, ho]
      exact ⟨k + 1, ⟨by omega, rfl, by omega, _, _, rfl, rfl, hm'⟩, by omega⟩
     ·have hk' : k = b.length := by omega
      subst hk'
      have hm' := mulP_end hm h3
      simp (maxSteps := 4000000) (disch := first | omega | (simp only [LL]; omega)) only [go_sem, g2, g3, g4, g5, g6, g7, g47, g48, g49, g8, g9, g10, g54, g55, g56, e0, e8, e16, gh, ho]
      exact ⟨i + 1, ⟨by omega, rfl, by omega, _, rfl, hm'⟩, by omega⟩
    ·refine ⟨Nat.zero_le _, ?_, ?_, ?_, ?_, ?_, ?_, ?_, ?_, ?_, ?_, ?_, ?_, ?_, ?_, ?_, ?_, ?_, ?_, o, 0, ?_, ?_, hm⟩ <;> simp [upd_apply, g2, g3, g4, g5, g6, g7, g47, g48, g49, e0, e8, e16, gh]
     omega
   ·have hi' : i = a.length := by omega
    subst hi'
    have hv := mulP_val hm
    have hof' := hof o hv.1 hv.2 (by omega) _ rfl
    simp (maxSteps := 4000000) (disch := first | omega | (simp only [LL]; omega)) only [go_sem, g2, g3, g4, g5, g6, g7, g47, g48, g49, e0, e8, e16, gh, ho, mode_154, hof']
    rw [hr]
  ·refine ⟨Nat.zero_le _, ?_, ?_, ?_, ?_, ?_, ?_, ?_, ?_, ?_, ?_, ?_, ?_, ?_, _, ?_, mulP_zero a b⟩ <;> simp [upd_apply, argEnv]
theorem mul_one [SpC] (x y : Int) (hx : nd x = 1) (hy : nd y = 1) (na nb : Bool) (ha : na = decide (x < 0)) (hb : nb = decide (y < 0)) : M X 80 [.agg [.bool na, zD x], .agg [.bool nb, zD y]] = some (.agg [zS (x * y), zD (x * y)]) := by
 have x1 := (nd_le_one x).1 (by omega)
 have y1 := (nd_le_one y).1 (by omega)
 have x0 : x ≠ 0 := fun h => by have := nd_zero x h; omega
 have y0 : y ≠ 0 := fun h => by have := nd_zero y h; omega
 have hp := mul_dig (d := x.natAbs) (e := y.natAbs) (by omega) (by omega)
 rw [zD_one x x0 x1, zD_one y y0 y1]
 refine M_of X (fn := Tryz.f80) Tryz.func80 rfl ok_80 mode_80 res_80 _ rfl _ ?_
 intro r hr
 have hu := M_163 (!(na == nb)) ((x.natAbs : Int) * y.natAbs) hp.1 (by omega)
 rw [aI_digs (!(na == nb)) _ (x * y) ?_] at hu
 ·simp (maxSteps := 4000000) (disch := first | omega | (simp only [LL]; omega)) only [go_sem, mode_163, hu]
  rw [hr]
 ·rw [Int.toNat_of_nonneg hp.1, ha, hb]
  rcases Int.natAbs_eq x with e1 | e1 <;> rcases Int.natAbs_eq y with e2 | e2 <;> generalize x.natAbs = m at * <;> generalize y.natAbs = n at * <;> subst e1 <;> subst e2
  ·rw [decide_eq_false (by omega), decide_eq_false (by omega)]; rfl
  ·rw [decide_eq_false (by omega), decide_eq_true (by omega)]; simp [Int.mul_neg]
  ·rw [decide_eq_true (by omega), decide_eq_false (by omega)]; simp [Int.neg_mul]
  ·rw [decide_eq_true (by omega), decide_eq_true (by omega)]; simp [Int.neg_mul_neg]
theorem M_80 [SpC] (x y : Int) (hx : nd x < 2 ^ 28) (hy : nd y < 2 ^ 28) : M X 80 [.agg [zS x, zD x], .agg [zS y, zD y]] = some (.agg [zS (x * y), zD (x * y)]) := by
 by_cases h : nd x = 1 ∧ nd y = 1
 ·exact mul_one x y h.1 h.2 _ _ rfl rfl
 ·refine mulL _ _ _ _ hx hy (okd_nat x) (okd_nat y) h (x * y) ?_
  rw [val_nat, val_nat]
  rcases Int.natAbs_eq x with e1 | e1 <;> rcases Int.natAbs_eq y with e2 | e2 <;> generalize x.natAbs = m at * <;> generalize y.natAbs = n at * <;> subst e1 <;> subst e2
  ·rw [decide_eq_false (by omega), decide_eq_false (by omega)]; rfl
  ·by_cases hn : n = 0
   ·subst hn; simp
   ·rw [decide_eq_false (by omega), decide_eq_true (by omega)]; simp [Int.mul_neg]
  ·by_cases hm : m = 0
   ·subst hm; simp
   ·rw [decide_eq_true (by omega), decide_eq_false (by omega)]; simp [Int.neg_mul]
  ·by_cases hn : n = 0
   ·subst hn; simp
   ·by_cases hm : m = 0
    ·subst hm; simp
    ·rw [decide_eq_true (by omega), decide_eq_true (by omega)]; simp [Int.neg_mul_neg]
theorem drop_set_eq (l : List Int) (n : Nat) (d : Int) (h : n < l.length) : (l.set n d).drop n = d :: l.drop (n + 1) := by
 rw [List.drop_eq_getElem_cons (by simpa using h)]
 simp [drop_set_gt]
theorem val_drop_set (l : List Int) (n : Nat) (d : Int) (h : n < l.length) : val ((l.set n d).drop n) = d + Bz * val (l.drop (n + 1)) := by
 rw [drop_set_eq l n d h, val]
def ShoP (a : List Int) (b : Int) (n : Nat) (c : Int) (q : List Int) : Prop :=
 q.length = a.length ∧ okd q ∧ (0 ≤ c ∧ c < b) ∧ val (a.drop n) = b * val (q.drop n) + c
theorem dig_div {b c d : Int} (hb : 0 < b) (hc : 0 ≤ c ∧ c < b) (hd : 0 ≤ d ∧ d < 1000000000) : 0 ≤ (c * 1000000000 + d) / b ∧ (c * 1000000000 + d) / b < 1000000000 := by
 refine ⟨Int.ediv_nonneg (by omega) (by omega), Int.ediv_lt_of_lt_mul hb ?_⟩
 have : (c + 1) * 1000000000 ≤ b * 1000000000 := Int.mul_le_mul_of_nonneg_right (by omega) (by omega)
 omega
theorem shoP_step {a q : List Int} {b c : Int} {n : Nat} (h : ShoP a b (n + 1) c q) (hn : n < a.length) (oa : okd a) (hb : 0 < b) :
  ShoP a b n ((c * 1000000000 + a.getD n 0) % b) (q.set n ((c * 1000000000 + a.getD n 0) / b)) := by
 obtain ⟨h1, h2, h3, h4⟩ := h
 have ka := okd_getD oa n
 simp only [Bz] at ka
 refine ⟨by simp [h1], okd_set h2 _ _ ?_, ⟨Int.emod_nonneg _ (by omega), Int.emod_lt_of_pos _ hb⟩, ?_⟩
 ·exact dig_div hb h3 ka
 ·rw [val_drop_set _ _ _ (by omega), val_drop a n hn, h4]
  have e := Int.mul_ediv_add_emod (c * 1000000000 + a.getD n 0) b
  simp only [Bz]
  generalize (c * 1000000000 + a.getD n 0) / b = x at *
  generalize (c * 1000000000 + a.getD n 0) % b = y at *
  generalize val (List.drop (n + 1) q) = z at *
  grind
theorem shoP_zero (a : List Int) (b : Int) (hb : 0 < b) : ShoP a b a.length 0 (List.replicate a.length 0) := by
 refine ⟨by simp, okd_rep _, by omega, ?_⟩
 rw [List.drop_of_length_le (by simp), List.drop_of_length_le (by simp)]; simp [val]
theorem M_243 [SpC] (a : List Int) (b : Int) (ha : a.length < 2 ^ 30) (oa : okd a) (hb : 0 < b ∧ b ≤ 1000000000) :
  ∃ q, M X 243 [isl a, .int .i64 b] = some (.tuple [isl q, .int .i64 (val a % b)]) ∧ okd q ∧ val q = val a / b ∧ q.length = a.length := by
 suffices h : ∃ r, (∃ q c, r = .tuple [isl q, .int .i64 c] ∧ ShoP a b 0 c q) ∧ M X 243 [isl a, .int .i64 b] = some r by
  obtain ⟨r, ⟨q, c, rfl, h1, h2, h3, h4⟩, h5⟩ := h
  rw [List.drop_zero, List.drop_zero] at h4
  have e1 : val a % b = c := by rw [h4, Int.mul_add_emod_self_left, Int.emod_eq_of_lt h3.1 h3.2]
  have e2 : val a / b = val q := by rw [h4, Int.mul_add_ediv_left _ _ (by omega), Int.ediv_eq_zero_of_lt h3.1 h3.2]; simp
  exact ⟨q, by rw [h5, e1], h2, e2.symm, h1⟩
 refine M_ex (fn := Tryz.f243) Tryz.func243 rfl ok_243 mode_243 res_243 _ rfl _ ?_
 simp (maxSteps := 4000000) (disch := first | omega | (simp only [LL]; omega)) only [go_sem]
 refine W_loop X (fun (n : Nat) s => n ≤ a.length ∧ s.env 0 = isl a ∧ s.env 1 = .int .i64 b ∧ s.env 6 = .sl 32 0 a.length (some a.length) 1 ∧ s.env 8 = .int .i64 ((n : Int) - 1) ∧ 32 < s.next ∧
  ∃ q c, s.heap 32 = some (.cells (ints q) false false) ∧ s.env 7 = .int .i64 c ∧ ShoP a b n c q) (fun n => n) ?_ a.length _ ?_
 ·rintro n ⟨env, heap, nx⟩ ⟨hn, g0, g1, g6, g8, hnx, q, c, gh, g7, hm⟩
  simp only at g0 g1 g6 g8 gh g7 hnx
  have hq := hm.1
  have hc := hm.2.2.1
  obtain _ | n := n
  ·simp (maxSteps := 4000000) (disch := first | omega | (simp only [LL]; omega)) only [go_sem, g0, g1, g6, g7, g8, gh, hq]
   exact ⟨q, c, rfl, hm⟩
  ·have ka := okd_getD oa n
   simp only [Bz] at ka
   have hm' := shoP_step hm (by omega) oa hb.1
   have hd := dig_div hb.1 hc ka
   simp (maxSteps := 4000000) (disch := first | omega | (simp only [LL]; omega)) only [go_sem, g0, g1, g6, g7, g8, gh, hq]
   exact ⟨n, ⟨by omega, rfl, by omega, _, _, rfl, rfl, hm'⟩, by omega⟩
 ·refine ⟨Nat.le_refl _, ?_, ?_, ?_, ?_, ?_, _, 0, ?_, ?_, shoP_zero a b hb.1⟩ <;> simp [upd_apply, argEnv]
theorem top_ints (h : Heap) (d b off n : Nat) (cap : Option Nat) (o : List Int) {g : Bool} (hb : h b = some (.cells (ints o) g false)) (hl : off + n ≤ o.length) :
  resultTop h (d + 1) (.sl b off n cap 1) = some (.fresh (ints ((o.drop off).take n)) n 1) := by
 show nx (freshen h (d + 1) (.sl b off n cap 1)) _ = _
 have e : freshen h (d + 1) (.sl b off n cap 1) = some (.fresh (ints ((o.drop off).take n)) n 1, [b], []) := by
  simp only [freshen, hb, ints_length, Nat.mul_one, ints_drop, ints_take, snaps_ints, mp_some, ne_eq, Nat.one_ne_zero, not_false_eq_true, and_true, hl, if_true]
 rw [e]; rfl
def ScaP (a : List Int) (k : Int) (n : Nat) (c : Int) (q : List Int) : Prop :=
 q.length = a.length + 1 ∧ okd q ∧ (0 ≤ c ∧ c < 1000000000) ∧ val (q.take n) + Bz ^ n * c = k * val (a.take n)
theorem sca_dig {d k : Int} (hk : 0 ≤ k ∧ k ≤ 1000000000) (hd : 0 ≤ d ∧ d < 1000000000) : 0 ≤ d * k ∧ d * k ≤ 999999999 * 1000000000 :=
 ⟨Int.mul_nonneg hd.1 hk.1, Int.mul_le_mul (by omega) (by omega) hk.1 (by omega)⟩
theorem scaP_step {a q : List Int} {k c : Int} {n : Nat} (h : ScaP a k n c q) (hn : n < a.length) (oa : okd a) (hk : 0 ≤ k ∧ k ≤ 1000000000) :
  ScaP a k (n + 1) ((a.getD n 0 * k + c) / 1000000000) (q.set n ((a.getD n 0 * k + c) % 1000000000)) := by
 obtain ⟨h1, h2, h3, h4⟩ := h
 have ka := okd_getD oa n
 simp only [Bz] at ka
 have hd := sca_dig hk ka
 refine ⟨by simp [h1], okd_set h2 _ _ (by simp only [Bz]; omega), by omega, ?_⟩
 rw [val_take_set _ _ _ (by omega), val_take_succ a n hn]
 have e1 : Bz ^ (n + 1) = Bz ^ n * Bz := Int.pow_succ Bz n
 have e2 := Int.mul_ediv_add_emod (a.getD n 0 * k + c) 1000000000
 rw [e1]; simp only [Bz] at *
 generalize (a.getD n 0 * k + c) / 1000000000 = x at *
 generalize (a.getD n 0 * k + c) % 1000000000 = y at *
 grind
theorem scaP_zero (a : List Int) (k : Int) : ScaP a k 0 0 (List.replicate (a.length + 1) 0) := ⟨by simp, okd_rep _, by omega, by simp [val]⟩
theorem scaP_end {a q : List Int} {k c : Int} (h : ScaP a k a.length c q) : okd (q.set a.length c) ∧ val (q.set a.length c) = k * val a ∧ (q.set a.length c).length = a.length + 1 := by
 obtain ⟨h1, h2, h3, h4⟩ := h
 refine ⟨okd_set h2 _ _ h3, ?_, by simp [h1]⟩
 have e := val_take_set q a.length c (by omega)
 rw [List.take_of_length_le (by simp; omega)] at e
 rw [e, h4, List.take_of_length_le (Nat.le_refl _)]
theorem M_251 [SpC] (a : List Int) (k : Int) (ha : a.length < 2 ^ 30) (oa : okd a) (hk : 0 ≤ k ∧ k ≤ 1000000000) :
  ∃ q, M X 251 [isl a, .int .i64 k] = some (.fresh (ints q) (a.length + 1) 1) ∧ okd q ∧ val q = k * val a ∧ q.length = a.length + 1 := by
 suffices h : ∃ r, (∃ q, r = .fresh (ints q) (a.length + 1) 1 ∧ okd q ∧ val q = k * val a ∧ q.length = a.length + 1) ∧ M X 251 [isl a, .int .i64 k] = some r by
  obtain ⟨r, ⟨q, rfl, h1⟩, h2⟩ := h
  exact ⟨q, h2, h1⟩
 refine M_ex (fn := Tryz.f251) Tryz.func251 rfl ok_251 mode_251 res_251 _ rfl _ ?_
 simp (maxSteps := 4000000) (disch := first | omega | (simp only [LL]; omega)) only [go_sem]
 refine W_loop X (fun (n : Nat) s => n ≤ a.length ∧ s.env 0 = isl a ∧ s.env 1 = .int .i64 k ∧ s.env 5 = .sl 32 0 (a.length + 1) (some (a.length + 1)) 1 ∧ s.env 14 = isl a ∧ s.env 15 = .int .i64 a.length ∧ s.env 16 = .int .i64 n ∧ 32 < s.next ∧
  ∃ q c, s.heap 32 = some (.cells (ints q) false false) ∧ s.env 6 = .int .i64 c ∧ ScaP a k n c q) (fun n => a.length - n) ?_ 0 _ ?_
 ·rintro n ⟨env, heap, nx⟩ ⟨hn, g0, g1, g5, g14, g15, g16, hnx, q, c, gh, g6, hm⟩
  simp only at g0 g1 g5 g14 g15 g16 gh g6 hnx
  have hq := hm.1
  have hc := hm.2.2.1
  by_cases h1 : n < a.length
  ·have ka := okd_getD oa n
   simp only [Bz] at ka
   have hm' := scaP_step hm h1 oa hk
   have hd := sca_dig hk ka
   simp (maxSteps := 4000000) (disch := first | omega | (simp only [LL]; omega)) only [go_sem, g0, g1, g5, g6, g14, g15, g16, gh, hq]
   exact ⟨n + 1, ⟨by omega, rfl, by omega, _, _, rfl, rfl, hm'⟩, by omega⟩
  ·have hn' : n = a.length := by omega
   subst hn'
   have hm' := scaP_end hm
   simp (maxSteps := 4000000) (disch := first | omega | (simp only [LL]; omega)) only [go_sem, g0, g1, g5, g6, g14, g15, g16, gh, hq]
   have hl := hm'.2.2
   rw [top_ints _ _ _ _ _ _ (q.set a.length c) (g := false) (by simp [upd_apply]) (by omega), ← hl, List.drop_zero, List.take_length, PN_some]
   exact ⟨q.set a.length c, by simp [AV.weak, weaks_ints], hm'.1, hm'.2.1, rfl⟩
 ·refine ⟨Nat.zero_le _, ?_, ?_, ?_, ?_, ?_, ?_, ?_, _, 0, ?_, ?_, scaP_zero a k⟩ <;> simp [upd_apply, argEnv]
section
structure KN (U V P T v1 v2 u2 : Int) : Prop where
 pp : 0 < P
 ul : (T * Bz + u2) * P ≤ U
 uh : U < (T * Bz + u2 + 1) * P
 vl : (v1 * Bz + v2) * P ≤ V
 vh : V < (v1 * Bz + v2 + 1) * P
 hv1 : 1 ≤ v1 ∧ v1 < Bz
 hv2 : 0 ≤ v2 ∧ v2 < Bz
 hu2 : 0 ≤ u2 ∧ u2 < Bz
 ht : 0 ≤ T ∧ T ≤ v1 * Bz + Bz - 1
variable {U V P T v1 v2 u2 : Int}
theorem KN.init (h : KN U V P T v1 v2 u2) : U < (T / v1 + 1) * V := by
 have h1 : T + 1 ≤ (T / v1 + 1) * v1 := by
  have := Int.lt_ediv_add_one_mul_self T (show 0 < v1 from by have := h.hv1; omega)
  omega
 have h0 : 0 ≤ T / v1 + 1 := by have := Int.ediv_nonneg h.ht.1 (show 0 ≤ v1 by have := h.hv1; omega); omega
 generalize T / v1 + 1 = g at *
 have pb : 0 ≤ Bz * P := Int.mul_nonneg (by decide) (by have := h.pp; omega)
 have a1 : (T + 1) * (Bz * P) ≤ g * v1 * (Bz * P) := Int.mul_le_mul_of_nonneg_right h1 pb
 have a2 : g * ((v1 * Bz + v2) * P) ≤ g * V := Int.mul_le_mul_of_nonneg_left h.vl h0
 have a3 : 0 ≤ g * (v2 * P) := Int.mul_nonneg h0 (Int.mul_nonneg h.hv2.1 (by have := h.pp; omega))
 have a4 : (u2 + 1) * P ≤ Bz * P := Int.mul_le_mul_of_nonneg_right (by have := h.hu2; omega) (by have := h.pp; omega)
 have a5 := h.uh
 grind
theorem KN.step (h : KN U V P T v1 v2 u2) (hU : U < Bz * V) {g rest : Int} (hg : g * v1 + rest = T) (hg0 : 0 ≤ g) (hc : Bz ≤ g ∨ rest * Bz + u2 < g * v2) (hU0 : 0 ≤ U) : U < g * V ∧ 1 ≤ g := by
 have hV : 0 < V := by
  have a1 : 0 ≤ (v1 * Bz + v2) * P := Int.mul_nonneg (by have := h.hv1; have := h.hv2; simp only [Bz] at *; omega) (by have := h.pp; omega)
  have a2 := h.vl
  rcases Int.lt_or_eq_of_le (Int.le_trans a1 a2) with h1 | h1
  ·exact h1
  ·exfalso; rw [← h1] at hU; omega
 have key : U < g * V := by
  rcases hc with hc | hc
  ·exact Int.lt_of_lt_of_le hU (Int.mul_le_mul_of_nonneg_right hc (by omega))
  ·have a1 : T * Bz + u2 + 1 ≤ g * (v1 * Bz + v2) := by grind
   have a2 : (T * Bz + u2 + 1) * P ≤ g * (v1 * Bz + v2) * P := Int.mul_le_mul_of_nonneg_right a1 (by have := h.pp; omega)
   have a3 : g * ((v1 * Bz + v2) * P) ≤ g * V := Int.mul_le_mul_of_nonneg_left h.vl hg0
   have a4 := h.uh
   grind
 refine ⟨key, ?_⟩
 rcases Int.lt_or_eq_of_le hg0 with h1 | h1
 ·omega
 ·exfalso; rw [← h1] at key; omega
theorem KN.fin (h : KN U V P T v1 v2 u2) {g rest : Int} (hg : g * v1 + rest = T) (hg0 : 0 ≤ g ∧ g < Bz) (hc : g * v2 ≤ rest * Bz + u2) : g * V < U + V := by
 have a1 : g * (v1 * Bz + v2) ≤ T * Bz + u2 := by grind
 have a2 : g * (v1 * Bz + v2) * P ≤ (T * Bz + u2) * P := Int.mul_le_mul_of_nonneg_right a1 (by have := h.pp; omega)
 have a3 : g * V ≤ g * ((v1 * Bz + v2 + 1) * P) := Int.mul_le_mul_of_nonneg_left (by have := h.vh; omega) hg0.1
 have a4 : (g + 1) * P ≤ Bz * P := Int.mul_le_mul_of_nonneg_right (by omega) (by have := h.pp; omega)
 have a5 : Bz * P ≤ (v1 * Bz + v2) * P := Int.mul_le_mul_of_nonneg_right (by have := h.hv1; have := h.hv2; simp only [Bz] at *; omega) (by have := h.pp; omega)
 have a6 := h.ul
 have a7 := h.vl
 have a8 := h.pp
 grind
theorem KN.brk (h : KN U V P T v1 v2 u2) {g rest : Int} (hg : g * v1 + rest = T) (hg0 : 0 ≤ g) (hr : Bz ≤ rest) : g < Bz ∧ g * v2 ≤ rest * Bz + u2 := by
 have h1 : g < Bz := by
  apply Classical.byContradiction; intro hn
  have a1 : Bz * v1 ≤ g * v1 := Int.mul_le_mul_of_nonneg_right (by omega) (by have := h.hv1; omega)
  have a2 := h.ht
  simp only [Bz] at *
  omega
 refine ⟨h1, ?_⟩
 have a1 : g * v2 ≤ 999999999 * 999999999 := Int.mul_le_mul (by simp only [Bz] at *; omega) (by have := h.hv2; simp only [Bz] at *; omega) h.hv2.1 (by omega)
 have a2 := h.hu2
 simp only [Bz] at *; omega
end
theorem bz_mono {i j : Nat} (h : i ≤ j) : Bz ^ i ≤ Bz ^ j := by
 induction h with
 | refl => exact Int.le_refl _
 | step _ ih => rw [Int.pow_succ]; have := bz_pos i; simp only [Bz] at *; omega
theorem val_cut (l : List Int) (k : Nat) (h : k ≤ l.length) : val l = val (l.take k) + Bz ^ k * val (l.drop k) := by
 conv => lhs; rw [← List.take_append_drop k l]
 rw [val_app, List.length_take, Nat.min_eq_left h]
theorem okd_part {l : List Int} (h : okd l) (k n : Nat) : okd ((l.drop k).take n) := okd_take (okd_drop h k) n
theorem val_take_lt {l : List Int} (h : okd l) (k : Nat) : val (l.take k) < Bz ^ k := by
 have h1 := val_lt (okd_take h k)
 refine Int.lt_of_lt_of_le h1 ?_
 rw [List.length_take]
 exact bz_mono (Nat.min_le_left _ _)
theorem getD_drop (l : List Int) (k n : Nat) : (l.drop k).getD n 0 = l.getD (k + n) 0 := by
 simp [List.getD_eq_getElem?_getD]
theorem drop_congr {l m : List Int} {k : Nat} (n : Nat) (h : l.drop k = m.drop k) (hn : k ≤ n) : l.drop n = m.drop n := by
 have := congrArg (fun x => x.drop (n - k)) h
 simpa [List.drop_drop, Nat.add_sub_cancel' hn] using this
theorem getD_congr {l m : List Int} {k : Nat} (n : Nat) (h : l.drop k = m.drop k) (hn : k ≤ n) : l.getD n 0 = m.getD n 0 := by
 have := congrArg (fun x => x.getD (n - k) 0) h
 simpa only [getD_drop, Nat.add_sub_cancel' hn] using this
structure KV (v : List Int) (n : Nat) (V : Int) : Prop where
 len : v.length = n
 ok : okd v
 two : 2 ≤ n
 value : val v = V
 top : 1 ≤ v.getD (n - 1) 0
theorem KV.pos {v : List Int} {n : Nat} {V : Int} (h : KV v n V) : 0 < V := by
 have h1 := val_cut v (n - 1) (by have := h.len; omega)
 have h2 := val_drop v (n - 1) (by have := h.len; have := h.two; omega)
 have h3 := val_nonneg (okd_take h.ok (n - 1))
 have h4 := val_nonneg (okd_drop h.ok (n - 1 + 1))
 have h5 := bz_pos (n - 1)
 have h6 : 0 < Bz ^ (n - 1) * val (v.drop (n - 1)) := Int.mul_pos h5 (by have := h.top; simp only [Bz] at *; omega)
 rw [← h.value]; omega
theorem KV.lt {v : List Int} {n : Nat} {V : Int} (h : KV v n V) : V < Bz ^ n := by
 have := val_lt h.ok
 rwa [h.value, h.len] at this
theorem hi_zero {u : List Int} {k n : Nat} {V : Int} (ou : okd u) (h : val (u.drop k) < V) (hV : V < Bz ^ n) : val (u.drop (k + n)) = 0 := by
 by_cases hk : k + n ≤ u.length
 ·have h1 := val_cut (u.drop k) n (by simp; omega)
  rw [List.drop_drop] at h1
  have h2 := val_nonneg (okd_part ou k n)
  have h3 := val_nonneg (okd_drop ou (k + n))
  rcases Int.lt_or_eq_of_le h3 with h4 | h4
  ·exfalso
   have h5 : Bz ^ n * 1 ≤ Bz ^ n * val (u.drop (k + n)) := Int.mul_le_mul_of_nonneg_left (by omega) (by have := bz_pos n; omega)
   omega
  ·exact h4.symm
 ·rw [List.drop_of_length_le (by omega)]; rfl
theorem round_KN {u v : List Int} {j n : Nat} {V : Int} (hv : KV v n V) (ou : okd u) (hl : j + n < u.length) (h : val (u.drop (j + 1)) < V) :
  KN (val (u.drop j)) V (Bz ^ (n - 2)) (u.getD (j + n) 0 * Bz + u.getD (j + n - 1) 0) (v.getD (n - 1) 0) (v.getD (n - 2) 0) (u.getD (j + n - 2) 0) ∧ val (u.drop j) < Bz * V ∧ 0 ≤ val (u.drop j) := by
 obtain ⟨k, rfl⟩ : ∃ k, n = k + 2 := ⟨n - 2, by have := hv.two; omega⟩
 have e1 : k + 2 - 2 = k := by omega
 have e2 : j + (k + 2) - 2 = j + k := by omega
 have e3 : j + (k + 2) - 1 = j + k + 1 := by omega
 have e4 : k + 2 - 1 = k + 1 := by omega
 have e5 : j + (k + 2) = j + k + 2 := by omega
 have hz := hi_zero ou h hv.lt
 have e6 : j + 1 + (k + 2) = j + k + 2 + 1 := by omega
 rw [e6] at hz
 rw [e1, e2, e3, e4, e5]
 have b0 := okd_getD ou (j + k)
 have b1 := okd_getD ou (j + k + 1)
 have b2 := okd_getD ou (j + k + 2)
 have c0 := okd_getD hv.ok k
 have c1 := okd_getD hv.ok (k + 1)
 have hvl := hv.len
 have u0 := val_cut (u.drop j) k (by simp; omega)
 rw [List.drop_drop] at u0
 have u1 := val_drop u (j + k) (by omega)
 have u2 := val_drop u (j + k + 1) (by omega)
 have u3 := val_drop u (j + k + 1 + 1) (by omega)
 rw [show j + k + 1 + 1 = j + k + 2 from rfl] at u2 u3
 rw [hz] at u3
 have ulo := val_nonneg (okd_part ou j k)
 have uhi : val ((u.drop j).take k) < Bz ^ k := val_take_lt (okd_drop ou j) k
 have w0 := val_cut v k (by omega)
 have w1 := val_drop v k (by omega)
 have w2 := val_drop v (k + 1) (by omega)
 rw [show v.drop (k + 1 + 1) = [] from List.drop_of_length_le (by omega), val_nil] at w2
 have wlo := val_nonneg (okd_take hv.ok k)
 have whi : val (v.take k) < Bz ^ k := val_take_lt hv.ok k
 rw [hv.value] at w0
 have hP := bz_pos k
 have hU : val (u.drop j) = u.getD j 0 + Bz * val (u.drop (j + 1)) := val_drop u j (by omega)
 have bj := okd_getD ou j
 have htop := hv.top
 rw [e4] at htop
 have ht : u.getD (j + k + 2) 0 ≤ v.getD (k + 1) 0 := by
  have t0 := val_cut (u.drop (j + 1)) (k + 1) (by simp; omega)
  rw [List.drop_drop, show j + 1 + (k + 1) = j + k + 2 from by omega, u3] at t0
  have t1 := val_nonneg (okd_part ou (j + 1) (k + 1))
  have t2 : Bz ^ (k + 1) = Bz ^ k * Bz := Int.pow_succ Bz k
  have t3 := val_cut v (k + 1) (by omega)
  rw [hv.value, w2] at t3
  have t4 : val (v.take (k + 1)) < Bz ^ (k + 1) := val_take_lt hv.ok (k + 1)
  have t5 := bz_pos (k + 1)
  apply Classical.byContradiction; intro hn
  have t6 : Bz ^ (k + 1) * (v.getD (k + 1) 0 + 1) ≤ Bz ^ (k + 1) * u.getD (j + k + 2) 0 := Int.mul_le_mul_of_nonneg_left (by omega) (by omega)
  rw [Int.mul_add] at t6
  simp only [Int.mul_zero, Int.add_zero] at t0 t3
  omega
 refine ⟨⟨hP, ?_, ?_, ?_, ?_, ⟨htop, c1.2⟩, c0, b0, ?_, ?_⟩, ?_, val_nonneg (okd_drop ou j)⟩
 ·rw [u0, u1, u2, u3]; grind
 ·rw [u0, u1, u2, u3]; grind
 ·rw [w0, w1, w2]; grind
 ·rw [w0, w1, w2]; grind
 ·simp only [Bz] at *; omega
 ·simp only [Bz] at *; omega
 ·rw [hU]; simp only [Bz] at *; omega
theorem set_take_lt (l : List Int) (j p : Nat) (d : Int) (h : j ≤ p) : (l.set p d).take j = l.take j := List.take_set_of_le h
def SubP (u v : List Int) (g : Int) (j i : Nat) (c : Int) (o : List Int) : Prop :=
 o.length = u.length ∧ okd o ∧ (0 ≤ c ∧ c < 1000000000) ∧ o.take j = u.take j ∧ o.drop (i + j) = u.drop (i + j) ∧ val o = val u - Bz ^ j * (g * val (v.take i)) + Bz ^ (i + j) * c
theorem subP_lt {u v o : List Int} {g c : Int} {i j : Nat} (h : SubP u v g j i c o) (hi : i + j < u.length) (hiv : i < v.length) (ov : okd v) (hg : 0 ≤ g ∧ g < 1000000000) (w c' : Int)
  (hw : w = o.getD (i + j) 0 - g * v.getD i 0 - c) (hn : w < 0) (hc' : c' = (0 - w + 1000000000 - 1) / 1000000000) : SubP u v g j (i + 1) c' (o.set (i + j) (w + c' * 1000000000)) := by
 obtain ⟨h1, h2, h3, h4, h5, h6⟩ := h
 have ko := okd_getD h2 (i + j)
 have kv := okd_getD ov i
 have hm := mul_dig hg kv
 simp only [Bz] at ko kv
 refine ⟨by simp [h1], okd_set h2 _ _ (by simp only [Bz]; omega), by omega, by rw [set_take_lt _ _ _ _ (by omega), h4], ?_, ?_⟩
 ·rw [drop_set_gt _ _ _ _ (by omega)]; exact drop_congr _ h5 (by omega)
 ·rw [val_set _ _ _ (by omega), h6, val_take_succ v i hiv, hw]
  have e1 : Bz ^ (i + 1 + j) = Bz ^ (i + j) * Bz := by rw [show i + 1 + j = i + j + 1 from by omega]; exact Int.pow_succ _ _
  have e2 : Bz ^ (i + j) = Bz ^ i * Bz ^ j := Int.pow_add Bz i j
  rw [e1, e2]; simp only [Bz]
  grind
theorem subP_ge {u v o : List Int} {g c : Int} {i j : Nat} (h : SubP u v g j i c o) (hi : i + j < u.length) (hiv : i < v.length) (ov : okd v) (hg : 0 ≤ g ∧ g < 1000000000) (w : Int)
  (hw : w = o.getD (i + j) 0 - g * v.getD i 0 - c) (hn : 0 ≤ w) : SubP u v g j (i + 1) 0 (o.set (i + j) w) := by
 obtain ⟨h1, h2, h3, h4, h5, h6⟩ := h
 have ko := okd_getD h2 (i + j)
 have kv := okd_getD ov i
 have hm := mul_dig hg kv
 simp only [Bz] at ko kv
 refine ⟨by simp [h1], okd_set h2 _ _ (by simp only [Bz]; omega), by omega, by rw [set_take_lt _ _ _ _ (by omega), h4], ?_, ?_⟩
 ·rw [drop_set_gt _ _ _ _ (by omega)]; exact drop_congr _ h5 (by omega)
 ·rw [val_set _ _ _ (by omega), h6, val_take_succ v i hiv, hw]
  have e2 : Bz ^ (i + j) = Bz ^ i * Bz ^ j := Int.pow_add Bz i j
  rw [e2]
  grind
theorem subP_zero (u v : List Int) (g : Int) (j : Nat) (ou : okd u) : SubP u v g j 0 0 u := ⟨rfl, ou, by omega, rfl, rfl, by simp [val]⟩
def MidP (u : List Int) (V g : Int) (j n : Nat) (o : List Int) : Prop :=
 o.length = u.length ∧ okd (o.take (j + n)) ∧ o.take j = u.take j ∧ o.drop (j + n + 1) = u.drop (j + n + 1) ∧ val o = val u - Bz ^ j * (g * V)
theorem subP_end {u v o : List Int} {g c V : Int} {j n : Nat} (h : SubP u v g j n c o) (hv : KV v n V) (hl : j + n < u.length) : MidP u V g j n (o.set (j + n) (o.getD (j + n) 0 - c)) ∧ o.getD (j + n) 0 - c < 1000000000 ∧ (0 ≤ o.getD (j + n) 0 - c → okd (o.set (j + n) (o.getD (j + n) 0 - c))) := by
 obtain ⟨h1, h2, h3, h4, h5, h6⟩ := h
 have ko := okd_getD h2 (j + n)
 simp only [Bz] at ko
 refine ⟨⟨by simp [h1], ?_, by rw [set_take_lt _ _ _ _ (by omega), h4], ?_, ?_⟩, by omega, fun hh => okd_set h2 _ _ (by simp only [Bz]; omega)⟩
 ·rw [set_take_lt _ _ _ _ (by omega)]; exact okd_take h2 _
 ·rw [drop_set_gt _ _ _ _ (by omega)]; exact drop_congr _ h5 (by omega)
 ·rw [val_set _ _ _ (by omega), h6, List.take_of_length_le (by have := hv.len; omega), hv.value, Nat.add_comm n j]
  grind
def AddP (o1 v : List Int) (j n i : Nat) (c : Int) (o : List Int) : Prop :=
 o.length = o1.length ∧ okd (o.take (j + n)) ∧ (0 ≤ c ∧ c ≤ 1) ∧ o.take j = o1.take j ∧ o.drop (i + j) = o1.drop (i + j) ∧ val o + Bz ^ (i + j) * c = val o1 + Bz ^ j * val (v.take i)
theorem getD_take {l : List Int} {n k : Nat} (h : n < k) : (l.take k).getD n 0 = l.getD n 0 := by
 simp [List.getD_eq_getElem?_getD, List.getElem?_take, h]
theorem addP_step {o1 v o : List Int} {c : Int} {i j n : Nat} (h : AddP o1 v j n i c o) (hl : j + n < o1.length) (hi : i < n) (hv : v.length = n) (ov : okd v) (w : Int) (hw : w = o.getD (i + j) 0 + v.getD i 0 + c) :
  AddP o1 v j n (i + 1) (w / 1000000000) (o.set (i + j) (w % 1000000000)) := by
 obtain ⟨h1, h2, h3, h4, h5, h6⟩ := h
 have ko := okd_getD h2 (i + j)
 rw [getD_take (by omega)] at ko
 have kv := okd_getD ov i
 simp only [Bz] at ko kv
 refine ⟨by simp [h1], ?_, by omega, by rw [set_take_lt _ _ _ _ (by omega), h4], ?_, ?_⟩
 ·rw [List.take_set]; exact okd_set h2 _ _ (by simp only [Bz]; omega)
 ·rw [drop_set_gt _ _ _ _ (by omega)]; exact drop_congr _ h5 (by omega)
 ·rw [val_set _ _ _ (by omega), val_take_succ v i (by omega)]
  have e1 : Bz ^ (i + 1 + j) = Bz ^ (i + j) * Bz := by rw [show i + 1 + j = i + j + 1 from by omega]; exact Int.pow_succ _ _
  have e2 : Bz ^ (i + j) = Bz ^ i * Bz ^ j := Int.pow_add Bz i j
  have e3 := Int.mul_ediv_add_emod w 1000000000
  rw [e1]
  rw [e2] at h6 ⊢
  simp only [Bz] at *
  generalize w / 1000000000 = x at *
  generalize w % 1000000000 = y at *
  grind
theorem addP_zero {u o1 v : List Int} {V g : Int} {j n : Nat} (h : MidP u V g j n o1) : AddP o1 v j n 0 0 o1 := ⟨rfl, h.2.1, by omega, rfl, rfl, by simp [val]⟩
def RoundP (u : List Int) (V g : Int) (j : Nat) (o : List Int) : Prop :=
 o.length = u.length ∧ okd o ∧ o.take j = u.take j ∧ val (o.drop j) = val (u.drop j) - g * V ∧ val (o.drop j) < V
theorem val_drop_of {u o : List Int} {j : Nat} {x : Int} (h1 : o.length = u.length) (h2 : o.take j = u.take j) (h3 : val o = val u + Bz ^ j * x) (hj : j ≤ u.length) : val (o.drop j) = val (u.drop j) + x := by
 have e1 := val_cut o j (by omega)
 have e2 := val_cut u j hj
 rw [h2, h3, e2] at e1
 have hp := bz_pos j
 have e3 : Bz ^ j * (val (o.drop j)) = Bz ^ j * (val (u.drop j) + x) := by rw [Int.mul_add]; omega
 exact Int.eq_of_mul_eq_mul_left (by omega) e3
theorem round_ge {u o1 : List Int} {V g : Int} {j n : Nat} (h : MidP u V g j n o1) (hl : j + n < u.length) (ok : okd o1) (hu : val (u.drop j) < (g + 1) * V) : RoundP u V g j o1 := by
 obtain ⟨h1, h2, h3, h4, h5⟩ := h
 have e := val_drop_of (x := -(g * V)) h1 h3 (by rw [h5, Int.mul_neg]; omega) (by omega)
 refine ⟨h1, ok, h3, by omega, ?_⟩
 rw [e]; rw [Int.add_mul] at hu; omega
theorem round_lt {u v o1 o : List Int} {V g c : Int} {j n : Nat} (h : MidP u V g j n o1) (ha : AddP o1 v j n n c o) (hv : KV v n V) (ou : okd u) (hl : j + n < u.length) (hn : o1.getD (j + n) 0 < 0) (hu : val (u.drop (j + 1)) < V) (hg : g * V < val (u.drop j) + V) (hg0 : 0 ≤ g) :
  1 ≤ g ∧ o.getD (j + n) 0 + c = 0 ∧ RoundP u V (g - 1) j (o.set (j + n) (o.getD (j + n) 0 + c)) := by
 obtain ⟨h1, h2, h3, h4, h5⟩ := h
 obtain ⟨a1, a2, a3, a4, a5, a6⟩ := ha
 have hz := hi_zero ou hu hv.lt
 rw [show j + 1 + n = j + n + 1 from by omega] at hz
 have hp := bz_pos n
 have s1 := val_drop_of (x := -(g * V)) h1 h3 (by rw [h5, Int.mul_neg]; omega) (by omega)
 have s2 := val_cut (o1.drop j) n (by simp; omega)
 rw [List.drop_drop] at s2
 have s3 := val_drop o1 (j + n) (by omega)
 rw [h4, hz] at s3
 have s4 : val ((o1.drop j).take n) < Bz ^ n := by
  have e : (o1.drop j).take n = (o1.take (j + n)).drop j := by rw [List.drop_take, Nat.add_sub_cancel_left]
  have := val_lt (okd_drop h2 j)
  rw [e]
  refine Int.lt_of_lt_of_le this (bz_mono ?_)
  simp; omega
 have s5 : Bz ^ n * o1.getD (j + n) 0 ≤ Bz ^ n * (-1) := Int.mul_le_mul_of_nonneg_left (by omega) (by omega)
 have s6 : val (o1.drop j) < 0 := by rw [s2, s3]; simp only [Int.mul_zero, Int.add_zero]; omega
 have r1 : val (o.set (j + n) (o.getD (j + n) 0 + c)) = val u + Bz ^ j * (-((g - 1) * V)) := by
  rw [val_set _ _ _ (by omega)]
  rw [List.take_of_length_le (by have := hv.len; omega), hv.value, Nat.add_comm n j] at a6
  rw [h5] at a6
  grind
 have r2 := val_drop_of (o := o.set (j + n) (o.getD (j + n) 0 + c)) (by simp; omega) (by rw [set_take_lt _ _ _ _ (by omega), a4, h3]) r1 (by omega)
 have r3 := val_cut ((o.set (j + n) (o.getD (j + n) 0 + c)).drop j) n (by simp; omega)
 rw [List.drop_drop] at r3
 have r4 := val_drop (o.set (j + n) (o.getD (j + n) 0 + c)) (j + n) (by simp; omega)
 rw [getD_set_self _ _ _ (by omega), drop_set_gt o (j + n) (j + n + 1) _ (by omega), drop_congr (j + n + 1) a5 (by omega), h4, hz] at r4
 have e : ((o.set (j + n) (o.getD (j + n) 0 + c)).drop j).take n = (o.take (j + n)).drop j := by
  rw [← set_take_lt o (j + n) (j + n) (o.getD (j + n) 0 + c) (Nat.le_refl _), List.drop_take, Nat.add_sub_cancel_left]
 have r5 : val (((o.set (j + n) (o.getD (j + n) 0 + c)).drop j).take n) < Bz ^ n := by
  have := val_lt (okd_drop a2 j)
  rw [e]
  refine Int.lt_of_lt_of_le this (bz_mono ?_)
  simp; omega
 have r6 : 0 ≤ val (((o.set (j + n) (o.getD (j + n) 0 + c)).drop j).take n) := by rw [e]; exact val_nonneg (okd_drop a2 j)
 have r7 : (g - 1) * V = g * V - V := by rw [Int.sub_mul]; omega
 have hVl := hv.lt
 have hd : o.getD (j + n) 0 + c = 0 := by
  generalize o.getD (j + n) 0 + c = t at *
  apply Classical.byContradiction; intro ht
  rcases Int.lt_or_gt_of_ne ht with h7 | h7
  ·have : Bz ^ n * t ≤ Bz ^ n * (-1) := Int.mul_le_mul_of_nonneg_left (by omega) (by omega)
   rw [r4] at r3; simp only [Int.mul_zero, Int.add_zero] at r3
   omega
  ·have : Bz ^ n * 1 ≤ Bz ^ n * t := Int.mul_le_mul_of_nonneg_left (by omega) (by omega)
   rw [r4] at r3; simp only [Int.mul_zero, Int.add_zero] at r3
   omega
 have hg1 : 1 ≤ g := by
  rcases Int.lt_or_eq_of_le hg0 with h7 | h7
  ·omega
  ·exfalso; rw [← h7] at s1; have := val_nonneg (okd_drop ou j); omega
 refine ⟨hg1, hd, by simp; omega, ?_, by rw [set_take_lt _ _ _ _ (by omega), a4, h3], by omega, by omega⟩
 have e9 : o.set (j + n) (o.getD (j + n) 0 + c) = o.take (j + n) ++ (0 :: o.drop (j + n + 1)) := by
  rw [hd, List.set_eq_take_append_cons_drop, if_pos (by omega)]
 rw [e9, okd_app, okd_cons]
 refine ⟨a2, by simp only [Bz]; omega, ?_⟩
 rw [drop_congr (j + n + 1) a5 (by omega), h4]
 exact okd_drop ou _
structure LonP (S : Int) (v : List Int) (n : Nat) (V : Int) (la j : Nat) (u q : List Int) : Prop where
 lu : u.length = la + 1
 ou : okd u
 lq : q.length = la - n + 1
 oq : okd q
 lt : val (u.drop j) < V
 value : val u + Bz ^ j * (V * val (q.drop j)) = S
theorem lonP_step {S : Int} {v : List Int} {n la j : Nat} {V : Int} {u q o : List Int} {g : Int} (h : LonP S v n V la (j + 1) u q) (hj : j + n ≤ la) (hr : RoundP u V g j o) (hg : 0 ≤ g ∧ g < 1000000000) : LonP S v n V la j o (q.set j g) := by
 obtain ⟨r1, r2, r3, r4, r5⟩ := hr
 refine ⟨by rw [r1, h.lu], r2, by simp [h.lq], okd_set h.oq _ _ hg, r5, ?_⟩
 have e1 := val_cut o j (by have := h.lu; omega)
 have e2 := val_cut u j (by have := h.lu; omega)
 have e3 := h.value
 rw [val_drop_set _ _ _ (by have := h.lq; omega), e1, r3, r4]
 rw [e2, Int.pow_succ] at e3
 grind
theorem lonP_zero {S V : Int} {u : List Int} (v : List Int) {n la : Nat} (hn : n ≤ la) (lu : u.length = la + 1) (ou : okd u) (hS : val u = S) (hb : S < Bz ^ (la - n + 1) * V) : LonP S v n V la (la - n + 1) u (List.replicate (la - n + 1) 0) := by
 refine ⟨lu, ou, by simp, okd_rep _, ?_, ?_⟩
 ·have e := val_cut u (la - n + 1) (by omega)
  have e1 := val_nonneg (okd_take ou (la - n + 1))
  rw [hS] at e
  have hp := bz_pos (la - n + 1)
  apply Classical.byContradiction; intro hc
  have := Int.mul_le_mul_of_nonneg_left (Int.not_lt.1 hc) (show 0 ≤ Bz ^ (la - n + 1) by omega)
  omega
 ·rw [hS, List.drop_of_length_le (by simp)]; simp [val]
theorem lonP_end {s A B : Int} {v u q : List Int} {n la : Nat} (hs : 0 < s) (hB : 0 < B) (hv : KV v n (s * B)) (h : LonP (s * A) v n (s * B) la 0 u q) : val q = A / B ∧ val (u.take n) / s = A % B ∧ val (u.take n) = val u := by
 have h1 := h.value
 have h2 := h.lt
 rw [List.drop_zero] at h2
 rw [List.drop_zero] at h1
 have hlt : val u < Bz ^ n := Int.lt_trans h2 hv.lt
 have hz := hi_zero (k := 0) h.ou (V := s * B) (by simpa using h2) hv.lt
 have hcut : val (u.take n) = val u := by
  by_cases hk : n ≤ u.length
  ·have := val_cut u n hk
   rw [Nat.zero_add] at hz
   rw [hz] at this; simpa using this.symm
  ·rw [List.take_of_length_le (by omega)]
 have h0 := val_nonneg h.ou
 have e : val u = s * (A - B * val q) := by
  have : Bz ^ 0 = 1 := rfl
  rw [this] at h1; grind
 generalize val q = y at *
 have r0 : 0 ≤ A - B * y := by
  apply Classical.byContradiction; intro hc
  have := Int.mul_le_mul_of_nonneg_left (show A - B * y ≤ -1 by omega) (show 0 ≤ s by omega)
  omega
 have r1 : A - B * y < B := by
  apply Classical.byContradiction; intro hc
  have := Int.mul_le_mul_of_nonneg_left (show B ≤ A - B * y by omega) (show 0 ≤ s by omega)
  omega
 have hA : A = B * y + (A - B * y) := by omega
 refine ⟨?_, ?_, hcut⟩
 ·rw [hA, Int.mul_add_ediv_left _ _ (by omega), Int.ediv_eq_zero_of_lt r0 r1]; simp
 ·rw [hcut, e, Int.mul_ediv_cancel_left _ (by omega)]
  conv => rhs; rw [hA, Int.mul_add_emod_self_left, Int.emod_eq_of_lt r0 r1]
theorem scale_ok {t : Int} (h : 1 ≤ t ∧ t < 1000000000) : 1 ≤ 1000000000 / (t + 1) ∧ 1000000000 / (t + 1) ≤ 1000000000 ∧ 1000000000 / (t + 1) * (t + 1) ≤ 1000000000 := by
 have h1 : 1 ≤ 1000000000 / (t + 1) := by rw [Int.le_ediv_iff_mul_le (by omega)]; omega
 have h2 := Int.mul_ediv_add_emod 1000000000 (t + 1)
 have h3 := Int.emod_nonneg 1000000000 (show t + 1 ≠ 0 by omega)
 rw [Int.mul_comm] at h2
 refine ⟨h1, ?_, by omega⟩
 have := Int.mul_le_mul_of_nonneg_left (show 1 ≤ t + 1 by omega) (show 0 ≤ 1000000000 / (t + 1) by omega)
 omega
theorem top_le {b : List Int} {n : Nat} (ob : okd b) (hl : b.length = n + 1) : val b < Bz ^ n * (b.getD n 0 + 1) ∧ Bz ^ n * b.getD n 0 ≤ val b := by
 have h1 := val_cut b n (by omega)
 have h2 := val_drop b n (by omega)
 rw [List.drop_of_length_le (i := n + 1) (by omega), val_nil] at h2
 have h3 : val (b.take n) < Bz ^ n := val_take_lt ob n
 have h4 := val_nonneg (okd_take ob n)
 rw [h2] at h1
 simp only [Int.mul_zero, Int.add_zero] at h1
 rw [Int.mul_add]; omega
theorem long_KV {b vl : List Int} {s : Int} (ob : okd b) (h2 : 2 ≤ b.length) (ht : 1 ≤ b.getD (b.length - 1) 0) (hs : s = 1000000000 / (b.getD (b.length - 1) 0 + 1)) (ov : okd vl) (hv : val vl = s * val b) (hl : vl.length = b.length + 1) : KV (vl.take b.length) b.length (s * val b) := by
 obtain ⟨n, hn⟩ : ∃ n, b.length = n + 1 := ⟨b.length - 1, by omega⟩
 have hb := okd_getD ob (b.length - 1)
 simp only [Bz] at hb
 have hsc := scale_ok ⟨ht, hb.2⟩
 rw [← hs] at hsc
 rw [hn, Nat.add_sub_cancel] at hsc ht hb
 have htl := top_le ob hn
 have hp := bz_pos n
 have hlt : val vl < Bz ^ (n + 1) := by
  rw [hv, Int.pow_succ]
  have a1 : s * val b < s * (Bz ^ n * (b.getD n 0 + 1)) := Int.mul_lt_mul_of_pos_left htl.1 (by omega)
  have a2 : Bz ^ n * (s * (b.getD n 0 + 1)) ≤ Bz ^ n * Bz := Int.mul_le_mul_of_nonneg_left hsc.2.2 (by omega)
  rw [Int.mul_left_comm] at a1
  omega
 have hz : val (vl.drop (n + 1)) = 0 := by
  have := hi_zero (k := 0) (n := n + 1) (V := Bz ^ (n + 1)) ov
  by_cases hh : val vl < Bz ^ (n + 1)
  ·have e := val_cut vl (n + 1) (by omega)
   have e1 := val_nonneg (okd_take ov (n + 1))
   have e2 := val_nonneg (okd_drop ov (n + 1))
   rcases Int.lt_or_eq_of_le e2 with h4 | h4
   ·exfalso
    have := Int.mul_le_mul_of_nonneg_left (show 1 ≤ val (vl.drop (n + 1)) by omega) (show 0 ≤ Bz ^ (n + 1) by have := bz_pos (n + 1); omega)
    omega
   ·exact h4.symm
  ·exact absurd hlt hh
 have hvt : val (vl.take (n + 1)) = s * val b := by
  have e := val_cut vl (n + 1) (by omega)
  rw [hz, hv] at e; simpa using e.symm
 rw [hn]
 refine ⟨by simp; omega, okd_take ov _, by omega, hvt, ?_⟩
 rw [Nat.add_sub_cancel]
 have e := top_le (okd_take ov (n + 1)) (n := n) (by simp; omega)
 rw [hvt] at e
 have a1 : Bz ^ n * 1 ≤ Bz ^ n * b.getD n 0 := Int.mul_le_mul_of_nonneg_left ht (by omega)
 have a2 : 1 * val b ≤ s * val b := Int.mul_le_mul_of_nonneg_right hsc.1 (val_nonneg ob)
 apply Classical.byContradiction; intro hc
 have a3 : Bz ^ n * ((vl.take (n + 1)).getD n 0 + 1) ≤ Bz ^ n * 1 := Int.mul_le_mul_of_nonneg_left (by omega) (by omega)
 omega
theorem long_S {a b : List Int} {s : Int} (oa : okd a) (hb0 : 1 ≤ b.length) (ht : 1 ≤ b.getD (b.length - 1) 0) (ob : okd b) (hl : b.length ≤ a.length) (hs : 0 < s) : s * val a < Bz ^ (a.length - b.length + 1) * (s * val b) := by
 obtain ⟨n, hn⟩ : ∃ n, b.length = n + 1 := ⟨b.length - 1, by omega⟩
 have htl := top_le ob hn
 rw [hn, Nat.add_sub_cancel] at ht
 have hp := bz_pos n
 have a1 : Bz ^ n * 1 ≤ Bz ^ n * b.getD n 0 := Int.mul_le_mul_of_nonneg_left ht (by omega)
 have a2 := val_lt oa
 have e : Bz ^ a.length = Bz ^ (a.length - b.length + 1) * Bz ^ n := by rw [← Int.pow_add]; congr 1; omega
 have hq := bz_pos (a.length - b.length + 1)
 have a3 : Bz ^ (a.length - b.length + 1) * Bz ^ n ≤ Bz ^ (a.length - b.length + 1) * val b := Int.mul_le_mul_of_nonneg_left (by omega) (by omega)
 rw [Int.mul_left_comm]
 exact Int.mul_lt_mul_of_pos_left (by omega) hs
theorem blk_cut [SpC] {i : Nat} {c : HC} {st : St} {Φ : Ex → St → Prop} (R : St → Prop) (h : ∀ s, R s → Φ .normal s) (hb : @W X c st (blkQ i (norQ R))) : @W X c st (blkQ i Φ) := by
 refine @W_mono X c st _ _ hb fun e s hh => ?_
 cases e with
 | normal => exact h s hh
 | ret => exact hh.elim
 | exit k =>
  rw [blkQ_exit] at hh ⊢
  by_cases hk : k = i
  ·rw [if_pos hk] at hh ⊢; exact h s hh
  ·rw [if_neg hk] at hh; exact hh.elim
def LFr (s : Int) (la n : Nat) (vl : List Int) (j : Int) (q : List Int) (st : St) : Prop :=
 st.env 6 = .int .i64 s ∧ st.env 7 = .sl 104 0 (la + 1) none 1 ∧ st.env 8 = .sl 128 0 n none 1 ∧ st.env 9 = .int .i64 n ∧ st.env 10 = .sl 240 0 (la - n + 1) (some (la - n + 1)) 1 ∧ st.env 11 = .int .i64 j ∧
  st.heap 128 = some (.cells (ints vl) true false) ∧ st.heap 240 = some (.cells (ints q) false false) ∧ 240 < st.next
theorem LFr_eq (s : Int) (la n : Nat) (vl : List Int) (j : Int) (q : List Int) (st : St) : LFr s la n vl j q st = (
 st.env 6 = .int .i64 s ∧ st.env 7 = .sl 104 0 (la + 1) none 1 ∧ st.env 8 = .sl 128 0 n none 1 ∧ st.env 9 = .int .i64 n ∧ st.env 10 = .sl 240 0 (la - n + 1) (some (la - n + 1)) 1 ∧ st.env 11 = .int .i64 j ∧
  st.heap 128 = some (.cells (ints vl) true false) ∧ st.heap 240 = some (.cells (ints q) false false) ∧ 240 < st.next) := nr rfl
theorem M_244 [SpC] (a b : List Int) (ha : a.length < 2 ^ 28) (oa : okd a) (ob : okd b) (h2 : 2 ≤ b.length) (hl : b.length ≤ a.length) (ht : 1 ≤ b.getD (b.length - 1) 0) :
  ∃ q r, M X 244 [isl a, isl b] = some (.tuple [isl q, isl r]) ∧ okd q ∧ okd r ∧ val q = val a / val b ∧ val r = val a % val b ∧ q.length ≤ a.length ∧ r.length ≤ a.length := by
 suffices h : ∃ x, (∃ q r, x = .tuple [isl q, isl r] ∧ okd q ∧ okd r ∧ val q = val a / val b ∧ val r = val a % val b ∧ q.length ≤ a.length ∧ r.length ≤ a.length) ∧ M X 244 [isl a, isl b] = some x by
  obtain ⟨x, ⟨q, r, rfl, h1⟩, h2⟩ := h
  exact ⟨q, r, h2, h1⟩
 refine M_ex (fn := Tryz.f244) Tryz.func244 rfl ok_244 mode_244 res_244 _ rfl _ ?_
 have hb := okd_getD ob (b.length - 1)
 simp only [Bz] at hb
 have hsc := scale_ok ⟨ht, hb.2⟩
 obtain ⟨s, hs⟩ : ∃ s, s = 1000000000 / (b.getD (b.length - 1) 0 + 1) := ⟨_, rfl⟩
 rw [← hs] at hsc
 obtain ⟨u, u1, u2, u3, u4⟩ := M_251 a s (by omega) oa ⟨by omega, hsc.2.1⟩
 obtain ⟨vl, v1, v2, v3, v4⟩ := M_251 b s (by omega) ob ⟨by omega, hsc.2.1⟩
 have kv := long_KV ob h2 ht hs v2 v3 v4
 simp (maxSteps := 4000000) (disch := first | omega | (simp only [LL]; omega)) only [go_sem, ← hs, mode_251, u1, v1, v4, u4]
 refine W_loop X (fun (m : Nat) st => m ≤ a.length - b.length + 1 ∧ ∃ u q, LFr s a.length b.length vl ((m : Int) - 1) q st ∧ st.heap 104 = some (.cells (ints u) true false) ∧ LonP (s * val a) (vl.take b.length) b.length (s * val b) a.length m u q) (fun m => m) ?_ (a.length - b.length + 1) _ ?_
 ·clear u1 u2 u3 u4 u
  rintro m ⟨env, heap, nx⟩ ⟨hm, u, q, hf, h104, hlon⟩
  obtain ⟨f6, f7, f8, f9, f10, f11, f128, f240, fnx⟩ := hf
  simp only at f6 f7 f8 f9 f10 f11 f128 f240 fnx h104
  have hlu := hlon.lu
  have hlq := hlon.lq
  obtain _ | j := m
  ·obtain ⟨r, r1, r2, r3, r4⟩ := M_243 (u.take b.length) s (by simp; omega) (okd_take hlon.ou _) ⟨by omega, by omega⟩
   have hend := lonP_end (by omega) (by
    have := top_le ob (n := b.length - 1) (by omega)
    have hp := bz_pos (b.length - 1)
    have := Int.mul_le_mul_of_nonneg_left ht (show 0 ≤ Bz ^ (b.length - 1) by omega)
    omega) kv hlon
   simp (maxSteps := 4000000) (disch := first | omega | (simp only [LL]; omega)) only [go_sem, f6, f7, f8, f9, f10, f11, f128, f240, h104, hlu, hlq, mode_243, r1]
   refine ⟨q, r, rfl, hlon.oq, r2, hend.1, by rw [r3, hend.2.1], by omega, ?_⟩
   rw [r4, List.length_take]; omega
  ·obtain ⟨kn', hU, hU0⟩ := round_KN (j := j) kv hlon.ou (by omega) hlon.lt
   rw [getD_take (by omega), getD_take (by omega)] at kn'
   obtain ⟨T, hT⟩ : ∃ T, T = u.getD (j + b.length) 0 * 1000000000 + u.getD (j + b.length - 1) 0 := ⟨_, rfl⟩
   have kn : KN (val (u.drop j)) (s * val b) (Bz ^ (b.length - 2)) T (vl.getD (b.length - 1) 0) (vl.getD (b.length - 2) 0) (u.getD (j + b.length - 2) 0) := by rw [hT]; exact kn'
   clear kn'
   have hv1 : 1 ≤ vl.getD (b.length - 1) 0 ∧ vl.getD (b.length - 1) 0 < 1000000000 := kn.hv1
   have hv2 : 0 ≤ vl.getD (b.length - 2) 0 ∧ vl.getD (b.length - 2) 0 < 1000000000 := kn.hv2
   have hu2 : 0 ≤ u.getD (j + b.length - 2) 0 ∧ u.getD (j + b.length - 2) 0 < 1000000000 := kn.hu2
   have d0 : 0 ≤ u.getD (j + b.length) 0 ∧ u.getD (j + b.length) 0 < 1000000000 := okd_getD hlon.ou _
   have d1 : 0 ≤ u.getD (j + b.length - 1) 0 ∧ u.getD (j + b.length - 1) 0 < 1000000000 := okd_getD hlon.ou _
   have hT0 : 0 ≤ T ∧ T < 1000000000000000000 := by omega
   have hj : j + b.length ≤ a.length := by omega
   simp (maxSteps := 4000000) (disch := first | omega | (simp only [LL]; omega)) only [go_sem, f6, f7, f8, f9, f10, f11, f128, f240, h104, hlu, hlq, v4, ← hT]
   refine blk_cut (fun st => LFr s a.length b.length vl j q st ∧ st.heap 104 = some (.cells (ints u) true false) ∧ ∃ g, st.env 13 = .int .i64 g ∧ (0 ≤ g ∧ g < 1000000000) ∧ val (u.drop j) < (g + 1) * (s * val b) ∧ g * (s * val b) < val (u.drop j) + s * val b) ?_ ?_
   ·clear f6 f7 f8 f9 f10 f11 f128 f240 fnx h104
    rintro ⟨env, heap, nx⟩ ⟨hf, h104, g, g13, hg, hg1, hg2⟩
    obtain ⟨f6, f7, f8, f9, f10, f11, f128, f240, fnx⟩ := hf
    simp only at f6 f7 f8 f9 f10 f11 f128 f240 fnx h104 g13
    simp (maxSteps := 4000000) (disch := first | omega | (simp only [LL]; omega)) only [go_sem, f6, f7, f8, f9, f10, f11, f128, f240, h104, hlu, hlq, v4, g13]
    refine W_loop X (fun (i : Nat) st => i ≤ b.length ∧ LFr s a.length b.length vl j q st ∧ st.env 13 = .int .i64 g ∧ st.env 117 = .int .i64 b.length ∧ st.env 118 = .int .i64 i ∧ ∃ o c, st.heap 104 = some (.cells (ints o) true false) ∧ st.env 15 = .int .i64 c ∧ SubP u (vl.take b.length) g j i c o) (fun i => b.length - i) ?_ 0 _ ?_
    ·clear f6 f7 f8 f9 f10 f11 f128 f240 fnx h104 g13
     rintro i ⟨env, heap, nx⟩ ⟨hi, hf, g13, g117, g118, o, c, h104, g15, hs'⟩
     obtain ⟨f6, f7, f8, f9, f10, f11, f128, f240, fnx⟩ := hf
     simp only at f6 f7 f8 f9 f10 f11 f128 f240 fnx h104 g13 g117 g118 g15
     have lo : o.length = a.length + 1 := by rw [hs'.1, hlu]
     have hc := hs'.2.2.1
     by_cases hi2 : i < b.length
     ·have ko := okd_getD hs'.2.1 (i + j)
      have kvi := okd_getD v2 i
      have hm' := mul_dig hg kvi
      simp only [Bz] at ko kvi
      have hgt : (vl.take b.length).getD i 0 = vl.getD i 0 := getD_take hi2
      by_cases hw : o.getD (i + j) 0 - g * vl.getD i 0 - c < 0
      ·have hn := subP_lt hs' (by omega) (by rw [kv.len]; exact hi2) kv.ok hg _ _ (by rw [hgt]) hw rfl
       simp (maxSteps := 4000000) (disch := first | omega | (simp only [LL]; omega)) only [go_sem, LFr_eq, f6, f7, f8, f9, f10, f11, f128, f240, h104, hlu, hlq, v4, g13, g117, g118, g15, lo]
       exact ⟨i + 1, ⟨by omega, by omega, rfl, _, _, rfl, rfl, hn⟩, by omega⟩
      ·have hn := subP_ge hs' (by omega) (by rw [kv.len]; exact hi2) kv.ok hg _ (by rw [hgt]) (Int.not_lt.1 hw)
       simp (maxSteps := 4000000) (disch := first | omega | (simp only [LL]; omega)) only [go_sem, LFr_eq, f6, f7, f8, f9, f10, f11, f128, f240, h104, hlu, hlq, v4, g13, g117, g118, g15, lo]
       exact ⟨i + 1, ⟨by omega, by omega, rfl, _, _, rfl, rfl, hn⟩, by omega⟩
     ·have hi' : i = b.length := by omega
      subst hi'
      have ko := okd_getD hs'.2.1 (j + b.length)
      simp only [Bz] at ko
      obtain ⟨e1, e2, e3⟩ := subP_end hs' kv (by omega)
      by_cases hw : o.getD (j + b.length) 0 - c < 0
      ·simp (maxSteps := 4000000) (disch := first | omega | (simp only [LL]; omega)) only [go_sem, LFr_eq, f6, f7, f8, f9, f10, f11, f128, f240, h104, hlu, hlq, v4, g13, g117, g118, g15, lo, getD_set_self]
       obtain ⟨o1, ho1⟩ : ∃ o1, o1 = o.set (j + b.length) (o.getD (j + b.length) 0 - c) := ⟨_, rfl⟩
       rw [← ho1] at e1 ⊢
       have hneg : o1.getD (j + b.length) 0 < 0 := by rw [ho1, getD_set_self _ _ _ (by omega)]; exact hw
       have hneg2 : -1000000000 ≤ o1.getD (j + b.length) 0 := by rw [ho1, getD_set_self _ _ _ (by omega)]; omega
       have lo1 : o1.length = a.length + 1 := by rw [ho1]; simp [lo]
       refine W_loop X (fun (i : Nat) st => i ≤ b.length ∧ LFr s a.length b.length vl j q st ∧ st.env 13 = .int .i64 (g - 1) ∧ st.env 172 = .int .i64 b.length ∧ st.env 173 = .int .i64 i ∧ ∃ o c, st.heap 104 = some (.cells (ints o) true false) ∧ st.env 15 = .int .i64 c ∧ AddP o1 (vl.take b.length) j b.length i c o) (fun i => b.length - i) ?_ 0 _ ?_
       ·clear f6 f7 f8 f9 f10 f11 f128 f240 fnx h104 g13 g117 g118 g15 lo ho1 hw e2 e3 ko hc hs' hi
        rintro i ⟨env, heap, nx⟩ ⟨hi, hf, g13, g172, g173, o2, c2, h104, g15, ha'⟩
        obtain ⟨f6, f7, f8, f9, f10, f11, f128, f240, fnx⟩ := hf
        simp only at f6 f7 f8 f9 f10 f11 f128 f240 fnx h104 g13 g172 g173 g15
        have lo : o2.length = a.length + 1 := by rw [ha'.1, lo1]
        have hc := ha'.2.2.1
        by_cases hi2 : i < b.length
        ·have ko := okd_getD ha'.2.1 (i + j)
         rw [getD_take (by omega)] at ko
         have kvi := okd_getD v2 i
         simp only [Bz] at ko kvi
         have hgt : (vl.take b.length).getD i 0 = vl.getD i 0 := getD_take hi2
         have hn := addP_step ha' (by omega) hi2 kv.len kv.ok _ (by rw [hgt])
         simp (maxSteps := 4000000) (disch := first | omega | (simp only [LL]; omega)) only [go_sem, LFr_eq, f6, f7, f8, f9, f10, f11, f128, f240, h104, hlu, hlq, v4, g13, g172, g173, g15, lo]
         exact ⟨i + 1, ⟨by omega, by omega, rfl, _, _, rfl, rfl, hn⟩, by omega⟩
        ·have hi' : i = b.length := by omega
         subst hi'
         obtain ⟨e4, e5, e6⟩ := round_lt e1 ha' kv hlon.ou (by omega) hneg hlon.lt hg2 hg.1
         have e7 := getD_congr (j + b.length) ha'.2.2.2.2.1 (by omega)
         have hn := lonP_step hlon hj e6 (by omega)
         simp (maxSteps := 4000000) (disch := first | omega | (simp only [LL]; omega)) only [go_sem, LFr_eq, f6, f7, f8, f9, f10, f11, f128, f240, h104, hlu, hlq, v4, g13, g172, g173, g15, lo]
         exact ⟨j, ⟨by omega, _, _, ⟨rfl, rfl, by omega⟩, rfl, hn⟩, by omega⟩
       ·have hz := addP_zero (v := vl.take b.length) e1
        simp (maxSteps := 4000000) (disch := first | omega | (simp only [LL]; omega)) only [go_sem, LFr_eq, f6, f7, f8, f9, f10, f11, f128, f240, h104, hlu, hlq, v4, g13, g117, g118, g15, lo]
        exact ⟨by omega, _, _, rfl, rfl, hz⟩
      ·have hr := round_ge e1 (by omega) (e3 (Int.not_lt.1 hw)) hg1
       have hn := lonP_step hlon hj hr hg
       simp (maxSteps := 4000000) (disch := first | omega | (simp only [LL]; omega)) only [go_sem, LFr_eq, f6, f7, f8, f9, f10, f11, f128, f240, h104, hlu, hlq, v4, g13, g117, g118, g15, lo, getD_set_self]
       exact ⟨j, ⟨by omega, _, _, ⟨rfl, rfl, by omega⟩, rfl, hn⟩, by omega⟩
    ·have hz := subP_zero u (vl.take b.length) g j hlon.ou
     simp (maxSteps := 4000000) (disch := first | omega | (simp only [LL]; omega)) only [go_sem, LFr_eq, f6, f7, f8, f9, f10, f11, f128, f240, h104, hlu, hlq, v4, g13]
     exact ⟨by omega, _, _, rfl, rfl, hz⟩
   ·refine W_loop X (fun (g : Int) st => LFr s a.length b.length vl j q st ∧ st.heap 104 = some (.cells (ints u) true false) ∧ st.env 13 = .int .i64 g ∧ (0 ≤ g ∧ g ≤ 1000000000000000000) ∧ ∃ rest, st.env 14 = .int .i64 rest ∧ g * vl.getD (b.length - 1) 0 + rest = T ∧ (0 ≤ rest ∧ rest < 1000000000) ∧ val (u.drop j) < (g + 1) * (s * val b)) (fun g => g.toNat) ?_ (T / vl.getD (b.length - 1) 0) _ ?_
    ·clear f6 f7 f8 f9 f10 f11 f128 f240 fnx h104
     rintro g ⟨env, heap, nx⟩ ⟨hf, h104, g13, hg, rest, g14, hgr, hr, hgu⟩
     obtain ⟨f6, f7, f8, f9, f10, f11, f128, f240, fnx⟩ := hf
     simp only at f6 f7 f8 f9 f10 f11 f128 f240 fnx h104 g13 g14
     have hstep : ∀ (hc : Bz ≤ g ∨ rest * Bz + u.getD (j + b.length - 2) 0 < g * vl.getD (b.length - 2) 0), val (u.drop j) < (g - 1 + 1) * (s * val b) ∧ 1 ≤ g ∧ (g - 1) * vl.getD (b.length - 1) 0 + (rest + vl.getD (b.length - 1) 0) = T := by
      intro hc
      obtain ⟨x1, x2⟩ := kn.step hU hgr hg.1 hc hU0
      exact ⟨by rw [Int.sub_add_cancel]; exact x1, x2, by rw [Int.sub_mul]; omega⟩
     by_cases hA : 1000000000 ≤ g
     ·obtain ⟨x1, x2, x3⟩ := hstep (.inl hA)
      by_cases hB : 1000000000 ≤ rest + vl.getD (b.length - 1) 0
      ·obtain ⟨y1, y2⟩ := kn.brk x3 (by omega) hB
       have y3 := kn.fin x3 ⟨by omega, y1⟩ y2
       simp (maxSteps := 4000000) (disch := first | omega | (simp only [LL]; omega)) only [go_sem, LFr_eq, f6, f7, f8, f9, f10, f11, f128, f240, h104, hlu, hlq, v4, g13, g14, norQ_normal]
       exact ⟨by omega, g - 1, rfl, ⟨by omega, y1⟩, x1, y3⟩
      ·simp (maxSteps := 4000000) (disch := first | omega | (simp only [LL]; omega)) only [go_sem, LFr_eq, f6, f7, f8, f9, f10, f11, f128, f240, h104, hlu, hlq, v4, g13, g14, norQ_normal]
       exact ⟨g - 1, ⟨by omega, rfl, by omega, _, rfl, x3, by omega, x1⟩, by omega⟩
     ·have hgv := mul_dig ⟨hg.1, by omega⟩ hv2
      by_cases hC : rest * 1000000000 + u.getD (j + b.length - 2) 0 < g * vl.getD (b.length - 2) 0
      ·obtain ⟨x1, x2, x3⟩ := hstep (.inr hC)
       by_cases hB : 1000000000 ≤ rest + vl.getD (b.length - 1) 0
       ·obtain ⟨y1, y2⟩ := kn.brk x3 (by omega) hB
        have y3 := kn.fin x3 ⟨by omega, y1⟩ y2
        simp (maxSteps := 4000000) (disch := first | omega | (simp only [LL]; omega)) only [go_sem, LFr_eq, f6, f7, f8, f9, f10, f11, f128, f240, h104, hlu, hlq, v4, g13, g14, norQ_normal]
        exact ⟨by omega, g - 1, rfl, ⟨by omega, y1⟩, x1, y3⟩
       ·simp (maxSteps := 4000000) (disch := first | omega | (simp only [LL]; omega)) only [go_sem, LFr_eq, f6, f7, f8, f9, f10, f11, f128, f240, h104, hlu, hlq, v4, g13, g14, norQ_normal]
        exact ⟨g - 1, ⟨by omega, rfl, by omega, _, rfl, x3, by omega, x1⟩, by omega⟩
      ·have y3 := kn.fin hgr ⟨hg.1, by simp only [Bz]; omega⟩ (by simp only [Bz]; omega)
       simp (maxSteps := 4000000) (disch := first | omega | (simp only [LL]; omega)) only [go_sem, LFr_eq, f6, f7, f8, f9, f10, f11, f128, f240, h104, hlu, hlq, v4, g13, g14, norQ_normal]
       exact ⟨by omega, g, rfl, ⟨hg.1, by omega⟩, hgu, y3⟩
    ·have hz := kn.init
     have hz1 := Int.mul_ediv_add_emod T (vl.getD (b.length - 1) 0)
     have hz2 := Int.emod_nonneg T (show vl.getD (b.length - 1) 0 ≠ 0 by omega)
     have hz3 := Int.emod_lt_of_pos T (show 0 < vl.getD (b.length - 1) 0 by omega)
     have hz4 := IntWalk.tdiv_le T (vl.getD (b.length - 1) 0) hT0.1 hv1.1
     rw [Int.mul_comm] at hz1
     simp (maxSteps := 4000000) (disch := first | omega | (simp only [LL]; omega)) only [go_sem, LFr_eq, f6, f7, f8, f9, f10, f11, f128, f240, h104, hlu, hlq, v4]
     exact ⟨by omega, by omega, _, rfl, hz1, by omega, hz⟩
 ·have hz := lonP_zero (S := s * val a) (V := s * val b) (u := u) (vl.take b.length) hl u4 u2 u3 (long_S oa (by omega) ht ob hl (by omega))
  simp (maxSteps := 4000000) (disch := first | omega | (simp only [LL]; omega)) only [go_sem, LFr_eq, v4, u4]
  exact ⟨_, _, rfl, rfl, hz⟩
end Go.Proofs.YtenhjccadhlgoaaGreat.Abs
