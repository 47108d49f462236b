/-
  From what the interpreter answers to the given rows: arguments that are slices of whole numbers and whole numbers, the table of functions that the program's start lays. No conditions. The documented example: lives. Conditions: what Sorted answers there. The documented example's three boxes, sorted. No conditions. The laws BroadMeets and BroadJoins answer true. Conditions: what Sorted answers in the example. Shapes and corners, and the law BroadSwept. Conditions: what Sorted answers in the example. A coordinate on a way: the least and the greatest value are reached, and the parts of a time joined are the whole. Plain. No conditions.
-/
import Derived.Test.YtjccikgdebgebaaGreatDoorQ15
import Derived.Test.YtjccikgdebgebaaGreatDoorRows
import Derived.ProofKit
import Derived.LaidMore
import Derived.OpenShut
import Derived.SizedLaws
import Derived.ChangeBears2
import Derived.Stop.Joined
import Derived.Test.YtjccikgdebgebaaGreatDoorQ10
set_option linter.unusedSimpArgs false
set_option linter.unusedVariables false
section
set_option linter.unusedSimpArgs false
set_option maxRecDepth 100000
namespace Go.Proofs.YtjccikgdebgebaaGreatDoor.Abs
open Go Go.ChangeShapes Go.WideShapes Go.ChangeAt Go.RowKit
inductive Arg where
  | s (l : List Int)
  | i (n : Int)
def Arg.ty : Arg → TypeId
  | .s _ => 22
  | .i _ => 3
def Arg.av : Arg → AV
  | .s l => isl l
  | .i n => .int .i64 n
def Arg.ok : Arg → Prop
  | .s l => okI l ∧ l.length < 2 ^ 60
  | .i n => ok64 n
abbrev noW : Nat → Prop := fun _ => False
noncomputable abbrev PR : Program := Tryz.prog
theorem cellsInt : PR.cellsOf 3 = 1 := by kernel_rfl
theorem bytesInt : PR.bytesOf 3 = 8 := by kernel_rfl
theorem laidOut : laidOutB PR = true := by kernel_rfl
/-- What the row's bound on a size says of one argument. -/
def Fits {H : Type} (t : TypeId) (d : DataW H) : Prop := ∀ elems spare e, d = .slice elems spare → PR.underlying t = some (.slice e) → (elems.length + spare.length) * PR.bytesOf e ≤ reachBytes
theorem open_arg {H : Type} {enc : TypeId × Value → H} {W : World} {base : Nat} {sp : Nat → Bool} {t : TypeId} {v : Value} {d : DataW H} {p : List MemPlace} (ht : t = 22 ∨ t = 3) (hval : Value.okWide PR W .any base t v) (h0 : DataW.Trod enc PR W 0 sp true t v d p) (hf : Fits t d) :
    ∃ a : Arg, a.ty = t ∧ a.ok ∧ Rep W noW noMu v a.av := by
  rcases ht with rfl | rfl
  · obtain ⟨a0, len, cap, rfl⟩ := okWide_slice Tryz.underlying22 hval
    obtain ⟨fuel, h0⟩ := h0
    rcases open_ints Tryz.underlying22 Tryz.underlying3 cellsInt h0 with ⟨hcs, hx⟩ | ⟨a, len', cap', zs, hcs, _, hl, hm, hz, hx, hcell, hwz⟩
    · simp [Value.cells] at hcs
      obtain ⟨rfl, rfl, rfl⟩ := hcs
      exact ⟨.s [], rfl, ⟨by intro x hx; simp at hx, by simp⟩, .ro0 _ _ _ _ (by simp)⟩
    · simp [Value.cells] at hcs
      obtain ⟨rfl, rfl, rfl⟩ := hcs
      have hlz : len ≤ zs.length := by rw [hz]; split <;> omega
      have hbig : len * 8 ≤ reachBytes := by
        simp only [Prod.mk.injEq] at hx
        have := hf _ _ _ hx.1 Tryz.underlying22
        rw [bytesInt] at this
        simp only [lits, List.length_map, List.length_take, List.length_drop] at this
        omega
      have hok : okI (zs.take len) := by
        intro x hx
        have := bounds_i64 (hwz x (List.mem_of_mem_take hx))
        exact ⟨by omega, by omega⟩
      have hlen : (zs.take len).length = len := by rw [List.length_take]; omega
      refine ⟨.s (zs.take len), rfl, ⟨hok, by rw [hlen]; unfold reachBytes at hbig; omega⟩, ?_⟩
      show Rep W noW noMu (.slice (some a) len cap) (.ro (ints (zs.take len)) (zs.take len).length false)
      rw [hlen]
      by_cases h0 : len = 0
      · subst h0
        rw [List.take_zero]
        exact .ro0 _ _ _ _ (by simp)
      · obtain ⟨B, o, spot⟩ := a
        have hspot : spot = none := by simpa [Addr.add] using World.cell?_spot (hcell 0 (by omega))
        subst hspot
        have hc : ∀ i, i < len → W.cell? ⟨B, o + i, none⟩ = some (.int .i64 (zs.getD i 0)) := fun i hi => by
          rw [← add_plain]; exact hcell i (by omega)
        have hB : B < W.heap.size := by
          have := hc 0 (by omega)
          unfold World.cell? at this
          simp only at this
          rcases Nat.lt_or_ge B W.heap.size with h | h
          · exact h
          · rw [Array.getElem?_eq_none h] at this; simp at this
        have hg : ∀ i x, (ints (zs.take len))[i]? = some x → i < len ∧ x = .int .i64 (zs.getD i 0) := by
          intro i x hx
          rw [ints_getD, hlen] at hx
          split at hx
          · rename_i hi
            refine ⟨hi, ?_⟩
            injection hx with hx
            rw [← hx, List.getD_eq_getElem?_getD, List.getElem?_take, if_pos hi, List.getD_eq_getElem?_getD]
          · simp at hx
        refine .ro _ B o len cap _ false (fun i => .int .i64 (zs.getD i 0)) hB (fun h => h) hl (by simp) (fun i x hx => hc i (hg i x hx).1) (fun i x hx => ?_) (fun i x hx => ?_)
        · rw [(hg i x hx).2]; exact .int _ _ _
        · rw [(hg i x hx).2]; rfl
  · obtain ⟨n, rfl, rfl, _, hw⟩ := open_int Tryz.underlying3 hval h0
    have := bounds_i64 hw
    exact ⟨.i n, rfl, ⟨by omega, by omega⟩, .int _ _ _⟩
theorem open_args {H : Type} {enc : TypeId × Value → H} {W : World} {base : Nat} {sp : Nat → Bool} : ∀ (ts : List TypeId) (vs : List Value) (ds : List (DataW H)) (p : List MemPlace), (∀ t ∈ ts, t = 22 ∨ t = 3) →
    (∀ (j : Nat) t v, ts[j]? = some t → vs[j]? = some v → Value.okWide PR W .any base t v) → (∀ (j : Nat) t d, ts[j]? = some t → ds[j]? = some d → Fits t d) → DataW.TrodAll enc PR W 0 sp true ts vs ds p →
    ∃ bs : List Arg, bs.map Arg.ty = ts ∧ (∀ a ∈ bs, a.ok) ∧ vs.length = bs.length ∧ ∀ (i : Nat) v a, vs[i]? = some v → bs[i]? = some a → Rep W noW noMu v a.av
  | [], vs, ds, p, _, _, _, h => by
    obtain ⟨rfl, rfl, rfl⟩ := trodAll_nil h
    exact ⟨[], rfl, by simp, rfl, by simp⟩
  | t :: ts, vs, ds, p, ht, hv, hf, h => by
    obtain ⟨v, vs', d, ds', p1, q, rfl, rfl, rfl, hd, hrest⟩ := trodAll_cons h
    obtain ⟨a, a1, a2, a3⟩ := open_arg (ht t (by simp)) (hv 0 t v rfl rfl) hd (hf 0 t d rfl rfl)
    obtain ⟨bs, b1, b2, b3, b4⟩ := open_args ts vs' ds' q (fun t ht' => ht t (by simp [ht'])) (fun j t v h1 h2 => hv (j + 1) t v h1 h2) (fun j t d h1 h2 => hf (j + 1) t d h1 h2) hrest
    refine ⟨a :: bs, by simp [a1, b1], fun x hx => ?_, by simp [b3], fun i v' a' hv' ha' => ?_⟩
    · simp only [List.mem_cons] at hx
      rcases hx with rfl | hx
      · exact a2
      · exact b2 x hx
    · match i with
      | 0 => simp at hv' ha'; subst hv'; subst ha'; exact a3
      | i + 1 => exact b4 i v' a' (by simpa using hv') (by simpa using ha')
theorem trodAll_below {H : Type} {enc : TypeId × Value → H} {W W' : World} (hB : Below W.heap.size W W') : ∀ (ts : List TypeId) (vs : List Value) (ds : List (DataW H)) (p : List MemPlace), (∀ t ∈ ts, PR.readableRec t = true ∧ t < PR.types.size) → DataW.TrodAll enc PR W 0 (fun _ => true) true ts vs ds p → (∀ x ∈ p, x.block < W.heap.size) →
    DataW.TrodAll enc PR W' 0 (fun b => decide (b < W.heap.size)) true ts vs ds p
  | [], vs, ds, p, _, h, _ => by
    obtain ⟨rfl, rfl, rfl⟩ := trodAll_nil h
    rfl
  | t :: ts, vs, ds, p, hr, h, hlt => by
    obtain ⟨v, vs', d, ds', p1, q, rfl, rfl, rfl, hd, hrest⟩ := trodAll_cons h
    exact ⟨p1, q, Below.trod laidOut (hr t (by simp)).1 (hr t (by simp)).2 hd hB (fun x hx => hlt x (by simp [hx])), trodAll_below hB ts vs' ds' q (fun t ht => hr t (by simp [ht])) hrest (fun x hx => hlt x (by simp [hx])), rfl⟩
/-! ### The table of functions -/
theorem own : ownKnob PR.godebug = none := by kernel_rfl
noncomputable abbrev laidL : List (String × DataW Unit) := Rows.broadSweptRow.laid
theorem door_met (os : Os) (args : Array Value) : laidMetH PR laidL ((World.doorLaid PR 400 os).forCall (fun _ _ => 0) ⟨#[], args, []⟩).memory :=
  laidMetH_of_parts3 (fuel := 8) (laidMet_of_run' 8 (by kernel_rfl) (by kernel_rfl)) (by kernel_rfl) (by kernel_rfl)
/-- The table's cells. -/
theorem of_laid {W : World} (h : laidMetH PR laidL W) : 0 < W.heap.size ∧ W.cell? ⟨0, 0, none⟩ = some (.func (.func 189) #[] #[]) ∧ W.cell? ⟨0, 1, none⟩ = some (.func (.func 190) #[] #[]) ∧
    W.cell? ⟨0, 2, none⟩ = some (.func (.func 191) #[] #[]) ∧ W.cell? ⟨0, 3, none⟩ = some (.func (.func 192) #[] #[]) := by
  obtain ⟨g, t, cs, fuel, p, hg, ht, hv, hd⟩ := h.funcs (List.mem_cons_self ..)
  obtain rfl : 0 = g := Option.some.inj (Eq.trans (by kernel_rfl) hg)
  obtain rfl : 81 = t := Option.some.inj (Eq.trans (by kernel_rfl) ht)
  obtain ⟨xs, m, rfl, hx, hlen, hn, hel⟩ := DataW.trod_array Tryz.underlying81 hd
  have c1 : PR.cellsOf 80 = 2 := by kernel_rfl
  have c2 : PR.cellsOf 81 = 4 := by kernel_rfl
  have h0 := hel 0 (by decide)
  have h1 := hel 1 (by decide)
  rw [c1] at h0 h1
  rw [c2] at hlen
  match xs, hn with
  | [x0, x1], _ =>
    match hcs : cs.toList, hlen with
    | [v0, v1, v2, v3], _ =>
      rw [hcs] at h0 h1
      simp only [List.getElem?_cons_zero, List.getElem?_cons_succ, Nat.zero_mul, Nat.one_mul, List.drop_zero, List.drop_succ_cons, List.take_succ_cons, List.take_zero] at h0 h1
      obtain ⟨ys, m', rfl, hy, _, hny, hely⟩ := DataW.trod_struct Tryz.underlying80 h0
      obtain ⟨zs, m'', e2, hz, _, hnz, helz⟩ := DataW.trod_struct Tryz.underlying80 h1
      have c3 : PR.cellsOf 77 = 1 := by kernel_rfl
      have c4 : PR.cellsOf 78 = 1 := by kernel_rfl
      have a0 : DataW.trod (funcToken PR) PR W 0 (fun _ => true) true m' 77 (List.take (PR.cellsOf 77) (List.drop 0 [v0, v1])) = ys[0]? := hely 0 _ rfl
      have a1 : DataW.trod (funcToken PR) PR W 0 (fun _ => true) true m' 78 (List.take (PR.cellsOf 78) (List.drop 1 [v0, v1])) = ys[1]? := hely 1 _ rfl
      have a2 : DataW.trod (funcToken PR) PR W 0 (fun _ => true) true m'' 77 (List.take (PR.cellsOf 77) (List.drop 0 [v2, v3])) = zs[0]? := helz 0 _ rfl
      have a3 : DataW.trod (funcToken PR) PR W 0 (fun _ => true) true m'' 78 (List.take (PR.cellsOf 78) (List.drop 1 [v2, v3])) = zs[1]? := helz 1 _ rfl
      rw [c3] at a0 a2
      rw [c4] at a1 a3
      match ys, hny with
      | [y0, y1], _ =>
      match zs, hnz with
      | [z0, z1], _ =>
      simp only [List.getElem?_cons_zero, List.getElem?_cons_succ, List.drop_zero, List.drop_succ_cons, List.take_succ_cons, List.take_zero] at a0 a1 a2 a3
      subst hy hz
      have hx' : (DataW.agg [.agg [.held (_ :: _), .held (_ :: _)], .agg [.held (_ :: _), .held (_ :: _)]] : DataW (List UInt8)) = .agg [.agg [y0.1, y1.1], .agg [z0.1, z1.1]] := congrArg Prod.fst hx
      simp only [DataW.agg.injEq, List.cons.injEq, and_true] at hx'
      obtain ⟨⟨b0, b1⟩, b2, b3⟩ := hx'
      have e0 : v0 = .func (.func 189) #[] #[] := func_of_trod (f0 := 189) Tryz.underlying77 (by kernel_rfl) (a0.trans (congrArg some (Prod.ext b0.symm rfl)))
      have e1 : v1 = .func (.func 190) #[] #[] := func_of_trod (f0 := 190) Tryz.underlying78 (by kernel_rfl) (a1.trans (congrArg some (Prod.ext b1.symm rfl)))
      have e2 : v2 = .func (.func 191) #[] #[] := func_of_trod (f0 := 191) Tryz.underlying77 (by kernel_rfl) (a2.trans (congrArg some (Prod.ext b2.symm rfl)))
      have e3 : v3 = .func (.func 192) #[] #[] := func_of_trod (f0 := 192) Tryz.underlying78 (by kernel_rfl) (a3.trans (congrArg some (Prod.ext b3.symm rfl)))
      have hcell : ∀ i, W.cell? ⟨0, i, none⟩ = [v0, v1, v2, v3][i]? := fun i => by
        have := World.var?_cell hg hv i
        rw [this, ← hcs, Array.getElem?_toList]
      subst e0 e1 e2 e3
      refine ⟨?_, hcell 0, hcell 1, hcell 2, hcell 3⟩
      have h9 := hcell 0
      unfold World.cell? at h9
      simp only at h9
      rcases Nat.lt_or_ge 0 W.heap.size with h | h
      · exact h
      · rw [Array.getElem?_eq_none h] at h9; simp at h9
theorem starts {W : World} {vals : Array Value} {bs : List Arg} (hL : laidMetH PR laidL W) (hlen : vals.toList.length = bs.length) (hr : ∀ (i : Nat) v a, vals.toList[i]? = some v → bs[i]? = some a → Rep W noW noMu v a.av) : Starts (@X spc1) W vals (bs.map Arg.av) := by
  obtain ⟨h0, h1, h2, h3, h4⟩ := of_laid hL
  refine ⟨fun g cs hg => ?_, by simpa using hlen, fun i v a hv ha => ?_⟩
  · have hg : (if g = 0 then some [AV.func (.func 189) [] [], .func (.func 190) [] [], .func (.func 191) [] [], .func (.func 192) [] []] else none) = some cs := hg
    split at hg
    · rename_i hg0
      subst hg0
      injection hg with hg
      subst hg
      have rf : ∀ f : FuncId, Rep W noW noMu (.func (.func f) #[] #[]) (.func (.func f) [] []) := fun f => .func _ _ _ _ _ _ rfl rfl (by simp) (by simp)
      refine ⟨h0, fun i => match i with | 0 => .func (.func 189) #[] #[] | 1 => .func (.func 190) #[] #[] | 2 => .func (.func 191) #[] #[] | _ => .func (.func 192) #[] #[], fun i a ha => ?_⟩
      match i with
      | 0 => simp at ha; subst ha; exact ⟨h1, rf _, rfl⟩
      | 1 => simp at ha; subst ha; exact ⟨h2, rf _, rfl⟩
      | 2 => simp at ha; subst ha; exact ⟨h3, rf _, rfl⟩
      | 3 => simp at ha; subst ha; exact ⟨h4, rf _, rfl⟩
      | i + 4 => simp at ha
    · simp at hg
  · rw [List.getElem?_map] at ha
    obtain ⟨b, hb, rfl⟩ := Option.map_eq_some_iff.1 ha
    exact hr i v b (by simpa using hv) hb
/-- What is shown of a law: it answers true, whatever its arguments. -/
def Law (F : Nat) (ts : List TypeId) : Prop := ∀ bs : List Arg, bs.map Arg.ty = ts → (∀ a ∈ bs, a.ok) → @M (@X spc1) F (bs.map Arg.av) = some (.bool true)
theorem contract_law {H : Type} {enc : TypeId × Value → H} {s : ChangeSpec} {F : Nat} {fn : Func} {ts : List TypeId} {conds : List PathCond} (hp : fn.params.toList = ts) (hts : ∀ t ∈ ts, t = 22 ∨ t = 3) (hrt : fn.resultTypes = #[4]) (hv : s.vars = [])
    (hs : ∀ ds : List (DataW H), ds.length = ts.length → s.fn H ds = { results := [.lit (.bool true)], args := ds }) (hM : Law F ts) (hns : (@X spc1).mode F = .ro)
    (W : World) (base : Nat) (args : Array Value) (ds gs : List (DataW H)) (before : List MemPlace)
    (hval : ∀ (j : Nat) t v, fn.params[j]? = some t → args[j]? = some v → Value.okWide PR W .any base t v)
    (hW : DataW.Whole enc PR fn.params.toList s.vars false W args.toList ds gs before)
    (_ : conds.all (PathCond.test PR ⟨fn.params.toList, ds, s.plain.varTypes PR, gs⟩) = true)
    (hsz : (DataW.weightsEach PR (fn.params.toList ++ s.plain.varTypes PR) (ds ++ gs)).all (· ≤ reachBytes) = true) (hL : laidMetH PR laidL W) {Q : Prop} (_ : Q) :
    Calls PR F args W fun e W' => ∃ v, e = .returned v ∧ s.post enc PR fn false true false false W args v W' := by
  have hW' := hW
  obtain ⟨p, q, hA, hV, rfl, hfz, hnd⟩ := hW
  rw [hp] at hA hsz
  have hV0 : gs = [] ∧ q = [] := by
    rw [hv] at hV
    cases gs with
    | nil => exact ⟨rfl, hV⟩
    | cons g gs => exact hV.elim
  obtain ⟨rfl, rfl⟩ := hV0
  have hdl : ds.length = ts.length := by
    clear hsz hW' hval hfz hnd
    revert hA
    generalize args.toList = vs
    have : ∀ (ts : List TypeId) (vs : List Value) (ds : List (DataW H)) (p : List MemPlace), DataW.TrodAll enc PR W 0 (fun _ => true) true ts vs ds p → ds.length = ts.length := by
      intro ts
      induction ts with
      | nil => intro vs ds p h; obtain ⟨rfl, rfl, rfl⟩ := trodAll_nil h; rfl
      | cons t ts ih =>
        intro vs ds p h
        obtain ⟨v, vs', d, ds', p1, q, rfl, rfl, rfl, hd, hrest⟩ := trodAll_cons h
        simp [ih _ _ _ hrest]
    exact this ts vs ds p
  have hfn := hs ds hdl
  obtain ⟨bs, b1, b2, b3, b4⟩ := open_args ts args.toList ds p hts (fun j t v h1 h2 => hval j t v (by rw [← hp] at h1; simpa using h1) (by simpa using h2)) (fun j t d h1 h2 elems spare e hd hu => by
      subst hd
      refine sized_slice hsz (j := j) (t := t) (e := e) ?_ ?_ hu
      · rw [List.getElem?_append_left (List.getElem?_eq_some_iff.1 h1).1]; exact h1
      · rw [List.getElem?_append_left (List.getElem?_eq_some_iff.1 h2).1]; exact h2) hA
  refine (sound (@mixed spc1) sp1 (by rw [hns]; rfl) (hM bs b1 b2) rfl (starts hL b3 b4)).mono ?_
  rintro e W1 ⟨u, rfl, hu, hB⟩
  obtain rfl : u = .bool true := by cases hu; rfl
  have hlt : ∀ x ∈ p, x.block < W.heap.size := fun x hx => by simpa using hW'.lt x (List.mem_append_left _ hx)
  refine ⟨_, rfl, ds, [], p ++ [], [], p, [], hW', ?_, ?_, ?_, hB.frame _, fun h => by cases h⟩
  · rw [List.append_nil, hfn, hrt]; exact trodAll_mk1 (shut_bool Tryz.underlying4 _)
  · rw [List.append_nil, hfn, hp]
    exact trodAll_below hB ts _ _ _ (fun t ht => by rcases hts t ht with rfl | rfl <;> exact ⟨by kernel_rfl, of_decide_eq_true (by kernel_rfl)⟩) hA hlt
  · rw [List.append_nil, hfn, hv]; rfl
end Go.Proofs.YtjccikgdebgebaaGreatDoor.Abs
end
section
set_option linter.unusedSimpArgs false
namespace Go.Proofs.YtjccikgdebgebaaGreatDoor.Abs
open Go
theorem zS_n0 : zS (Rat.num 0) = .bool false := by rw [zS_eq]; rfl
theorem zS_d0 : zS (dz 0) = .bool false := by rw [zS_eq]; rfl
theorem zD_n0 : zD (Rat.num 0) = .ro [] 0 false := by rw [zD_eq, show (Rat.num 0).natAbs = 0 from rfl, digs_zero]; rfl
theorem zD_d0 : zD (dz 0) = .ro [] 0 false := by rw [zD_eq, show (dz 0).natAbs = 0 from rfl, digs_zero]; rfl
def squ : List Pt := [(0, 0), (1, 0), (1, 1), (0, 1)]
theorem okP_squ : okP squ := by
  intro k
  match k with
  | 0 => decide
  | 1 => decide
  | 2 => decide
  | 3 => decide
  | k + 4 => simp [squ]
theorem trn1 : turns (Rat.divInt 2 1) (Rat.divInt (-2) 1) (Rat.divInt 4 1) := ⟨by decide +kernel, by decide +kernel, by decide +kernel⟩
theorem trn2 (e : Rat) : ¬ turns (Rat.divInt 0 1) (Rat.divInt 0 1) e := fun h => absurd h.1 (by decide +kernel)
theorem lo1 : loQ 0 (Rat.divInt 2 1) (Rat.divInt (-2) 1) (Rat.divInt 4 1) = Rat.divInt (-8) 1 := by
  unfold loQ; rw [if_pos trn1]; decide +kernel
theorem hi1 : hiQ 0 (Rat.divInt 2 1) (Rat.divInt (-2) 1) (Rat.divInt 4 1) = Rat.divInt 1 1 := by
  unfold hiQ; rw [if_pos trn1]; decide +kernel
theorem lo2 : loQ 0 (Rat.divInt 0 1) (Rat.divInt 0 1) (Rat.divInt 4 1) = Rat.divInt 0 1 := by
  unfold loQ; rw [if_neg (trn2 _)]; decide +kernel
theorem hi2 : hiQ 0 (Rat.divInt 0 1) (Rat.divInt 0 1) (Rat.divInt 4 1) = Rat.divInt 0 1 := by
  unfold hiQ; rw [if_neg (trn2 _)]; decide +kernel
theorem sq_swept : sweptQ squ 0 0 (Rat.divInt 2 1) (Rat.divInt 0 1) (Rat.divInt (-2) 1) (Rat.divInt 0 1) 4 = ⟨Rat.divInt (-8) 1, Rat.divInt 0 1, Rat.divInt 2 1, Rat.divInt 1 1⟩ := by
  unfold sweptQ
  rw [if_neg (show ¬ (4 : Int) < 0 by decide), lo1, hi1, lo2, hi2]
  rw [show lowZ prX squ (squ.length - 1) = 0 from rfl, show lowZ prY squ (squ.length - 1) = 0 from rfl, show topZ prX squ (squ.length - 1) = 1 from rfl, show topZ prY squ (squ.length - 1) = 1 from rfl]
  rw [show Rat.divInt (-8) 1 + Rat.divInt 0 1 = Rat.divInt (-8) 1 by decide +kernel, show Rat.divInt 0 1 + Rat.divInt 0 1 = Rat.divInt 0 1 by decide +kernel, show Rat.divInt 1 1 + Rat.divInt 1 1 = Rat.divInt 2 1 by decide +kernel, show Rat.divInt 0 1 + Rat.divInt 1 1 = Rat.divInt 1 1 by decide +kernel]
def bB : BoxQ := ⟨Rat.divInt (-8) 1, Rat.divInt 0 1, Rat.divInt 2 1, Rat.divInt 1 1⟩
def bC : BoxQ := ⟨Rat.divInt 2 1, Rat.divInt 1 1, Rat.divInt 3 1, Rat.divInt 3 1⟩
def bD : BoxQ := ⟨Rat.divInt 2 1, Rat.divInt 5 4, Rat.divInt 3 1, Rat.divInt 3 1⟩
theorem meet1 : meetB (Rat.divInt (-8) 1) (Rat.divInt 0 1) (Rat.divInt 2 1) (Rat.divInt 1 1) (Rat.divInt 2 1) (Rat.divInt 1 1) (Rat.divInt 3 1) (Rat.divInt 3 1) = true := by unfold meetB; decide +kernel
theorem meet2 : meetB (Rat.divInt (-8) 1) (Rat.divInt 0 1) (Rat.divInt 2 1) (Rat.divInt 1 1) (Rat.divInt 2 1) (Rat.divInt 5 4) (Rat.divInt 3 1) (Rat.divInt 3 1) = false := by unfold meetB; decide +kernel
theorem near1 : nearN [bB, bD] bC 2 = [0, 1] := by
  have h1 : mt bB bC = true := by unfold mt meetB bB bC; decide +kernel
  have h2 : mt bD bC = true := by unfold mt meetB bD bC; decide +kernel
  show (if mt bD bC = true then (if mt bB bC = true then ([] : List Int) ++ [0] else []) ++ [1] else _) = _
  rw [if_pos h1, if_pos h2]; rfl
theorem rs_small {p q : Int} (hp : p.natAbs < 1000) (hq : q.natAbs < 1000) : RS (Rat.divInt p q) 1 := rs_divInt (by omega) (nd_lit (by simp only [Bn]; omega)) (nd_lit (by simp only [Bn]; omega))
set_option maxRecDepth 100000 in
set_option maxHeartbeats 80000000 in
theorem M_17 [SpC] (hS : SpC.spec 37 [.ro (boxC [bD, bB, bC]) 3 false] = some (.ro (ptC [(0, 2), (1, 2)]) 2 false)) :
    M X 17 [] = some (.bool true) := by
  have v1 := M_56 2 0 ⟨by omega, by omega⟩ ⟨by omega, by omega⟩
  have v2 := M_56 (-2) 0 ⟨by omega, by omega⟩ ⟨by omega, by omega⟩
  have v3 := M_56 2 1 ⟨by omega, by omega⟩ ⟨by omega, by omega⟩
  have v4 := M_56 3 3 ⟨by omega, by omega⟩ ⟨by omega, by omega⟩
  have v5 := M_56 (-8) 0 ⟨by omega, by omega⟩ ⟨by omega, by omega⟩
  have v6 := M_28 5 4 ⟨by omega, by omega⟩ ⟨by omega, by omega⟩
  have r1 : RS (Rat.divInt (-8) 1) 1 := rs_small (by decide) (by decide)
  have r2 : RS (Rat.divInt 0 1) 1 := rs_small (by decide) (by decide)
  have r3 : RS (Rat.divInt 2 1) 1 := rs_small (by decide) (by decide)
  have r4 : RS (Rat.divInt 1 1) 1 := rs_small (by decide) (by decide)
  have r5 : RS (Rat.divInt 3 1) 1 := rs_small (by decide) (by decide)
  have r6 : RS (Rat.divInt 5 4) 1 := rs_small (by decide) (by decide)
  have r7 : RS (Rat.divInt (-2) 1) 1 := rs_small (by decide) (by decide)
  have r8 : RS (0 : Rat) 1 := r2
  have s1 := M_15 (px := 0) (py := 0) (vx := Rat.divInt 2 1) (vy := Rat.divInt 0 1) (ax := Rat.divInt (-2) 1) (ay := Rat.divInt 0 1) squ okP_squ (by decide) 4 ⟨by omega, by omega⟩ (by omega)
  rw [sq_swept] at s1
  simp only [zS_n0, zS_d0, zD_n0, zD_d0, squ, ptC, List.length_cons, List.length_nil] at s1
  have s2 := M_13 (ax := Rat.divInt (-8) 1) (ay := Rat.divInt 0 1) (ax' := Rat.divInt 2 1) (ay' := Rat.divInt 1 1) (bx := Rat.divInt (-8) 1) (by0 := Rat.divInt 0 1) (bx' := Rat.divInt 2 1) (by' := Rat.divInt 1 1) (by omega)
  rw [decide_eq_true ⟨rfl, rfl, rfl, rfl⟩] at s2
  have m1 := M_19 (ax := Rat.divInt (-8) 1) (ay := Rat.divInt 0 1) (ax' := Rat.divInt 2 1) (ay' := Rat.divInt 1 1) (bx := Rat.divInt 2 1) (by0 := Rat.divInt 1 1) (bx' := Rat.divInt 3 1) (by' := Rat.divInt 3 1) (by omega)
  have m2 := M_19 (ax := Rat.divInt (-8) 1) (ay := Rat.divInt 0 1) (ax' := Rat.divInt 2 1) (ay' := Rat.divInt 1 1) (bx := Rat.divInt 2 1) (by0 := Rat.divInt 5 4) (bx' := Rat.divInt 3 1) (by' := Rat.divInt 3 1) (by omega)
  rw [meet1] at m1
  rw [meet2] at m2
  have p1 := M_34 [(0, 2), (1, 2)] [(0, 2), (1, 2)] (by decide) (by decide)
  rw [decide_eq_true rfl] at p1
  have i1 := M_24 [0, 1] [0, 1] (by decide) (by decide)
  rw [decide_eq_true rfl] at i1
  have i2 : M X 24 [isl [0, 1], .ro [.int .i64 0, .int .i64 1] 2 false] = some (.bool true) := i1
  have n1 := M_25 (l := [bB, bD]) (b := bC) (n := 1) (m := 1) (by
    intro b hb
    simp only [List.mem_cons, List.not_mem_nil, or_false] at hb
    rcases hb with rfl | rfl
    · exact ⟨r1, r2, r3, r4⟩
    · exact ⟨r3, r6, r5, r5⟩) (hb := ⟨r3, r4, r5, r5⟩) (by decide) (by omega)
  rw [show ([bB, bD] : List BoxQ).length = 2 from rfl, near1] at n1
  simp only [boxC, bB, bC, bD, List.append_nil, List.cons_append, List.nil_append] at n1 hS
  simp only [ptC, List.length_cons, List.length_nil, Nat.zero_add, Nat.reduceAdd] at p1 hS s1
  replace hS := (M_spec X mode_37 _).trans hS
  generalize Rat.divInt (-8) 1 = e1 at *
  generalize Rat.divInt 0 1 = e2 at *
  generalize Rat.divInt 2 1 = e3 at *
  generalize Rat.divInt 1 1 = e4 at *
  generalize Rat.divInt 3 1 = e5 at *
  generalize Rat.divInt 5 4 = e6 at *
  generalize Rat.divInt (-2) 1 = e7 at *
  refine M_of X (fn := Tryz.f17) Tryz.func17 rfl ok_17 mode_17 res_17 _ rfl _ ?_
  intro r hr
  rw [hr]
  simp (maxSteps := 4000000) (disch := first | omega | (simp only [List.length_set, List.length_replicate, List.length_append, List.length_take, List.length_drop, List.length_cons, List.length_nil]; omega)) only [go_sem, reduceCtorEq, Nat.reduceEqDiff, Nat.reduceAdd, Nat.reduceMul, Nat.reduceSub, ↓Nat.reduceBEq, Nat.reduceLT, Nat.reduceLeDiff, Int.reduceLT, Int.reduceLE, Int.reduceNeg, Int.reduceToNat, M_14, mode_56, mode_28, mode_15, mode_13, mode_19, mode_37, mode_34, mode_25, mode_24, v1, v2, v3, v4, v5, v6, s1, s2, m1, m2, p1, i2, n1, hS, replA_1, replA_2, replA_3, replA_4]
end Go.Proofs.YtjccikgdebgebaaGreatDoor.Abs
end
section
set_option linter.unusedSimpArgs false
namespace Go.Proofs.YtjccikgdebgebaaGreatDoor.Abs
open Go
theorem mt_dD : mt bD bD = true := by unfold mt meetB bD; decide +kernel
theorem mt_db : mt bD bB = false := by unfold mt meetB bB bD; decide +kernel
theorem mt_dc : mt bD bC = true := by unfold mt meetB bC bD; decide +kernel
theorem mt_bc : mt bB bC = true := by unfold mt meetB bC bB; decide +kernel
theorem prs_lives : prsP [bD, bB, bC] 3 3 = [(0, 2), (1, 2)] := by
  have h1 : mtN [bD, bB, bC] 0 1 = false := mt_db
  have h2 : mtN [bD, bB, bC] 0 2 = true := mt_dc
  have h3 : mtN [bD, bB, bC] 1 2 = true := mt_bc
  simp [prsP, rowP, h1, h2, h3]
theorem sorted_says : @SpC.spec spc1 37 [.ro (boxC [bD, bB, bC]) 3 false] = some (.ro (ptC [(0, 2), (1, 2)]) 2 false) := by
  have r1 : RS (Rat.divInt (-8) 1) 1 := rs_small (by decide) (by decide)
  have r2 : RS (Rat.divInt 0 1) 1 := rs_small (by decide) (by decide)
  have r3 : RS (Rat.divInt 2 1) 1 := rs_small (by decide) (by decide)
  have r4 : RS (Rat.divInt 1 1) 1 := rs_small (by decide) (by decide)
  have r5 : RS (Rat.divInt 3 1) 1 := rs_small (by decide) (by decide)
  have r6 : RS (Rat.divInt 5 4) 1 := rs_small (by decide) (by decide)
  have hok : okB [bD, bB, bC] 1 := by
    intro b hb
    simp only [List.mem_cons, List.not_mem_nil, or_false] at hb
    rcases hb with rfl | rfl | rfl
    · exact ⟨r3, r6, r5, r5⟩
    · exact ⟨r1, r2, r3, r4⟩
    · exact ⟨r3, r4, r5, r5⟩
  have h := spec1_eq (l := [bD, bB, bC]) hok (by decide) (by decide)
  rw [show ([bD, bB, bC] : List BoxQ).length = 3 from rfl] at h
  rw [h]
  show some (AV.ro (ptC (prsP [bD, bB, bC] 3 3)) (prsP [bD, bB, bC] 3 3).length false) = _
  rw [prs_lives]
  rfl
end Go.Proofs.YtjccikgdebgebaaGreatDoor.Abs
end
section
set_option linter.unusedSimpArgs false
namespace Go.Proofs.YtjccikgdebgebaaGreatDoor.Abs
open Go
theorem manyB_le (l : List Int) : manyB l ≤ 12 := Nat.min_le_left _ _
abbrev SortedSays [SpC] : Prop := SpC.spec 37 [.ro (boxC [bD, bB, bC]) 3 false] = some (.ro (ptC [(0, 2), (1, 2)]) 2 false)
set_option maxRecDepth 100000 in
set_option maxHeartbeats 8000000 in
theorem M_4 [SpC] (hS : SortedSays) (l : List Int) (hl : okI l) (hlen : l.length < 2 ^ 60) : M X 4 [isl l] = some (.bool true) := by
  have hB := M_18 l hl hlen
  have hL := M_17 hS
  have hm := manyB_le l
  have hok := okB_boxesN l (manyB l)
  have hbn := boxesN_length l (manyB l)
  rw [show manyB l = (boxesN l (manyB l)).length from hbn.symm] at hm
  have hB' : M X 18 [isl l] = some (.ro (boxC (boxesN l (manyB l))) (boxesN l (manyB l)).length false) := by rw [hbn]; exact hB
  clear hB hbn
  generalize boxesN l (manyB l) = B at *
  have hg := M_26 (l := B) (by omega)
  have hbl := boxC_length B
  refine M_of X (fn := Tryz.f4) Tryz.func4 rfl ok_4 mode_4 res_4 _ rfl _ ?_
  intro r hr
  rw [hr]
  simp (maxSteps := 4000000) (disch := first | omega | (simp only [List.length_set, List.length_replicate, List.length_append, List.length_take, List.length_drop, List.length_cons, List.length_nil]; omega)) only [go_sem, reduceCtorEq, Nat.reduceEqDiff, Nat.reduceAdd, Nat.reduceMul, Nat.reduceSub, ↓Nat.reduceBEq, Nat.reduceLT, Nat.reduceLeDiff, Int.reduceLT, Int.reduceLE, Int.reduceNeg, Int.reduceToNat, mode_18, hB']
  refine W_loop X (fun (i : Nat) s => i ≤ B.length ∧ s.env 3 = .ro (boxC B) B.length false ∧ s.env 4 = .int .i64 i) (fun i => B.length - i) ?_ 0 _ ?_
  · rintro i ⟨env, heap, nx⟩ ⟨hi, g3, g4⟩
    simp only at g3 g4
    by_cases h1 : i < B.length
    · simp (maxSteps := 4000000) (disch := first | omega | (simp only [List.length_set, List.length_replicate, List.length_append, List.length_take, List.length_drop, List.length_cons, List.length_nil]; omega)) only [go_sem, reduceCtorEq, Nat.reduceEqDiff, Nat.reduceAdd, Nat.reduceMul, Nat.reduceSub, ↓Nat.reduceBEq, Nat.reduceLT, Nat.reduceLeDiff, Int.reduceLT, Int.reduceLE, Int.reduceNeg, Int.reduceToNat, g3, g4]
      have di := boxC_take B i h1
      have bi := hok _ (getD_mem B i h1)
      generalize hbi : B.getD i box0 = b at *
      refine W_loop X (fun (k : Nat) s => k ≤ B.length ∧ s.env 3 = .ro (boxC B) B.length false ∧ s.env 4 = .int .i64 i ∧ s.env 5 = .int .i64 k) (fun k => B.length - k) ?_ 0 _ ?_
      · rintro k ⟨env, heap, nx⟩ ⟨hk, g3, g4, g5⟩
        simp only at g3 g4 g5
        by_cases h2 : k < B.length
        · have dk := boxC_take B k h2
          have bk := hok _ (getD_mem B k h2)
          generalize hbk : B.getD k box0 = c at *
          have q1 := M_19 (ax := b.lx) (ay := b.ly) (ax' := b.hx) (ay' := b.hy) (bx := c.lx) (by0 := c.ly) (bx' := c.hx) (by' := c.hy) (by omega)
          have q2 := M_21 (ax := b.lx) (ay := b.ly) (ax' := b.hx) (ay' := b.hy) (bx := c.lx) (by0 := c.ly) (bx' := c.hx) (by' := c.hy) (by omega)
          have q3 := M_13 (ax := min b.lx c.lx) (ay := min b.ly c.ly) (ax' := max b.hx c.hx) (ay' := max b.hy c.hy) (bx := min b.lx c.lx) (by0 := min b.ly c.ly) (bx' := max b.hx c.hx) (by' := max b.hy c.hy) (by omega)
          rw [decide_eq_true ⟨rfl, rfl, rfl, rfl⟩] at q3
          generalize meetB b.lx b.ly b.hx b.hy c.lx c.ly c.hx c.hy = t at *
          have q4 : (!(t == t)) = false := by cases t <;> rfl
          simp (maxSteps := 4000000) (disch := first | omega | (simp only [List.length_set, List.length_replicate, List.length_append, List.length_take, List.length_drop, List.length_cons, List.length_nil]; omega)) only [go_sem, reduceCtorEq, Nat.reduceEqDiff, Nat.reduceAdd, Nat.reduceMul, Nat.reduceSub, ↓Nat.reduceBEq, Nat.reduceLT, Nat.reduceLeDiff, Int.reduceLT, Int.reduceLE, Int.reduceNeg, Int.reduceToNat, M_20, M_14, M_22, M_23, g3, g4, g5, hbl, di, dk, mode_19, mode_21, mode_13, q1, q2, q3, q4]
          exact ⟨k + 1, ⟨by omega, rfl⟩, by omega⟩
        · have n1 := M_25 (l := B) (b := b) hok (by omega) (by omega)
          have n2 := M_27 (l := B) (b := b) hok (by omega) (by omega)
          have n3 := nearN_len B b B.length
          generalize nearN B b B.length = o at *
          have n4 := M_24 o o (by omega) (by omega)
          rw [decide_eq_true rfl] at n4
          simp (maxSteps := 4000000) (disch := first | omega | (simp only [List.length_set, List.length_replicate, List.length_append, List.length_take, List.length_drop, List.length_cons, List.length_nil]; omega)) only [go_sem, reduceCtorEq, Nat.reduceEqDiff, Nat.reduceAdd, Nat.reduceMul, Nat.reduceSub, ↓Nat.reduceBEq, Nat.reduceLT, Nat.reduceLeDiff, Int.reduceLT, Int.reduceLE, Int.reduceNeg, Int.reduceToNat, M_20, g3, g4, g5, hbl, di, weaks_boxC, mode_26, hg, mode_25, mode_27, mode_24, n1, n2, n4]
          exact ⟨i + 1, ⟨by omega, rfl⟩, by omega⟩
      · simp (maxSteps := 4000000) (disch := first | omega | (simp only [List.length_set, List.length_replicate, List.length_append, List.length_take, List.length_drop, List.length_cons, List.length_nil]; omega)) only [go_sem, reduceCtorEq, Nat.reduceEqDiff, Nat.reduceAdd, Nat.reduceMul, Nat.reduceSub, ↓Nat.reduceBEq, Nat.reduceLT, Nat.reduceLeDiff, Int.reduceLT, Int.reduceLE, Int.reduceNeg, Int.reduceToNat, g3, g4]
    · simp (maxSteps := 4000000) (disch := first | omega | (simp only [List.length_set, List.length_replicate, List.length_append, List.length_take, List.length_drop, List.length_cons, List.length_nil]; omega)) only [go_sem, reduceCtorEq, Nat.reduceEqDiff, Nat.reduceAdd, Nat.reduceMul, Nat.reduceSub, ↓Nat.reduceBEq, Nat.reduceLT, Nat.reduceLeDiff, Int.reduceLT, Int.reduceLE, Int.reduceNeg, Int.reduceToNat, g3, g4, mode_17, hL]
  · simp (maxSteps := 4000000) (disch := first | omega | (simp only [List.length_set, List.length_replicate, List.length_append, List.length_take, List.length_drop, List.length_cons, List.length_nil]; omega)) only [go_sem, reduceCtorEq, Nat.reduceEqDiff, Nat.reduceAdd, Nat.reduceMul, Nat.reduceSub, ↓Nat.reduceBEq, Nat.reduceLT, Nat.reduceLeDiff, Int.reduceLT, Int.reduceLE, Int.reduceNeg, Int.reduceToNat]
def vB (b : BoxQ) : Prop := b.lx ≤ b.hx ∧ b.ly ≤ b.hy
theorem sq_nonneg (q : Rat) : 0 ≤ q * q := by
  rcases (Rat.le_total (a := 0) (b := q)) with h | h
  · exact Rat.mul_nonneg h h
  · have := Rat.mul_nonneg (a := -q) (b := -q) (by grind) (by grind)
    grind
theorem vB_boxesN (l : List Int) (n : Nat) : ∀ b ∈ boxesN l n, vB b := by
  intro b hb
  simp only [boxesN, List.mem_map, List.mem_range] at hb
  obtain ⟨i, _, rfl⟩ := hb
  have h1 := sq_nonneg (numQ (atN l (4 * i + 2) 4096))
  have h2 := sq_nonneg (numQ (atN l (4 * i + 3) 4096))
  unfold vB boxN
  dsimp only
  grind
theorem tdiv_ok (n m : Int) (hn : ok64 n) (hm : 1 < m) : ok64 (n.tdiv m) := by
  obtain ⟨h1, h2⟩ := hn
  have := Int.natAbs_tdiv n m
  have h3 : (n.tdiv m).natAbs ≤ n.natAbs / 2 := by
    rw [this]
    exact Nat.div_le_div_left (by omega) (by omega)
  unfold ok64
  omega
set_option maxRecDepth 100000 in
set_option maxHeartbeats 8000000 in
theorem M_6 [SpC] (hS : SortedSays) (l : List Int) (at0 : Int) (hat : ok64 at0) (hl : okI l) (hlen : l.length < 2 ^ 60) : M X 6 [isl l, .int .i64 at0] = some (.bool true) := by
  have hB := M_18 l hl hlen
  have hL := M_17 hS
  have hm := manyB_le l
  have hok := okB_boxesN l (manyB l)
  have hvb := vB_boxesN l (manyB l)
  have hbn := boxesN_length l (manyB l)
  rw [show manyB l = (boxesN l (manyB l)).length from hbn.symm] at hm
  have hB' : M X 18 [isl l] = some (.ro (boxC (boxesN l (manyB l))) (boxesN l (manyB l)).length false) := by rw [hbn]; exact hB
  clear hB hbn
  generalize boxesN l (manyB l) = B at *
  have hbl := boxC_length B
  refine M_of X (fn := Tryz.f6) Tryz.func6 rfl ok_6 mode_6 res_6 _ rfl _ ?_
  intro r hr
  rw [hr]
  by_cases h0 : B.length = 0
  · simp (maxSteps := 4000000) (disch := first | omega | (simp only [List.length_set, List.length_replicate, List.length_append, List.length_take, List.length_drop, List.length_cons, List.length_nil]; omega)) only [go_sem, reduceCtorEq, Nat.reduceEqDiff, Nat.reduceAdd, Nat.reduceMul, Nat.reduceSub, ↓Nat.reduceBEq, Nat.reduceLT, Nat.reduceLeDiff, Int.reduceLT, Int.reduceLE, Int.reduceNeg, Int.reduceToNat, mode_18, hB', h0, mode_17, hL]
  · have t1 := tdiv_ok at0 12 hat (by omega)
    have t2 := tdiv_ok at0 144 hat (by omega)
    have a1 := M_12 at0 B.length hat (by omega)
    have a2 := M_12 (at0.tdiv 12) B.length t1 (by omega)
    have a3 := M_12 (at0.tdiv 144) B.length t2 (by omega)
    have b1 := arnd_bd at0 B.length (by omega)
    have b2 := arnd_bd (at0.tdiv 12) B.length (by omega)
    have b3 := arnd_bd (at0.tdiv 144) B.length (by omega)
    generalize arnd at0 B.length = i1 at *
    generalize arnd (at0.tdiv 12) B.length = i2 at *
    generalize arnd (at0.tdiv 144) B.length = i3 at *
    have d1 := boxC_take B i1.toNat (by omega)
    have d2 := boxC_take B i2.toNat (by omega)
    have d3 := boxC_take B i3.toNat (by omega)
    have v1 := hvb _ (getD_mem B i1.toNat (by omega))
    have r1 := hok _ (getD_mem B i1.toNat (by omega))
    have r2 := hok _ (getD_mem B i2.toNat (by omega))
    have r3 := hok _ (getD_mem B i3.toNat (by omega))
    generalize B.getD i1.toNat box0 = a at *
    generalize B.getD i2.toNat box0 = b at *
    generalize B.getD i3.toNat box0 = c at *
    have j1 := M_22 (ax := a.lx) (ay := a.ly) (ax' := a.hx) (ay' := a.hy) (bx := b.lx) (by0 := b.ly) (bx' := b.hx) (by' := b.hy) (by omega)
    have j2 := M_22 (ax := b.lx) (ay := b.ly) (ax' := b.hx) (ay' := b.hy) (bx := a.lx) (by0 := a.ly) (bx' := a.hx) (by' := a.hy) (by omega)
    have j3 := M_22 (ax := a.lx) (ay := a.ly) (ax' := a.hx) (ay' := a.hy) (bx := a.lx) (by0 := a.ly) (bx' := a.hx) (by' := a.hy) (by omega)
    have j4 := M_22 (ax := min a.lx b.lx) (ay := min a.ly b.ly) (ax' := max a.hx b.hx) (ay' := max a.hy b.hy) (bx := c.lx) (by0 := c.ly) (bx' := c.hx) (by' := c.hy) (by omega)
    have j5 := M_22 (ax := b.lx) (ay := b.ly) (ax' := b.hx) (ay' := b.hy) (bx := c.lx) (by0 := c.ly) (bx' := c.hx) (by' := c.hy) (by omega)
    have j6 := M_22 (ax := a.lx) (ay := a.ly) (ax' := a.hx) (ay' := a.hy) (bx := min b.lx c.lx) (by0 := min b.ly c.ly) (bx' := max b.hx c.hx) (by' := max b.hy c.hy) (by omega)
    have s1 := M_13 (ax := min a.lx b.lx) (ay := min a.ly b.ly) (ax' := max a.hx b.hx) (ay' := max a.hy b.hy) (bx := min b.lx a.lx) (by0 := min b.ly a.ly) (bx' := max b.hx a.hx) (by' := max b.hy a.hy) (by omega)
    have s2 := M_13 (ax := min a.lx a.lx) (ay := min a.ly a.ly) (ax' := max a.hx a.hx) (ay' := max a.hy a.hy) (bx := a.lx) (by0 := a.ly) (bx' := a.hx) (by' := a.hy) (by omega)
    have s3 := M_13 (ax := min (min a.lx b.lx) c.lx) (ay := min (min a.ly b.ly) c.ly) (ax' := max (max a.hx b.hx) c.hx) (ay' := max (max a.hy b.hy) c.hy) (bx := min a.lx (min b.lx c.lx)) (by0 := min a.ly (min b.ly c.ly)) (bx' := max a.hx (max b.hx c.hx)) (by' := max a.hy (max b.hy c.hy)) (by omega)
    rw [decide_eq_true (by grind)] at s1 s2 s3
    have m1 := M_19 (ax := min a.lx b.lx) (ay := min a.ly b.ly) (ax' := max a.hx b.hx) (ay' := max a.hy b.hy) (bx := c.lx) (by0 := c.ly) (bx' := c.hx) (by' := c.hy) (by omega)
    have m2 := M_19 (ax := a.lx) (ay := a.ly) (ax' := a.hx) (ay' := a.hy) (bx := c.lx) (by0 := c.ly) (bx' := c.hx) (by' := c.hy) (by omega)
    have m3 := M_19 (ax := b.lx) (ay := b.ly) (ax' := b.hx) (ay' := b.hy) (bx := c.lx) (by0 := c.ly) (bx' := c.hx) (by' := c.hy) (by omega)
    have m4 := M_19 (ax := a.lx) (ay := a.ly) (ax' := a.hx) (ay' := a.hy) (bx := a.lx) (by0 := a.ly) (bx' := a.hx) (by' := a.hy) (by omega)
    have m5 := M_19 (ax := a.lx) (ay := a.ly) (ax' := a.hx) (ay' := a.hy) (bx := b.lx) (by0 := b.ly) (bx' := b.hx) (by' := b.hy) (by omega)
    have m6 := M_19 (ax := b.lx) (ay := b.ly) (ax' := b.hx) (ay' := b.hy) (bx := a.lx) (by0 := a.ly) (bx' := a.hx) (by' := a.hy) (by omega)
    have e4 : meetB a.lx a.ly a.hx a.hy a.lx a.ly a.hx a.hy = true := by
      obtain ⟨u1, u2⟩ := v1
      unfold meetB; rw [decide_eq_true]; grind
    have e5 : meetB b.lx b.ly b.hx b.hy a.lx a.ly a.hx a.hy = meetB a.lx a.ly a.hx a.hy b.lx b.ly b.hx b.hy := by
      unfold meetB; grind
    have e1 : meetB a.lx a.ly a.hx a.hy c.lx c.ly c.hx c.hy = true ∨ meetB b.lx b.ly b.hx b.hy c.lx c.ly c.hx c.hy = true → meetB (min a.lx b.lx) (min a.ly b.ly) (max a.hx b.hx) (max a.hy b.hy) c.lx c.ly c.hx c.hy = true := by
      unfold meetB; simp only [decide_eq_true_eq]; grind
    rw [e4] at m4
    rw [e5] at m6
    generalize meetB a.lx a.ly a.hx a.hy b.lx b.ly b.hx b.hy = t5 at *
    generalize meetB a.lx a.ly a.hx a.hy c.lx c.ly c.hx c.hy = t2 at *
    generalize meetB b.lx b.ly b.hx b.hy c.lx c.ly c.hx c.hy = t3 at *
    generalize meetB (min a.lx b.lx) (min a.ly b.ly) (max a.hx b.hx) (max a.hy b.hy) c.lx c.ly c.hx c.hy = t1 at *
    generalize min (min a.lx b.lx) c.lx = z1 at *
    generalize min (min a.ly b.ly) c.ly = z2 at *
    generalize max (max a.hx b.hx) c.hx = z3 at *
    generalize max (max a.hy b.hy) c.hy = z4 at *
    generalize min a.lx (min b.lx c.lx) = z5 at *
    generalize min a.ly (min b.ly c.ly) = z6 at *
    generalize max a.hx (max b.hx c.hx) = z7 at *
    generalize max a.hy (max b.hy c.hy) = z8 at *
    generalize min a.lx b.lx = y1 at *
    generalize min a.ly b.ly = y2 at *
    generalize max a.hx b.hx = y3 at *
    generalize max a.hy b.hy = y4 at *
    obtain ⟨k1, k2⟩ := hat
    have e6 : (t5 == t5) = true := by cases t5 <;> rfl
    by_cases ht : t1 = true
    · subst ht
      simp (maxSteps := 4000000) (disch := first | omega | (simp only [List.length_set, List.length_replicate, List.length_append, List.length_take, List.length_drop, List.length_cons, List.length_nil]; omega)) only [go_sem, reduceCtorEq, Nat.reduceEqDiff, Nat.reduceAdd, Nat.reduceMul, Nat.reduceSub, ↓Nat.reduceBEq, Nat.reduceLT, Nat.reduceLeDiff, Int.reduceLT, Int.reduceLE, Int.reduceNeg, Int.reduceToNat, M_20, M_14, IntWalk.i64_quo', mode_18, hB', hbl, d1, d2, d3, mode_12, a1, a2, a3, mode_22, j1, j2, j3, j4, j5, j6, mode_13, s1, s2, s3, mode_19, m1, m2, m3, m4, m5, m6, e6, mode_17, hL]
    · obtain rfl : t1 = false := by simpa using ht
      obtain rfl : t2 = false := by cases t2 with | false => rfl | true => exact absurd (e1 (.inl rfl)) (by simp)
      obtain rfl : t3 = false := by cases t3 with | false => rfl | true => exact absurd (e1 (.inr rfl)) (by simp)
      simp (maxSteps := 4000000) (disch := first | omega | (simp only [List.length_set, List.length_replicate, List.length_append, List.length_take, List.length_drop, List.length_cons, List.length_nil]; omega)) only [go_sem, reduceCtorEq, Nat.reduceEqDiff, Nat.reduceAdd, Nat.reduceMul, Nat.reduceSub, ↓Nat.reduceBEq, Nat.reduceLT, Nat.reduceLeDiff, Int.reduceLT, Int.reduceLE, Int.reduceNeg, Int.reduceToNat, M_20, M_14, IntWalk.i64_quo', mode_18, hB', hbl, d1, d2, d3, mode_12, a1, a2, a3, mode_22, j1, j2, j3, j4, j5, j6, mode_13, s1, s2, s3, mode_19, m1, m2, m3, m4, m5, m6, e6, mode_17, hL]
end Go.Proofs.YtjccikgdebgebaaGreatDoor.Abs
end
section
set_option linter.unusedSimpArgs false
namespace Go.Proofs.YtjccikgdebgebaaGreatDoor.Abs
open Go
theorem rb_swept {px py vx vy ax ay : Rat} {n1 n2 n3 n4 n5 n6 : Nat} [RS px n1] [RS py n2] [RS vx n3] [RS vy n4] [RS ax n5] [RS ay n6] (l : List Pt) (hP : okP l) (n : Int) (hn : ok64 n) :
    RB (sweptQ l px py vx vy ax ay n) (8 * (n1 + n2 + n3 + n4 + n5 + n6 + 6) + 16) := by
  have k1 := lowX_ok hP (l.length - 1)
  have k2 := lowY_ok hP (l.length - 1)
  have k3 := topX_ok hP (l.length - 1)
  have k4 := topY_ok hP (l.length - 1)
  unfold sweptQ
  generalize lowZ prX l (l.length - 1) = z1 at *
  generalize lowZ prY l (l.length - 1) = z2 at *
  generalize topZ prX l (l.length - 1) = z3 at *
  generalize topZ prY l (l.length - 1) = z4 at *
  have q1 : RS (Rat.divInt z1 1) 3 := rs_divInt (by omega) (nd_lit (by simp only [Bn]; omega)) (nd_lit (by decide))
  have q2 : RS (Rat.divInt z2 1) 3 := rs_divInt (by omega) (nd_lit (by simp only [Bn]; omega)) (nd_lit (by decide))
  have q3 : RS (Rat.divInt z3 1) 3 := rs_divInt (by omega) (nd_lit (by simp only [Bn]; omega)) (nd_lit (by decide))
  have q4 : RS (Rat.divInt z4 1) 3 := rs_divInt (by omega) (nd_lit (by simp only [Bn]; omega)) (nd_lit (by decide))
  have hen : ok64 (if n < 0 then 0 else n) := by obtain ⟨u1, u2⟩ := hn; unfold ok64; split <;> omega
  have re : RS (Rat.divInt (if n < 0 then 0 else n) 1) 3 := by
    obtain ⟨u1, u2⟩ := hen
    exact rs_divInt (by omega) (nd_lit (by simp only [Bn]; omega)) (nd_lit (by decide))
  exact ⟨(inferInstance : RS (_ + _) _).mono (by omega), (inferInstance : RS (_ + _) _).mono (by omega), (inferInstance : RS (_ + _) _).mono (by omega), (inferInstance : RS (_ + _) _).mono (by omega)⟩
def shapeP (n : Int) : List Pt :=
  if arnd n 4 = 0 then [(0, 0), (3 * (1 + arnd (n / 7) 4), 0), (0, 4 * (1 + arnd (n / 7) 4))]
  else if arnd n 4 = 1 then [(-3 * (1 + arnd (n / 7) 4), 0), (0, -4 * (1 + arnd (n / 7) 4)), (3 * (1 + arnd (n / 7) 4), 0), (0, 4 * (1 + arnd (n / 7) 4))]
  else [(-(1 + arnd (n / 7) 4), 0), (1 + arnd (n / 28) 4, 0), (1 + arnd (n / 28) 4, 1 + arnd (n / 7) 4), (-(1 + arnd (n / 7) 4), 1 + arnd (n / 7) 4)]
theorem okP_of {l : List Pt} (h : ∀ p ∈ l, (-1000000 ≤ p.1 ∧ p.1 ≤ 1000000) ∧ (-1000000 ≤ p.2 ∧ p.2 ≤ 1000000)) : okP l := by
  intro k
  by_cases hk : k < l.length
  · have : l.getD k (0, 0) = l[k] := by simp [List.getD_eq_getElem?_getD, List.getElem?_eq_getElem hk]
    rw [this]; exact h _ (List.getElem_mem hk)
  · have : l.getD k (0, 0) = (0, 0) := by simp [List.getD_eq_getElem?_getD, List.getElem?_eq_none (by omega : l.length ≤ k)]
    rw [this]; simp
theorem okP_shape (n : Int) : okP (shapeP n) := by
  have h1 := arnd_bd (n / 7) 4 (by omega)
  have h2 := arnd_bd (n / 28) 4 (by omega)
  apply okP_of
  intro p hp
  unfold shapeP at hp
  split at hp
  · simp only [List.mem_cons, List.not_mem_nil, or_false] at hp
    rcases hp with rfl | rfl | rfl <;> dsimp only <;> omega
  · split at hp
    · simp only [List.mem_cons, List.not_mem_nil, or_false] at hp
      rcases hp with rfl | rfl | rfl | rfl <;> dsimp only <;> omega
    · simp only [List.mem_cons, List.not_mem_nil, or_false] at hp
      rcases hp with rfl | rfl | rfl | rfl <;> dsimp only <;> omega
theorem shape_len (n : Int) : 3 ≤ (shapeP n).length ∧ (shapeP n).length ≤ 4 := by
  unfold shapeP
  split
  · simp
  · split <;> simp
set_option maxRecDepth 100000 in
set_option maxHeartbeats 4000000 in
theorem M_38 [SpC] (n : Int) (hn : 0 ≤ n ∧ n < 4096) : M X 38 [.int .i64 n] = some (.ro (ptC (shapeP n)) (shapeP n).length false) := by
  have a1 := M_12 (n / 7) 4 ⟨by omega, by omega⟩ (by omega)
  have a2 := M_12 (n / 28) 4 ⟨by omega, by omega⟩ (by omega)
  have a3 := M_12 n 4 ⟨by omega, by omega⟩ (by omega)
  have h1 := arnd_bd (n / 7) 4 (by omega)
  have h2 := arnd_bd (n / 28) 4 (by omega)
  have h3 := arnd_bd n 4 (by omega)
  refine M_of X (fn := Tryz.f38) Tryz.func38 rfl ok_38 mode_38 res_38 _ rfl _ ?_
  intro r hr
  rw [hr]
  unfold shapeP
  generalize arnd (n / 7) 4 = u at *
  generalize arnd (n / 28) 4 = v at *
  generalize arnd n 4 = t at *
  by_cases t0 : t = 0
  · subst t0
    simp (maxSteps := 4000000) (disch := first | omega | (simp only [List.length_set, List.length_replicate, List.length_append, List.length_take, List.length_drop, List.length_cons, List.length_nil]; omega)) only [go_sem, reduceCtorEq, Nat.reduceEqDiff, Nat.reduceAdd, Nat.reduceMul, Nat.reduceSub, ↓Nat.reduceBEq, Nat.reduceLT, Nat.reduceLeDiff, Int.reduceLT, Int.reduceLE, Int.reduceNeg, Int.reduceToNat, replA_1, replA_2, replA_3, replA_4, ptC, mode_12, a1, a2, a3]
  · by_cases t1 : t = 1
    · subst t1
      simp (maxSteps := 4000000) (disch := first | omega | (simp only [List.length_set, List.length_replicate, List.length_append, List.length_take, List.length_drop, List.length_cons, List.length_nil]; omega)) only [go_sem, reduceCtorEq, Nat.reduceEqDiff, Nat.reduceAdd, Nat.reduceMul, Nat.reduceSub, ↓Nat.reduceBEq, Nat.reduceLT, Nat.reduceLeDiff, Int.reduceLT, Int.reduceLE, Int.reduceNeg, Int.reduceToNat, replA_1, replA_2, replA_3, replA_4, ptC, mode_12, a1, a2, a3]
    · simp (maxSteps := 4000000) (disch := first | omega | (simp only [List.length_set, List.length_replicate, List.length_append, List.length_take, List.length_drop, List.length_cons, List.length_nil]; omega)) only [go_sem, reduceCtorEq, Nat.reduceEqDiff, Nat.reduceAdd, Nat.reduceMul, Nat.reduceSub, ↓Nat.reduceBEq, Nat.reduceLT, Nat.reduceLeDiff, Int.reduceLT, Int.reduceLE, Int.reduceNeg, Int.reduceToNat, replA_1, replA_2, replA_3, replA_4, ptC, t0, t1, Int.zero_sub, mode_12, a1, a2, a3]
def ptN (l : List Int) (at0 i : Nat) : Pt := (atN l (at0 + 2 * i) 50 - 25, atN l (at0 + 2 * i + 1) 50 - 25)
def ptsP (l : List Int) (at0 n : Nat) : List Pt := (List.range n).map (ptN l at0)
theorem ptsP_succ (l : List Int) (at0 n : Nat) : ptsP l at0 (n + 1) = ptsP l at0 n ++ [ptN l at0 n] := by simp [ptsP, List.range_succ]
theorem ptsP_length (l : List Int) (at0 n : Nat) : (ptsP l at0 n).length = n := by simp [ptsP]
theorem ptC_snoc (l : List Pt) (x y : Int) : ptC (l ++ [(x, y)]) = ptC l ++ [.int .i64 x, .int .i64 y] := by
  induction l with
  | nil => rfl
  | cons p l ih => simp only [ptC, List.cons_append, ih]
def cornP (l : List Int) (at0 : Nat) : List Pt := if 0 < arnd (atN l at0 1024 / 112) 5 then shapeP (atN l at0 1024) else ptsP l at0 (arnd (atN l at0 1024) 4).toNat
theorem okP_corn (l : List Int) (at0 : Nat) : okP (cornP l at0) := by
  unfold cornP
  split
  · exact okP_shape _
  · apply okP_of
    intro p hp
    simp only [ptsP, List.mem_map, List.mem_range] at hp
    obtain ⟨i, _, rfl⟩ := hp
    have h1 := atN_bd l (at0 + 2 * i) 50 (by omega)
    have h2 := atN_bd l (at0 + 2 * i + 1) 50 (by omega)
    unfold ptN
    dsimp only
    omega
theorem corn_len (l : List Int) (at0 : Nat) : (cornP l at0).length ≤ 4 := by
  unfold cornP
  split
  · exact (shape_len _).2
  · rw [ptsP_length]
    have := arnd_bd (atN l at0 1024) 4 (by omega)
    omega
set_option maxRecDepth 100000 in
set_option maxHeartbeats 4000000 in
theorem M_10 [SpC] (l : List Int) (hl : okI l) (hlen : l.length < 2 ^ 60) (at0 : Nat) (hat : at0 < 1000) : M X 10 [isl l, .int .i64 at0] = some (.ro (ptC (cornP l at0)) (cornP l at0).length false) := by
  have t1 := M_43 l at0 1024 hl (by omega) (by omega)
  have b1 := atN_bd l at0 1024 (by omega)
  rw [Int.toNat_natCast] at t1
  refine M_of X (fn := Tryz.f10) Tryz.func10 rfl ok_10 mode_10 res_10 _ rfl _ ?_
  intro r hr
  rw [hr]
  unfold cornP
  generalize atN l at0 1024 = n at *
  have a1 := M_12 (n / 112) 5 ⟨by omega, by omega⟩ (by omega)
  have a2 := M_12 n 4 ⟨by omega, by omega⟩ (by omega)
  have b2 := arnd_bd n 4 (by omega)
  have s1 := M_38 n (by omega)
  by_cases h0 : 0 < arnd (n / 112) 5
  · rw [if_pos h0]
    simp (maxSteps := 4000000) (disch := first | omega | (simp only [List.length_set, List.length_replicate, List.length_append, List.length_take, List.length_drop, List.length_cons, List.length_nil]; omega)) only [go_sem, reduceCtorEq, Nat.reduceEqDiff, Nat.reduceAdd, Nat.reduceMul, Nat.reduceSub, ↓Nat.reduceBEq, Nat.reduceLT, Nat.reduceLeDiff, Int.reduceLT, Int.reduceLE, Int.reduceNeg, Int.reduceToNat, mode_43, t1, mode_12, a1, mode_38, s1, weaks_ptC]
  · rw [if_neg h0]
    simp (maxSteps := 4000000) (disch := first | omega | (simp only [List.length_set, List.length_replicate, List.length_append, List.length_take, List.length_drop, List.length_cons, List.length_nil]; omega)) only [go_sem, reduceCtorEq, Nat.reduceEqDiff, Nat.reduceAdd, Nat.reduceMul, Nat.reduceSub, ↓Nat.reduceBEq, Nat.reduceLT, Nat.reduceLeDiff, Int.reduceLT, Int.reduceLE, Int.reduceNeg, Int.reduceToNat, mode_43, t1, mode_12, a1]
    generalize arnd n 4 = c at *
    refine W_loop X (fun (i : Nat) s => i ≤ c.toNat ∧ s.env 0 = isl l ∧ s.env 1 = .int .i64 at0 ∧ s.env 5 = .int .i64 n ∧ s.env 7 = .int .i64 i ∧ GrowC 0 s.heap s.next (s.env 6) (ptC (ptsP l at0 i)) i 2) (fun i => c.toNat - i) ?_ 0 _ ?_
    · rintro i ⟨env, heap, nx⟩ ⟨hi, g0, g1, g5, g7, hgr⟩
      simp only at g0 g1 g5 g7 hgr
      have hpl := ptC_length (ptsP l at0 i)
      rw [ptsP_length] at hpl
      by_cases h1 : (i : Int) < c
      · have v1 := M_43 l ((at0 + 2 * i : Nat) : Int) 50 hl (by omega) (by omega)
        have v2 := M_43 l ((at0 + 2 * i + 1 : Nat) : Int) 50 hl (by omega) (by omega)
        rw [Int.toNat_natCast] at v1 v2
        have c1 := atN_bd l (at0 + 2 * i) 50 (by omega)
        have c2 := atN_bd l (at0 + 2 * i + 1) 50 (by omega)
        have hs := congrArg ptC (ptsP_succ l at0 i)
        unfold ptN at hs
        rw [ptC_snoc] at hs
        have u1 : (at0 : Int) + 2 * (i : Int) = ((at0 + 2 * i : Nat) : Int) := by omega
        generalize atN l (at0 + 2 * i) 50 = w1 at *
        generalize atN l (at0 + 2 * i + 1) 50 = w2 at *
        rcases hgr with ⟨e3, ec, e0⟩ | ⟨B, hB, e3, eB⟩
        · simp (maxSteps := 4000000) (disch := first | omega | (simp only [List.length_set, List.length_replicate, List.length_append, List.length_take, List.length_drop, List.length_cons, List.length_nil]; omega)) only [go_sem, reduceCtorEq, Nat.reduceEqDiff, Nat.reduceAdd, Nat.reduceMul, Nat.reduceSub, ↓Nat.reduceBEq, Nat.reduceLT, Nat.reduceLeDiff, Int.reduceLT, Int.reduceLE, Int.reduceNeg, Int.reduceToNat, g0, g1, g5, g7, e3, replA_1, u1, mode_43, v1, v2, mode_12, a2]
          subst e0
          exact ⟨1, ⟨by omega, rfl, by rw [hs, ec]; exact growC_put _ _ _ _ _ _ _ (by omega)⟩, by omega⟩
        · simp (maxSteps := 4000000) (disch := first | omega | (simp only [List.length_set, List.length_replicate, List.length_append, List.length_take, List.length_drop, List.length_cons, List.length_nil]; omega)) only [go_sem, reduceCtorEq, Nat.reduceEqDiff, Nat.reduceAdd, Nat.reduceMul, Nat.reduceSub, ↓Nat.reduceBEq, Nat.reduceLT, Nat.reduceLeDiff, Int.reduceLT, Int.reduceLE, Int.reduceNeg, Int.reduceToNat, g0, g1, g5, g7, e3, eB, hpl, replA_1, u1, mode_43, v1, v2, mode_12, a2]
          exact ⟨i + 1, ⟨by omega, rfl, by rw [hs]; exact growC_put _ _ _ _ _ _ _ (by omega)⟩, by omega⟩
      · have hi' : i = c.toNat := by omega
        subst hi'
        rcases hgr with ⟨e3, ec, e0⟩ | ⟨B, hB, e3, eB⟩
        · simp (maxSteps := 4000000) (disch := first | omega | (simp only [List.length_set, List.length_replicate, List.length_append, List.length_take, List.length_drop, List.length_cons, List.length_nil]; omega)) only [go_sem, reduceCtorEq, Nat.reduceEqDiff, Nat.reduceAdd, Nat.reduceMul, Nat.reduceSub, ↓Nat.reduceBEq, Nat.reduceLT, Nat.reduceLeDiff, Int.reduceLT, Int.reduceLE, Int.reduceNeg, Int.reduceToNat, g0, g1, g5, g7, e3, ec, e0, mode_12, a2]
          rfl
        · simp (maxSteps := 4000000) (disch := first | omega | (simp only [List.length_set, List.length_replicate, List.length_append, List.length_take, List.length_drop, List.length_cons, List.length_nil]; omega)) only [go_sem, reduceCtorEq, Nat.reduceEqDiff, Nat.reduceAdd, Nat.reduceMul, Nat.reduceSub, ↓Nat.reduceBEq, Nat.reduceLT, Nat.reduceLeDiff, Int.reduceLT, Int.reduceLE, Int.reduceNeg, Int.reduceToNat, g0, g1, g5, g7, e3, eB, hpl, ptsP_length, snaps_ptC, weaks_ptC, mode_12, a2]
    · simp (maxSteps := 4000000) (disch := first | omega | (simp only [List.length_set, List.length_replicate, List.length_append, List.length_take, List.length_drop, List.length_cons, List.length_nil]; omega)) only [go_sem, reduceCtorEq, Nat.reduceEqDiff, Nat.reduceAdd, Nat.reduceMul, Nat.reduceSub, ↓Nat.reduceBEq, Nat.reduceLT, Nat.reduceLeDiff, Int.reduceLT, Int.reduceLE, Int.reduceNeg, Int.reduceToNat]
      exact growC_nil _ _ _ _
set_option maxRecDepth 100000 in
set_option maxHeartbeats 16000000 in
theorem M_3 [SpC] (hS : SortedSays) (l : List Int) (n k : Int) (hn : ok64 n) (hk : ok64 k) (hl : okI l) (hlen : l.length < 2 ^ 60) : M X 3 [isl l, .int .i64 n, .int .i64 k] = some (.bool true) := by
  have hL := M_17 hS
  have hC : M X 10 [isl l, .int .i64 6] = some (.ro (ptC (cornP l 6)) (cornP l 6).length false) := M_10 l hl hlen 6 (by omega)
  have c1 := okP_corn l 6
  have c2 := corn_len l 6
  have v1 := M_11 l 0 hl (by omega)
  have v2 := M_11 l 2 hl (by omega)
  have v3 := M_11 l 4 hl (by omega)
  have r1 := rs_numQ (atN l (0 : Int).toNat 4096)
  have r2 := rs_numQ (atN l ((0 : Int).toNat + 1) 4096)
  have r3 := rs_numQ (atN l (2 : Int).toNat 4096)
  have r4 := rs_numQ (atN l ((2 : Int).toNat + 1) 4096)
  have r5 := rs_numQ (atN l (4 : Int).toNat 4096)
  have r6 := rs_numQ (atN l ((4 : Int).toNat + 1) 4096)
  generalize numQ (atN l (0 : Int).toNat 4096) = px at *
  generalize numQ (atN l ((0 : Int).toNat + 1) 4096) = py at *
  generalize numQ (atN l (2 : Int).toNat 4096) = vx at *
  generalize numQ (atN l ((2 : Int).toNat + 1) 4096) = vy at *
  generalize numQ (atN l (4 : Int).toNat 4096) = ax at *
  generalize numQ (atN l ((4 : Int).toNat + 1) 4096) = ay at *
  generalize cornP l 6 = c at *
  have a1 := M_12 n 40 hn (by omega)
  have a2 := M_12 k 9 hk (by omega)
  have b1 := arnd_bd n 40 (by omega)
  have b2 := arnd_bd k 9 (by omega)
  generalize arnd n 40 = i1 at *
  generalize arnd k 9 = i2 at *
  have hq : ∀ m : Int, -2 ≤ m ∧ m ≤ 1048576 → ∃ b : BoxQ, M X 15 [.ro (ptC c) c.length false, .agg [zS (Rat.num (px)), zD (Rat.num (px)), zS (dz (px)), zD (dz (px)), zS (Rat.num (py)), zD (Rat.num (py)), zS (dz (py)), zD (dz (py))], .agg [zS (Rat.num (vx)), zD (Rat.num (vx)), zS (dz (vx)), zD (dz (vx)), zS (Rat.num (vy)), zD (Rat.num (vy)), zS (dz (vy)), zD (dz (vy))], .agg [zS (Rat.num (ax)), zD (Rat.num (ax)), zS (dz (ax)), zD (dz (ax)), zS (Rat.num (ay)), zD (Rat.num (ay)), zS (dz (ay)), zD (dz (ay))], .int .i64 m] = some (.agg [zS (Rat.num (b.lx)), zD (Rat.num (b.lx)), zS (dz (b.lx)), zD (dz (b.lx)), zS (Rat.num (b.ly)), zD (Rat.num (b.ly)), zS (dz (b.ly)), zD (dz (b.ly)), zS (Rat.num (b.hx)), zD (Rat.num (b.hx)), zS (dz (b.hx)), zD (dz (b.hx)), zS (Rat.num (b.hy)), zD (Rat.num (b.hy)), zS (dz (b.hy)), zD (dz (b.hy))]) ∧
      M X 16 [.ro (ptC c) c.length false, .agg [zS (Rat.num (px)), zD (Rat.num (px)), zS (dz (px)), zD (dz (px)), zS (Rat.num (py)), zD (Rat.num (py)), zS (dz (py)), zD (dz (py))], .agg [zS (Rat.num (vx)), zD (Rat.num (vx)), zS (dz (vx)), zD (dz (vx)), zS (Rat.num (vy)), zD (Rat.num (vy)), zS (dz (vy)), zD (dz (vy))], .agg [zS (Rat.num (ax)), zD (Rat.num (ax)), zS (dz (ax)), zD (dz (ax)), zS (Rat.num (ay)), zD (Rat.num (ay)), zS (dz (ay)), zD (dz (ay))], .int .i64 m] = some (.agg [zS (Rat.num (b.lx)), zD (Rat.num (b.lx)), zS (dz (b.lx)), zD (dz (b.lx)), zS (Rat.num (b.ly)), zD (Rat.num (b.ly)), zS (dz (b.ly)), zD (dz (b.ly)), zS (Rat.num (b.hx)), zD (Rat.num (b.hx)), zS (dz (b.hx)), zD (dz (b.hx)), zS (Rat.num (b.hy)), zD (Rat.num (b.hy)), zS (dz (b.hy)), zD (dz (b.hy))]) ∧
      M X 13 [.agg [zS (Rat.num (b.lx)), zD (Rat.num (b.lx)), zS (dz (b.lx)), zD (dz (b.lx)), zS (Rat.num (b.ly)), zD (Rat.num (b.ly)), zS (dz (b.ly)), zD (dz (b.ly)), zS (Rat.num (b.hx)), zD (Rat.num (b.hx)), zS (dz (b.hx)), zD (dz (b.hx)), zS (Rat.num (b.hy)), zD (Rat.num (b.hy)), zS (dz (b.hy)), zD (dz (b.hy))], .agg [zS (Rat.num (b.lx)), zD (Rat.num (b.lx)), zS (dz (b.lx)), zD (dz (b.lx)), zS (Rat.num (b.ly)), zD (Rat.num (b.ly)), zS (dz (b.ly)), zD (dz (b.ly)), zS (Rat.num (b.hx)), zD (Rat.num (b.hx)), zS (dz (b.hx)), zD (dz (b.hx)), zS (Rat.num (b.hy)), zD (Rat.num (b.hy)), zS (dz (b.hy)), zD (dz (b.hy))]] = some (.bool true) := by
    intro m hm
    refine ⟨sweptQ c px py vx vy ax ay m, M_15 c c1 (by omega) m ⟨by omega, by omega⟩ (by omega), M_16 c c1 (by omega) m ⟨by omega, by omega⟩ (by omega), ?_⟩
    have rb := rb_swept (px := px) (py := py) (vx := vx) (vy := vy) (ax := ax) (ay := ay) c c1 m ⟨by omega, by omega⟩
    generalize sweptQ c px py vx vy ax ay m = b at *
    have s1 := M_13 (ax := b.lx) (ay := b.ly) (ax' := b.hx) (ay' := b.hy) (bx := b.lx) (by0 := b.ly) (bx' := b.hx) (by' := b.hy) (by omega)
    rw [decide_eq_true ⟨rfl, rfl, rfl, rfl⟩] at s1
    exact s1
  obtain ⟨b, q1, q2, q3⟩ := hq i1 (by omega)
  obtain ⟨d, q4, q5, q6⟩ := hq (i2 - 2) (by omega)
  obtain ⟨e, q7, q8, q9⟩ := hq 1048576 (by omega)
  refine M_of X (fn := Tryz.f3) Tryz.func3 rfl ok_3 mode_3 res_3 _ rfl _ ?_
  intro r hr
  rw [hr]
  simp (maxSteps := 4000000) (disch := first | omega | (simp only [List.length_set, List.length_replicate, List.length_append, List.length_take, List.length_drop, List.length_cons, List.length_nil]; omega)) only [go_sem, reduceCtorEq, Nat.reduceEqDiff, Nat.reduceAdd, Nat.reduceMul, Nat.reduceSub, ↓Nat.reduceBEq, Nat.reduceLT, Nat.reduceLeDiff, Int.reduceLT, Int.reduceLE, Int.reduceNeg, Int.reduceToNat, M_14, W_unroll, unQ_normal, unQ_ret, unQ_exit, Int.reduceAdd, Int.reduceSub, Int.reduceMul, replA_1, replA_2, replA_3, mode_10, hC, weaks_ptC, mode_11, v1, v2, v3, mode_12, a1, a2, mode_15, mode_16, mode_13, q1, q2, q3, q4, q5, q6, q7, q8, q9, mode_17, hL]
end Go.Proofs.YtjccikgdebgebaaGreatDoor.Abs
end
section
set_option linter.unusedSimpArgs false
namespace Go.Proofs.YtjccikgdebgebaaGreatDoor.Abs
open Go
theorem half_eq : (Rat.divInt 1 2 : Rat) + Rat.divInt 1 2 = 1 := by decide +kernel
theorem along_zero (p v a : Rat) : alongQ p v a 0 = p := by unfold alongQ; grind
theorem along_shift (p v a e s : Rat) : alongQ (alongQ p v a e) (v + a * e) a s = alongQ p v a (e + s) := by
  have h := half_eq
  unfold alongQ
  generalize (Rat.divInt 1 2 : Rat) = t at *
  grind
theorem mul_nn {x y : Rat} (hx : 0 ≤ x) (hy : 0 ≤ y) : 0 ≤ x * y := Rat.mul_nonneg hx hy
theorem turn_eq {v a : Rat} (ha : a ≠ 0) : v = - (a * turnQ v a) := by
  unfold turnQ
  have : v / a * a = v := Rat.div_mul_cancel ha
  grind
/-- Against the turning point. -/
theorem along_turn {p v a s : Rat} (ha : a ≠ 0) : alongQ p v a s = alongQ p v a (turnQ v a) + a * (Rat.divInt 1 2) * ((s - turnQ v a) * (s - turnQ v a)) := by
  have h := half_eq
  have hv := turn_eq (v := v) ha
  generalize turnQ v a = t at *
  subst hv
  unfold alongQ
  generalize (Rat.divInt 1 2 : Rat) = u at *
  grind
theorem half_nn : (0 : Rat) ≤ Rat.divInt 1 2 := by decide +kernel
theorem sq_nn (x : Rat) : 0 ≤ x * x := by
  rcases (Rat.le_total (a := 0) (b := x)) with h | h
  · exact mul_nn h h
  · have := mul_nn (x := -x) (y := -x) (by grind) (by grind)
    grind
/-- Between two times, without a turn, what lies between lies between. -/
theorem along_between {p v a e s : Rat} (hs : 0 ≤ s) (he : s ≤ e) (ht : ¬ turns v a e) : (p ≤ alongQ p v a s ∧ alongQ p v a s ≤ alongQ p v a e) ∨ (alongQ p v a s ≤ p ∧ alongQ p v a e ≤ alongQ p v a s) := by
  have h := half_eq
  have hn := half_nn
  unfold turns at ht
  have key : ∀ x y : Rat, alongQ p v a y - alongQ p v a x = (y - x) * (v + a * ((x + y) * Rat.divInt 1 2)) := by
    intro x y
    unfold alongQ
    generalize (Rat.divInt 1 2 : Rat) = u at *
    grind
  have k1 := key 0 s
  have k2 := key s e
  rw [along_zero] at k1
  by_cases ha : a = 0
  · subst ha
    rcases (Rat.le_total (a := 0) (b := v)) with hv | hv
    · left
      have m1 := mul_nn hs hv
      have m2 := mul_nn (x := e - s) (by grind) hv
      grind
    · right
      have m1 := mul_nn (y := -v) hs (by grind)
      have m2 := mul_nn (x := e - s) (y := -v) (by grind) (by grind)
      grind
  · have hv := turn_eq (v := v) ha
    have ht : turnQ v a ≤ 0 ∨ e ≤ turnQ v a := by
      by_cases h1 : 0 < turnQ v a
      · right
        exact Rat.not_lt.1 fun h2 => ht ⟨ha, h1, h2⟩
      · left; exact Rat.not_lt.1 h1
    generalize turnQ v a = t at *
    subst hv
    have e1 : (s + 0 - (t + t)) = s - 2 * t := by grind
    have f1 : - (a * t) + a * ((0 + s) * Rat.divInt 1 2) = a * ((s - (t + t)) * Rat.divInt 1 2) := by
      generalize (Rat.divInt 1 2 : Rat) = u at *
      grind
    have f2 : - (a * t) + a * ((s + e) * Rat.divInt 1 2) = a * ((s + e - (t + t)) * Rat.divInt 1 2) := by
      generalize (Rat.divInt 1 2 : Rat) = u at *
      grind
    rw [f1] at k1
    rw [f2] at k2
    rcases ht with ht | ht
    · have g1 : 0 ≤ (s - (t + t)) * Rat.divInt 1 2 := mul_nn (by grind) hn
      have g2 : 0 ≤ (s + e - (t + t)) * Rat.divInt 1 2 := mul_nn (by grind) hn
      generalize (s - (t + t)) * Rat.divInt 1 2 = w1 at *
      generalize (s + e - (t + t)) * Rat.divInt 1 2 = w2 at *
      rcases (Rat.le_total (a := 0) (b := a)) with h0 | h0
      · left
        have m1 := mul_nn (x := s) (y := a * w1) hs (mul_nn h0 g1)
        have m2 := mul_nn (x := e - s) (y := a * w2) (by grind) (mul_nn h0 g2)
        grind
      · right
        have m1 := mul_nn (x := s) (y := (-a) * w1) hs (mul_nn (by grind) g1)
        have m2 := mul_nn (x := e - s) (y := (-a) * w2) (by grind) (mul_nn (by grind) g2)
        grind
    · have g1 : 0 ≤ ((t + t) - s) * Rat.divInt 1 2 := mul_nn (by grind) hn
      have g2 : 0 ≤ ((t + t) - s - e) * Rat.divInt 1 2 := mul_nn (by grind) hn
      have h1 : (s - (t + t)) * Rat.divInt 1 2 = - (((t + t) - s) * Rat.divInt 1 2) := by
        generalize (Rat.divInt 1 2 : Rat) = u at *; grind
      have h2 : (s + e - (t + t)) * Rat.divInt 1 2 = - (((t + t) - s - e) * Rat.divInt 1 2) := by
        generalize (Rat.divInt 1 2 : Rat) = u at *; grind
      rw [h1] at k1
      rw [h2] at k2
      generalize ((t + t) - s) * Rat.divInt 1 2 = w1 at *
      generalize ((t + t) - s - e) * Rat.divInt 1 2 = w2 at *
      rcases (Rat.le_total (a := 0) (b := a)) with h0 | h0
      · right
        have m1 := mul_nn (x := s) (y := a * w1) hs (mul_nn h0 g1)
        have m2 := mul_nn (x := e - s) (y := a * w2) (by grind) (mul_nn h0 g2)
        grind
      · left
        have m1 := mul_nn (x := s) (y := (-a) * w1) hs (mul_nn (by grind) g1)
        have m2 := mul_nn (x := e - s) (y := (-a) * w2) (by grind) (mul_nn (by grind) g2)
        grind
theorem lo_le {p v a e s : Rat} (hs : 0 ≤ s) (he : s ≤ e) : loQ p v a e ≤ alongQ p v a s := by
  unfold loQ
  split
  · rename_i ht
    have h1 := along_turn (p := p) (v := v) (a := a) (s := s) ht.1
    have h2 := along_turn (p := p) (v := v) (a := a) (s := e) ht.1
    have h3 := along_turn (p := p) (v := v) (a := a) (s := 0) ht.1
    rw [along_zero] at h3
    obtain ⟨_, t1, t2⟩ := ht
    have hn := half_nn
    generalize turnQ v a = t at *
    generalize (Rat.divInt 1 2 : Rat) = u at *
    generalize alongQ p v a t = f0 at *
    generalize alongQ p v a s = f1 at *
    generalize alongQ p v a e = f2 at *
    rcases (Rat.le_total (a := 0) (b := a)) with h0 | h0
    · have := mul_nn (mul_nn h0 hn) (sq_nn (s - t))
      grind
    · have m0 := mul_nn (x := -a) (by grind) hn
      rcases (Rat.le_total (a := s) (b := t)) with hst | hst
      · -- at the left: above p
        have m1 := mul_nn m0 (mul_nn (x := s) (y := t + t - s) hs (by grind))
        have : f1 - p = -a * u * (s * (t + t - s)) := by rw [h1, h3]; grind
        grind
      · have m1 := mul_nn m0 (mul_nn (x := e - s) (y := e + s - t - t) (by grind) (by grind))
        have : f1 - f2 = -a * u * ((e - s) * (e + s - t - t)) := by rw [h1, h2]; grind
        grind
  · rename_i ht
    rcases along_between (p := p) hs he ht with ⟨h1, h2⟩ | ⟨h1, h2⟩ <;> grind
theorem hi_ge {p v a e s : Rat} (hs : 0 ≤ s) (he : s ≤ e) : alongQ p v a s ≤ hiQ p v a e := by
  unfold hiQ
  split
  · rename_i ht
    have h1 := along_turn (p := p) (v := v) (a := a) (s := s) ht.1
    have h2 := along_turn (p := p) (v := v) (a := a) (s := e) ht.1
    have h3 := along_turn (p := p) (v := v) (a := a) (s := 0) ht.1
    rw [along_zero] at h3
    obtain ⟨_, t1, t2⟩ := ht
    have hn := half_nn
    generalize turnQ v a = t at *
    generalize (Rat.divInt 1 2 : Rat) = u at *
    generalize alongQ p v a t = f0 at *
    generalize alongQ p v a s = f1 at *
    generalize alongQ p v a e = f2 at *
    rcases (Rat.le_total (a := a) (b := 0)) with h0 | h0
    · have := mul_nn (mul_nn (x := -a) (by grind) hn) (sq_nn (s - t))
      grind
    · have m0 := mul_nn h0 hn
      rcases (Rat.le_total (a := s) (b := t)) with hst | hst
      · have m1 := mul_nn m0 (mul_nn (x := s) (y := t + t - s) hs (by grind))
        have : p - f1 = a * u * (s * (t + t - s)) := by rw [h1, h3]; grind
        grind
      · have m1 := mul_nn m0 (mul_nn (x := e - s) (y := e + s - t - t) (by grind) (by grind))
        have : f2 - f1 = a * u * ((e - s) * (e + s - t - t)) := by rw [h1, h2]; grind
        grind
  · rename_i ht
    rcases along_between (p := p) hs he ht with ⟨h1, h2⟩ | ⟨h1, h2⟩ <;> grind
theorem lo_att {p v a e : Rat} (h : 0 ≤ e) : ∃ s, 0 ≤ s ∧ s ≤ e ∧ loQ p v a e = alongQ p v a s := by
  unfold loQ
  split
  · rename_i ht
    have h0 := along_zero p v a
    by_cases h1 : min p (alongQ p v a e) ≤ alongQ p v a (turnQ v a)
    · by_cases h2 : p ≤ alongQ p v a e
      · exact ⟨0, by grind, h, by grind⟩
      · exact ⟨e, h, by grind, by grind⟩
    · exact ⟨turnQ v a, by have := ht.2.1; grind, by have := ht.2.2; grind, by grind⟩
  · have h0 := along_zero p v a
    by_cases h2 : p ≤ alongQ p v a e
    · exact ⟨0, by grind, h, by grind⟩
    · exact ⟨e, h, by grind, by grind⟩
theorem hi_att {p v a e : Rat} (h : 0 ≤ e) : ∃ s, 0 ≤ s ∧ s ≤ e ∧ hiQ p v a e = alongQ p v a s := by
  unfold hiQ
  split
  · rename_i ht
    have h0 := along_zero p v a
    by_cases h1 : alongQ p v a (turnQ v a) ≤ max p (alongQ p v a e)
    · by_cases h2 : alongQ p v a e ≤ p
      · exact ⟨0, by grind, h, by grind⟩
      · exact ⟨e, h, by grind, by grind⟩
    · exact ⟨turnQ v a, by have := ht.2.1; grind, by have := ht.2.2; grind, by grind⟩
  · have h0 := along_zero p v a
    by_cases h2 : alongQ p v a e ≤ p
    · exact ⟨0, by grind, h, by grind⟩
    · exact ⟨e, h, by grind, by grind⟩
theorem lo_join (p v a e f : Rat) (he : 0 ≤ e) (hf : 0 ≤ f) : min (loQ p v a e) (loQ (alongQ p v a e) (v + a * e) a f) = loQ p v a (e + f) := by
  obtain ⟨s1, a1, a2, a3⟩ := lo_att (p := p) (v := v) (a := a) he
  obtain ⟨s2, b1, b2, b3⟩ := lo_att (p := alongQ p v a e) (v := v + a * e) (a := a) hf
  obtain ⟨s3, c1, c2, c3⟩ := lo_att (p := p) (v := v) (a := a) (e := e + f) (by grind)
  rw [along_shift] at b3
  have d1 := lo_le (p := p) (v := v) (a := a) (s := s1) (e := e + f) a1 (by grind)
  have d2 := lo_le (p := p) (v := v) (a := a) (s := e + s2) (e := e + f) (by grind) (by grind)
  by_cases h : s3 ≤ e
  · have := lo_le (p := p) (v := v) (a := a) c1 h
    grind
  · have := lo_le (p := alongQ p v a e) (v := v + a * e) (a := a) (s := s3 - e) (e := f) (by grind) (by grind)
    rw [along_shift, show e + (s3 - e) = s3 by grind] at this
    grind
theorem hi_join (p v a e f : Rat) (he : 0 ≤ e) (hf : 0 ≤ f) : max (hiQ p v a e) (hiQ (alongQ p v a e) (v + a * e) a f) = hiQ p v a (e + f) := by
  obtain ⟨s1, a1, a2, a3⟩ := hi_att (p := p) (v := v) (a := a) he
  obtain ⟨s2, b1, b2, b3⟩ := hi_att (p := alongQ p v a e) (v := v + a * e) (a := a) hf
  obtain ⟨s3, c1, c2, c3⟩ := hi_att (p := p) (v := v) (a := a) (e := e + f) (by grind)
  rw [along_shift] at b3
  have d1 := hi_ge (p := p) (v := v) (a := a) (s := s1) (e := e + f) a1 (by grind)
  have d2 := hi_ge (p := p) (v := v) (a := a) (s := e + s2) (e := e + f) (by grind) (by grind)
  by_cases h : s3 ≤ e
  · have := hi_ge (p := p) (v := v) (a := a) c1 h
    grind
  · have := hi_ge (p := alongQ p v a e) (v := v + a * e) (a := a) (s := s3 - e) (e := f) (by grind) (by grind)
    rw [along_shift, show e + (s3 - e) = s3 by grind] at this
    grind
theorem lo_hi (p v a e : Rat) : loQ p v a e ≤ hiQ p v a e := by
  unfold loQ hiQ
  split <;> grind
theorem lowZ_le (pr : Pt → Int) (l : List Pt) : ∀ n k, k ≤ n → lowZ pr l n ≤ pr (l.getD k (0, 0)) := by
  intro n
  induction n with
  | zero => intro k hk; obtain rfl : k = 0 := by omega
            exact Int.le_refl _
  | succ n ih =>
    intro k hk
    unfold lowZ
    by_cases h : k = n + 1
    · subst h; omega
    · have := ih k (by omega); omega
theorem topZ_ge (pr : Pt → Int) (l : List Pt) : ∀ n k, k ≤ n → pr (l.getD k (0, 0)) ≤ topZ pr l n := by
  intro n
  induction n with
  | zero => intro k hk; obtain rfl : k = 0 := by omega
            exact Int.le_refl _
  | succ n ih =>
    intro k hk
    unfold topZ
    by_cases h : k = n + 1
    · subst h; omega
    · have := ih k (by omega); omega
theorem divInt_c (m : Int) : Rat.divInt m 1 = (m : Rat) := by
  rw [Rat.divInt_eq_div]
  have : ((1 : Int) : Rat) = 1 := rfl
  rw [this]; grind
theorem divInt_le {m n : Int} (h : m ≤ n) : Rat.divInt m 1 ≤ Rat.divInt n 1 := by
  rw [divInt_c, divInt_c]; exact Rat.intCast_le_intCast.2 h
theorem divInt_add1 (m n : Int) : Rat.divInt (m + n) 1 = Rat.divInt m 1 + Rat.divInt n 1 := by
  rw [divInt_c, divInt_c, divInt_c, Rat.intCast_add]
theorem divInt_nn {n : Int} (h : 0 ≤ n) : 0 ≤ Rat.divInt n 1 := divInt_le h
end Go.Proofs.YtjccikgdebgebaaGreatDoor.Abs
end
