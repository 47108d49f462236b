/-
  From what the interpreter answers to the given rows: arguments that are slices of whole numbers and whole numbers, the table of functions that the program's start lays. No conditions. The documented example's three boxes, sorted. No conditions.
-/
import Derived.Test.YtjccikgdebgebaaGreatDoorQ21
import Derived.Test.YtjccikgdebgebaaGreatDoorRows
import Derived.ProofKit
import Derived.LaidMore
import Derived.OpenShut
import Derived.SizedLaws
import Derived.ChangeBears2
import Derived.Stop.Joined
import Derived.Test.YtjccikgdebgebaaGreatDoorQ10
set_option linter.unusedSimpArgs false
set_option linter.unusedVariables false
section
set_option linter.unusedSimpArgs false
set_option maxRecDepth 100000
namespace Go.Proofs.YtjccikgdebgebaaGreatDoor.Abs
open Go Go.ChangeShapes Go.WideShapes Go.ChangeAt Go.RowKit
inductive Arg where
  | s (l : List Int)
  | i (n : Int)
def Arg.ty : Arg → TypeId
  | .s _ => 22
  | .i _ => 3
def Arg.av : Arg → AV
  | .s l => isl l
  | .i n => .int .i64 n
def Arg.ok : Arg → Prop
  | .s l => okI l ∧ l.length < 2 ^ 60
  | .i n => ok64 n
abbrev noW : Nat → Prop := fun _ => False
noncomputable abbrev PR : Program := Tryz.prog
theorem cellsInt : PR.cellsOf 3 = 1 := by kernel_rfl
theorem bytesInt : PR.bytesOf 3 = 8 := by kernel_rfl
theorem laidOut : laidOutB PR = true := by kernel_rfl
/-- What the row's bound on a size says of one argument. -/
def Fits {H : Type} (t : TypeId) (d : DataW H) : Prop := ∀ elems spare e, d = .slice elems spare → PR.underlying t = some (.slice e) → (elems.length + spare.length) * PR.bytesOf e ≤ reachBytes
theorem open_arg {H : Type} {enc : TypeId × Value → H} {W : World} {base : Nat} {sp : Nat → Bool} {t : TypeId} {v : Value} {d : DataW H} {p : List MemPlace} (ht : t = 22 ∨ t = 3) (hval : Value.okWide PR W .any base t v) (h0 : DataW.Trod enc PR W 0 sp true t v d p) (hf : Fits t d) :
    ∃ a : Arg, a.ty = t ∧ a.ok ∧ Rep W noW noMu v a.av := by
  rcases ht with rfl | rfl
  · obtain ⟨a0, len, cap, rfl⟩ := okWide_slice Tryz.underlying22 hval
    obtain ⟨fuel, h0⟩ := h0
    rcases open_ints Tryz.underlying22 Tryz.underlying3 cellsInt h0 with ⟨hcs, hx⟩ | ⟨a, len', cap', zs, hcs, _, hl, hm, hz, hx, hcell, hwz⟩
    · simp [Value.cells] at hcs
      obtain ⟨rfl, rfl, rfl⟩ := hcs
      exact ⟨.s [], rfl, ⟨by intro x hx; simp at hx, by simp⟩, .ro0 _ _ _ _ (by simp)⟩
    · simp [Value.cells] at hcs
      obtain ⟨rfl, rfl, rfl⟩ := hcs
      have hlz : len ≤ zs.length := by rw [hz]; split <;> omega
      have hbig : len * 8 ≤ reachBytes := by
        simp only [Prod.mk.injEq] at hx
        have := hf _ _ _ hx.1 Tryz.underlying22
        rw [bytesInt] at this
        simp only [lits, List.length_map, List.length_take, List.length_drop] at this
        omega
      have hok : okI (zs.take len) := by
        intro x hx
        have := bounds_i64 (hwz x (List.mem_of_mem_take hx))
        exact ⟨by omega, by omega⟩
      have hlen : (zs.take len).length = len := by rw [List.length_take]; omega
      refine ⟨.s (zs.take len), rfl, ⟨hok, by rw [hlen]; unfold reachBytes at hbig; omega⟩, ?_⟩
      show Rep W noW noMu (.slice (some a) len cap) (.ro (ints (zs.take len)) (zs.take len).length false)
      rw [hlen]
      by_cases h0 : len = 0
      · subst h0
        rw [List.take_zero]
        exact .ro0 _ _ _ _ (by simp)
      · obtain ⟨B, o, spot⟩ := a
        have hspot : spot = none := by simpa [Addr.add] using World.cell?_spot (hcell 0 (by omega))
        subst hspot
        have hc : ∀ i, i < len → W.cell? ⟨B, o + i, none⟩ = some (.int .i64 (zs.getD i 0)) := fun i hi => by
          rw [← add_plain]; exact hcell i (by omega)
        have hB : B < W.heap.size := by
          have := hc 0 (by omega)
          unfold World.cell? at this
          simp only at this
          rcases Nat.lt_or_ge B W.heap.size with h | h
          · exact h
          · rw [Array.getElem?_eq_none h] at this; simp at this
        have hg : ∀ i x, (ints (zs.take len))[i]? = some x → i < len ∧ x = .int .i64 (zs.getD i 0) := by
          intro i x hx
          rw [ints_getD, hlen] at hx
          split at hx
          · rename_i hi
            refine ⟨hi, ?_⟩
            injection hx with hx
            rw [← hx, List.getD_eq_getElem?_getD, List.getElem?_take, if_pos hi, List.getD_eq_getElem?_getD]
          · simp at hx
        refine .ro _ B o len cap _ false (fun i => .int .i64 (zs.getD i 0)) hB (fun h => h) hl (by simp) (fun i x hx => hc i (hg i x hx).1) (fun i x hx => ?_) (fun i x hx => ?_)
        · rw [(hg i x hx).2]; exact .int _ _ _
        · rw [(hg i x hx).2]; rfl
  · obtain ⟨n, rfl, rfl, _, hw⟩ := open_int Tryz.underlying3 hval h0
    have := bounds_i64 hw
    exact ⟨.i n, rfl, ⟨by omega, by omega⟩, .int _ _ _⟩
theorem open_args {H : Type} {enc : TypeId × Value → H} {W : World} {base : Nat} {sp : Nat → Bool} : ∀ (ts : List TypeId) (vs : List Value) (ds : List (DataW H)) (p : List MemPlace), (∀ t ∈ ts, t = 22 ∨ t = 3) →
    (∀ (j : Nat) t v, ts[j]? = some t → vs[j]? = some v → Value.okWide PR W .any base t v) → (∀ (j : Nat) t d, ts[j]? = some t → ds[j]? = some d → Fits t d) → DataW.TrodAll enc PR W 0 sp true ts vs ds p →
    ∃ bs : List Arg, bs.map Arg.ty = ts ∧ (∀ a ∈ bs, a.ok) ∧ vs.length = bs.length ∧ ∀ (i : Nat) v a, vs[i]? = some v → bs[i]? = some a → Rep W noW noMu v a.av
  | [], vs, ds, p, _, _, _, h => by
    obtain ⟨rfl, rfl, rfl⟩ := trodAll_nil h
    exact ⟨[], rfl, by simp, rfl, by simp⟩
  | t :: ts, vs, ds, p, ht, hv, hf, h => by
    obtain ⟨v, vs', d, ds', p1, q, rfl, rfl, rfl, hd, hrest⟩ := trodAll_cons h
    obtain ⟨a, a1, a2, a3⟩ := open_arg (ht t (by simp)) (hv 0 t v rfl rfl) hd (hf 0 t d rfl rfl)
    obtain ⟨bs, b1, b2, b3, b4⟩ := open_args ts vs' ds' q (fun t ht' => ht t (by simp [ht'])) (fun j t v h1 h2 => hv (j + 1) t v h1 h2) (fun j t d h1 h2 => hf (j + 1) t d h1 h2) hrest
    refine ⟨a :: bs, by simp [a1, b1], fun x hx => ?_, by simp [b3], fun i v' a' hv' ha' => ?_⟩
    · simp only [List.mem_cons] at hx
      rcases hx with rfl | hx
      · exact a2
      · exact b2 x hx
    · match i with
      | 0 => simp at hv' ha'; subst hv'; subst ha'; exact a3
      | i + 1 => exact b4 i v' a' (by simpa using hv') (by simpa using ha')
theorem trodAll_below {H : Type} {enc : TypeId × Value → H} {W W' : World} (hB : Below W.heap.size W W') : ∀ (ts : List TypeId) (vs : List Value) (ds : List (DataW H)) (p : List MemPlace), (∀ t ∈ ts, PR.readableRec t = true ∧ t < PR.types.size) → DataW.TrodAll enc PR W 0 (fun _ => true) true ts vs ds p → (∀ x ∈ p, x.block < W.heap.size) →
    DataW.TrodAll enc PR W' 0 (fun b => decide (b < W.heap.size)) true ts vs ds p
  | [], vs, ds, p, _, h, _ => by
    obtain ⟨rfl, rfl, rfl⟩ := trodAll_nil h
    rfl
  | t :: ts, vs, ds, p, hr, h, hlt => by
    obtain ⟨v, vs', d, ds', p1, q, rfl, rfl, rfl, hd, hrest⟩ := trodAll_cons h
    exact ⟨p1, q, Below.trod laidOut (hr t (by simp)).1 (hr t (by simp)).2 hd hB (fun x hx => hlt x (by simp [hx])), trodAll_below hB ts vs' ds' q (fun t ht => hr t (by simp [ht])) hrest (fun x hx => hlt x (by simp [hx])), rfl⟩
/-! ### The table of functions -/
theorem own : ownKnob PR.godebug = none := by kernel_rfl
noncomputable abbrev laidL : List (String × DataW Unit) := Rows.broadSweptRow.laid
theorem door_met (os : Os) (args : Array Value) : laidMetH PR laidL ((World.doorLaid PR 400 os).forCall (fun _ _ => 0) ⟨#[], args, []⟩).memory :=
  laidMetH_of_parts3 (fuel := 8) (laidMet_of_run' 8 (by kernel_rfl) (by kernel_rfl)) (by kernel_rfl) (by kernel_rfl)
/-- The table's cells. -/
theorem of_laid {W : World} (h : laidMetH PR laidL W) : 0 < W.heap.size ∧ W.cell? ⟨0, 0, none⟩ = some (.func (.func 189) #[] #[]) ∧ W.cell? ⟨0, 1, none⟩ = some (.func (.func 190) #[] #[]) ∧
    W.cell? ⟨0, 2, none⟩ = some (.func (.func 191) #[] #[]) ∧ W.cell? ⟨0, 3, none⟩ = some (.func (.func 192) #[] #[]) := by
  obtain ⟨g, t, cs, fuel, p, hg, ht, hv, hd⟩ := h.funcs (List.mem_cons_self ..)
  obtain rfl : 0 = g := Option.some.inj (Eq.trans (by kernel_rfl) hg)
  obtain rfl : 81 = t := Option.some.inj (Eq.trans (by kernel_rfl) ht)
  obtain ⟨xs, m, rfl, hx, hlen, hn, hel⟩ := DataW.trod_array Tryz.underlying81 hd
  have c1 : PR.cellsOf 80 = 2 := by kernel_rfl
  have c2 : PR.cellsOf 81 = 4 := by kernel_rfl
  have h0 := hel 0 (by decide)
  have h1 := hel 1 (by decide)
  rw [c1] at h0 h1
  rw [c2] at hlen
  match xs, hn with
  | [x0, x1], _ =>
    match hcs : cs.toList, hlen with
    | [v0, v1, v2, v3], _ =>
      rw [hcs] at h0 h1
      simp only [List.getElem?_cons_zero, List.getElem?_cons_succ, Nat.zero_mul, Nat.one_mul, List.drop_zero, List.drop_succ_cons, List.take_succ_cons, List.take_zero] at h0 h1
      obtain ⟨ys, m', rfl, hy, _, hny, hely⟩ := DataW.trod_struct Tryz.underlying80 h0
      obtain ⟨zs, m'', e2, hz, _, hnz, helz⟩ := DataW.trod_struct Tryz.underlying80 h1
      have c3 : PR.cellsOf 77 = 1 := by kernel_rfl
      have c4 : PR.cellsOf 78 = 1 := by kernel_rfl
      have a0 : DataW.trod (funcToken PR) PR W 0 (fun _ => true) true m' 77 (List.take (PR.cellsOf 77) (List.drop 0 [v0, v1])) = ys[0]? := hely 0 _ rfl
      have a1 : DataW.trod (funcToken PR) PR W 0 (fun _ => true) true m' 78 (List.take (PR.cellsOf 78) (List.drop 1 [v0, v1])) = ys[1]? := hely 1 _ rfl
      have a2 : DataW.trod (funcToken PR) PR W 0 (fun _ => true) true m'' 77 (List.take (PR.cellsOf 77) (List.drop 0 [v2, v3])) = zs[0]? := helz 0 _ rfl
      have a3 : DataW.trod (funcToken PR) PR W 0 (fun _ => true) true m'' 78 (List.take (PR.cellsOf 78) (List.drop 1 [v2, v3])) = zs[1]? := helz 1 _ rfl
      rw [c3] at a0 a2
      rw [c4] at a1 a3
      match ys, hny with
      | [y0, y1], _ =>
      match zs, hnz with
      | [z0, z1], _ =>
      simp only [List.getElem?_cons_zero, List.getElem?_cons_succ, List.drop_zero, List.drop_succ_cons, List.take_succ_cons, List.take_zero] at a0 a1 a2 a3
      subst hy hz
      have hx' : (DataW.agg [.agg [.held (_ :: _), .held (_ :: _)], .agg [.held (_ :: _), .held (_ :: _)]] : DataW (List UInt8)) = .agg [.agg [y0.1, y1.1], .agg [z0.1, z1.1]] := congrArg Prod.fst hx
      simp only [DataW.agg.injEq, List.cons.injEq, and_true] at hx'
      obtain ⟨⟨b0, b1⟩, b2, b3⟩ := hx'
      have e0 : v0 = .func (.func 189) #[] #[] := func_of_trod (f0 := 189) Tryz.underlying77 (by kernel_rfl) (a0.trans (congrArg some (Prod.ext b0.symm rfl)))
      have e1 : v1 = .func (.func 190) #[] #[] := func_of_trod (f0 := 190) Tryz.underlying78 (by kernel_rfl) (a1.trans (congrArg some (Prod.ext b1.symm rfl)))
      have e2 : v2 = .func (.func 191) #[] #[] := func_of_trod (f0 := 191) Tryz.underlying77 (by kernel_rfl) (a2.trans (congrArg some (Prod.ext b2.symm rfl)))
      have e3 : v3 = .func (.func 192) #[] #[] := func_of_trod (f0 := 192) Tryz.underlying78 (by kernel_rfl) (a3.trans (congrArg some (Prod.ext b3.symm rfl)))
      have hcell : ∀ i, W.cell? ⟨0, i, none⟩ = [v0, v1, v2, v3][i]? := fun i => by
        have := World.var?_cell hg hv i
        rw [this, ← hcs, Array.getElem?_toList]
      subst e0 e1 e2 e3
      refine ⟨?_, hcell 0, hcell 1, hcell 2, hcell 3⟩
      have h9 := hcell 0
      unfold World.cell? at h9
      simp only at h9
      rcases Nat.lt_or_ge 0 W.heap.size with h | h
      · exact h
      · rw [Array.getElem?_eq_none h] at h9; simp at h9
theorem starts {W : World} {vals : Array Value} {bs : List Arg} (hL : laidMetH PR laidL W) (hlen : vals.toList.length = bs.length) (hr : ∀ (i : Nat) v a, vals.toList[i]? = some v → bs[i]? = some a → Rep W noW noMu v a.av) : Starts (@X spc1) W vals (bs.map Arg.av) := by
  obtain ⟨h0, h1, h2, h3, h4⟩ := of_laid hL
  refine ⟨fun g cs hg => ?_, by simpa using hlen, fun i v a hv ha => ?_⟩
  · have hg : (if g = 0 then some [AV.func (.func 189) [] [], .func (.func 190) [] [], .func (.func 191) [] [], .func (.func 192) [] []] else none) = some cs := hg
    split at hg
    · rename_i hg0
      subst hg0
      injection hg with hg
      subst hg
      have rf : ∀ f : FuncId, Rep W noW noMu (.func (.func f) #[] #[]) (.func (.func f) [] []) := fun f => .func _ _ _ _ _ _ rfl rfl (by simp) (by simp)
      refine ⟨h0, fun i => match i with | 0 => .func (.func 189) #[] #[] | 1 => .func (.func 190) #[] #[] | 2 => .func (.func 191) #[] #[] | _ => .func (.func 192) #[] #[], fun i a ha => ?_⟩
      match i with
      | 0 => simp at ha; subst ha; exact ⟨h1, rf _, rfl⟩
      | 1 => simp at ha; subst ha; exact ⟨h2, rf _, rfl⟩
      | 2 => simp at ha; subst ha; exact ⟨h3, rf _, rfl⟩
      | 3 => simp at ha; subst ha; exact ⟨h4, rf _, rfl⟩
      | i + 4 => simp at ha
    · simp at hg
  · rw [List.getElem?_map] at ha
    obtain ⟨b, hb, rfl⟩ := Option.map_eq_some_iff.1 ha
    exact hr i v b (by simpa using hv) hb
/-- What is shown of a law: it answers true, whatever its arguments. -/
def Law (F : Nat) (ts : List TypeId) : Prop := ∀ bs : List Arg, bs.map Arg.ty = ts → (∀ a ∈ bs, a.ok) → @M (@X spc1) F (bs.map Arg.av) = some (.bool true)
theorem contract_law {H : Type} {enc : TypeId × Value → H} {s : ChangeSpec} {F : Nat} {fn : Func} {ts : List TypeId} {conds : List PathCond} (hp : fn.params.toList = ts) (hts : ∀ t ∈ ts, t = 22 ∨ t = 3) (hrt : fn.resultTypes = #[4]) (hv : s.vars = [])
    (hs : ∀ ds : List (DataW H), ds.length = ts.length → s.fn H ds = { results := [.lit (.bool true)], args := ds }) (hM : Law F ts) (hns : (@X spc1).mode F = .ro)
    (W : World) (base : Nat) (args : Array Value) (ds gs : List (DataW H)) (before : List MemPlace)
    (hval : ∀ (j : Nat) t v, fn.params[j]? = some t → args[j]? = some v → Value.okWide PR W .any base t v)
    (hW : DataW.Whole enc PR fn.params.toList s.vars false W args.toList ds gs before)
    (_ : conds.all (PathCond.test PR ⟨fn.params.toList, ds, s.plain.varTypes PR, gs⟩) = true)
    (hsz : (DataW.weightsEach PR (fn.params.toList ++ s.plain.varTypes PR) (ds ++ gs)).all (· ≤ reachBytes) = true) (hL : laidMetH PR laidL W) {Q : Prop} (_ : Q) :
    Calls PR F args W fun e W' => ∃ v, e = .returned v ∧ s.post enc PR fn false true false false W args v W' := by
  have hW' := hW
  obtain ⟨p, q, hA, hV, rfl, hfz, hnd⟩ := hW
  rw [hp] at hA hsz
  have hV0 : gs = [] ∧ q = [] := by
    rw [hv] at hV
    cases gs with
    | nil => exact ⟨rfl, hV⟩
    | cons g gs => exact hV.elim
  obtain ⟨rfl, rfl⟩ := hV0
  have hdl : ds.length = ts.length := by
    clear hsz hW' hval hfz hnd
    revert hA
    generalize args.toList = vs
    have : ∀ (ts : List TypeId) (vs : List Value) (ds : List (DataW H)) (p : List MemPlace), DataW.TrodAll enc PR W 0 (fun _ => true) true ts vs ds p → ds.length = ts.length := by
      intro ts
      induction ts with
      | nil => intro vs ds p h; obtain ⟨rfl, rfl, rfl⟩ := trodAll_nil h; rfl
      | cons t ts ih =>
        intro vs ds p h
        obtain ⟨v, vs', d, ds', p1, q, rfl, rfl, rfl, hd, hrest⟩ := trodAll_cons h
        simp [ih _ _ _ hrest]
    exact this ts vs ds p
  have hfn := hs ds hdl
  obtain ⟨bs, b1, b2, b3, b4⟩ := open_args ts args.toList ds p hts (fun j t v h1 h2 => hval j t v (by rw [← hp] at h1; simpa using h1) (by simpa using h2)) (fun j t d h1 h2 elems spare e hd hu => by
      subst hd
      refine sized_slice hsz (j := j) (t := t) (e := e) ?_ ?_ hu
      · rw [List.getElem?_append_left (List.getElem?_eq_some_iff.1 h1).1]; exact h1
      · rw [List.getElem?_append_left (List.getElem?_eq_some_iff.1 h2).1]; exact h2) hA
  refine (sound (@mixed spc1) sp1 (by rw [hns]; rfl) (hM bs b1 b2) rfl (starts hL b3 b4)).mono ?_
  rintro e W1 ⟨u, rfl, hu, hB⟩
  obtain rfl : u = .bool true := by cases hu; rfl
  have hlt : ∀ x ∈ p, x.block < W.heap.size := fun x hx => by simpa using hW'.lt x (List.mem_append_left _ hx)
  refine ⟨_, rfl, ds, [], p ++ [], [], p, [], hW', ?_, ?_, ?_, hB.frame _, fun h => by cases h⟩
  · rw [List.append_nil, hfn, hrt]; exact trodAll_mk1 (shut_bool Tryz.underlying4 _)
  · rw [List.append_nil, hfn, hp]
    exact trodAll_below hB ts _ _ _ (fun t ht => by rcases hts t ht with rfl | rfl <;> exact ⟨by kernel_rfl, of_decide_eq_true (by kernel_rfl)⟩) hA hlt
  · rw [List.append_nil, hfn, hv]; rfl
end Go.Proofs.YtjccikgdebgebaaGreatDoor.Abs
end
section
set_option linter.unusedSimpArgs false
namespace Go.Proofs.YtjccikgdebgebaaGreatDoor.Abs
open Go
theorem mt_dD : mt bD bD = true := by unfold mt meetB bD; decide +kernel
theorem mt_db : mt bD bB = false := by unfold mt meetB bB bD; decide +kernel
theorem mt_dc : mt bD bC = true := by unfold mt meetB bC bD; decide +kernel
theorem mt_bc : mt bB bC = true := by unfold mt meetB bC bB; decide +kernel
theorem prs_lives : prsP [bD, bB, bC] 3 3 = [(0, 2), (1, 2)] := by
  have h1 : mtN [bD, bB, bC] 0 1 = false := mt_db
  have h2 : mtN [bD, bB, bC] 0 2 = true := mt_dc
  have h3 : mtN [bD, bB, bC] 1 2 = true := mt_bc
  simp [prsP, rowP, h1, h2, h3]
theorem sorted_says : @SpC.spec spc1 37 [.ro (boxC [bD, bB, bC]) 3 false] = some (.ro (ptC [(0, 2), (1, 2)]) 2 false) := by
  have r1 : RS (Rat.divInt (-8) 1) 1 := rs_small (by decide) (by decide)
  have r2 : RS (Rat.divInt 0 1) 1 := rs_small (by decide) (by decide)
  have r3 : RS (Rat.divInt 2 1) 1 := rs_small (by decide) (by decide)
  have r4 : RS (Rat.divInt 1 1) 1 := rs_small (by decide) (by decide)
  have r5 : RS (Rat.divInt 3 1) 1 := rs_small (by decide) (by decide)
  have r6 : RS (Rat.divInt 5 4) 1 := rs_small (by decide) (by decide)
  have hok : okB [bD, bB, bC] 1 := by
    intro b hb
    simp only [List.mem_cons, List.not_mem_nil, or_false] at hb
    rcases hb with rfl | rfl | rfl
    · exact ⟨r3, r6, r5, r5⟩
    · exact ⟨r1, r2, r3, r4⟩
    · exact ⟨r3, r4, r5, r5⟩
  have h := spec1_eq (l := [bD, bB, bC]) hok (by decide) (by decide)
  rw [show ([bD, bB, bC] : List BoxQ).length = 3 from rfl] at h
  rw [h]
  show some (AV.ro (ptC (prsP [bD, bB, bC] 3 3)) (prsP [bD, bB, bC] 3 3).length false) = _
  rw [prs_lives]
  rfl
end Go.Proofs.YtjccikgdebgebaaGreatDoor.Abs
end
