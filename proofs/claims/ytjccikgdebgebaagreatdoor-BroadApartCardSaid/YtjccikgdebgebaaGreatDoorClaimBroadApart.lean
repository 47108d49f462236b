/-
  BroadApart: for every input the law answers true, and its arguments read as they did. No conditions.
-/
import Derived.Test.YtjccikgdebgebaaGreatDoorQ22
import Derived.Test.YtjccikgdebgebaaGreatDoorCards
import Derived.Test.YtjccikgdebgebaaGreatDoorTie
import Derived.Test.YtjccikgdebgebaaGreatDoorQ12
set_option linter.unusedSimpArgs false
set_option maxRecDepth 100000
namespace Go.Proofs.YtjccikgdebgebaaGreatDoor
open Go Go.ChangeShapes Go.WideShapes Go.ChangeAt Go.RowKit Abs

theorem law_BroadApart : Law 9 [22, 3, 3, 3, 3] := by
  intro bs h1 h2
  match bs, h1 with
  | [.s l0, .i n1, .i n2, .i n3, .i n4], _ =>
    have a0 := h2 (.s l0) (by simp)
    have a1 := h2 (.i n1) (by simp)
    have a2 := h2 (.i n2) (by simp)
    have a3 := h2 (.i n3) (by simp)
    have a4 := h2 (.i n4) (by simp)
    exact @M_9 spc1 sorted_says l0 n1 n2 n3 n4 a1 a2 a3 a4 a0.1 a0.2

theorem lifted_BroadApart (os : Os) (started : os.Started) (H : Type) (enc : TypeId × Value → H) :
    ReturnsInHanded {} Tryz.checked os 9 .any (fun w args => (Rows.broadApartSpec.pre enc Tryz.prog Tryz.f9 [] false w args ∧ laidMetH Tryz.prog laidL w) ∧ sizedMet enc Tryz.prog Tryz.f9 (OpenSpec.ofChange Rows.broadApartSpec) false w args)
      (Rows.broadApartSpec.post enc Tryz.prog Tryz.f9 false true false false) := by
  refine returnsInHanded_of_change_and (C := Tryz.checked) (X := fun w _ => laidMetH Tryz.prog laidL w) (fun _ _ _ hh h => h.of_heap hh) own started (by kernel_rfl) Tryz.func9
    (ChangeSpec.witness_shaped (enc := enc) (C := Tryz.checked) (os := os) (X := fun w _ => laidMetH Tryz.prog laidL w) false (World.doorLaid Tryz.prog 400 os) #[.slice none 0 0, .int .i64 0, .int .i64 0, .int .i64 0, .int .i64 0] 8 rfl (World.shaped_of_RefB (by kernel_rfl) (by kernel_rfl)) (by kernel_rfl) (by kernel_rfl) (by kernel_rfl) (door_met os _)) ?_
  intro W base args ds gs before hval hW hc hsz hL hq
  exact contract_law (conds := []) (H := H) (enc := enc) (s := Rows.broadApartSpec) (ts := [22, 3, 3, 3, 3]) (by rw [Tryz.params9]) (by decide) (by kernel_rfl) rfl (fun ds hd => by
    match ds, hd with
    | [d0, d1, d2, d3, d4], _ => rfl) law_BroadApart (@mode_9 spc1) W base args ds gs before hval hW hc hsz hL hq

theorem row_BroadApart : Rows.BroadApartSaid :=
  OpenClaim.holds_of_wide 9 Tryz.f9 rfl rfl rfl rfl rfl rfl rfl ⟨rfl, rfl, rfl, rfl, rfl⟩ rfl rfl rfl rfl rfl (by kernel_rfl) Tryz.func9 (by kernel_rfl)
    (of_decide_eq_true (by kernel_rfl)) (by unfold Func.isWrapper; first | (rw [if_pos (by decide +kernel)]; kernel_rfl) | (rw [if_neg (by decide +kernel)]; exact ⟨rfl, rfl⟩))
    (fun os started H enc _ => lifted_BroadApart os started H enc)

theorem broadApart_holds : Rows.BroadApartCardSaid :=
  Claim7.holds_tied_plain_at .later [] _ true _ false row_BroadApart (fun _ h => by cases h) (by kernel_rfl) (fun _ h => by cases h) broadApart_row_tie rfl ⟨rfl, rfl⟩ (by kernel_rfl) rfl
    (fun f fn hf hfn => by
      obtain rfl : f = 9 := Option.some.inj (Eq.trans (hf.symm) (by kernel_rfl))
      obtain rfl : fn = Tryz.f9 := (Option.some.inj (Tryz.func9.symm.trans hfn)).symm
      exact ⟨by kernel_rfl, fun j t ht => by
        rw [Tryz.params9] at ht
        have hm : t ∈ ([22, 3, 3, 3, 3] : List Nat) := by simpa using Array.mem_of_getElem? ht
        have hall : (([22, 3, 3, 3, 3] : List Nat).all fun u => !Tryz.prog.wantsStandIn u) = true := by kernel_rfl
        exact (show Tryz.prog.wantsStandIn t = false by simpa using List.all_eq_true.1 hall t hm)⟩)
    (by kernel_rfl)
#print axioms broadApart_holds
end Go.Proofs.YtjccikgdebgebaaGreatDoor
