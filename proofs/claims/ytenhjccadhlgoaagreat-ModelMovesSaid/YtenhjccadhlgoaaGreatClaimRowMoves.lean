/-
  ModelMoves: for every input the law answers true, and its arguments read as they did. No conditions.
-/
import Derived.Test.YtenhjccadhlgoaaGreatQ20
import Derived.Test.YtenhjccadhlgoaaGreatQ22
set_option linter.unusedSimpArgs false
set_option maxRecDepth 100000
namespace Go.Proofs.YtenhjccadhlgoaaGreat
open Go Go.ChangeShapes Go.WideShapes Go.ChangeAt Go.RowKit Abs

theorem law_ModelMoves : Law 5 [22, 22, 22, 22] := by
 intro bs h1 h2
 match bs, h1 with
 | [.s l0, .s l1, .s l2, .s l3], _ =>
  exact @M_5 spc1 (fun m s h => spec1_eq h) l0 l1 l2 l3 (h2 (.s l0) (by simp)).1 (h2 (.s l0) (by simp)).2 (h2 (.s l1) (by simp)).1 (h2 (.s l1) (by simp)).2 (h2 (.s l2) (by simp)).1 (h2 (.s l2) (by simp)).2 (h2 (.s l3) (by simp)).1 (h2 (.s l3) (by simp)).2

theorem lifted_ModelMoves (os : Os) (started : os.Started) (H : Type) (enc : TypeId × Value → H) :
  ReturnsInHanded {} Tryz.checked os 5 .any (Rows.modelMovesSpec.pre6 enc Tryz.prog Tryz.f5 [] false) (Rows.modelMovesSpec.post enc Tryz.prog Tryz.f5 false true false false) := by
 refine returnsInHanded_of_change_sized (C := Tryz.checked) own started (by kernel_rfl) Tryz.func5
  (ChangeSpec.witness6 (enc := enc) (C := Tryz.checked) false ⟨#[], #[.slice none 0 0, .slice none 0 0, .slice none 0 0, .slice none 0 0], []⟩ 8 (by kernel_rfl) (by kernel_rfl) (by kernel_rfl) (by kernel_rfl)) ?_
 intro W base args ds gs before hval hW hc hsz hq
 exact contract_law (conds := []) (H := H) (enc := enc) (s := Rows.modelMovesSpec) (ts := [22, 22, 22, 22]) (by rw [Tryz.params5]) (by decide) (by kernel_rfl) rfl (fun ds hd => by
  match ds, hd with
  | [d0, d1, d2, d3], _ => rfl) law_ModelMoves (@mode_5 spc1) W base args ds gs before hval hW hc hsz hq

theorem modelMoves_holds : Rows.ModelMovesSaid :=
 OpenClaim.holds_of_wide 5 Tryz.f5 rfl rfl rfl rfl rfl rfl rfl ⟨rfl, rfl, rfl, rfl, rfl⟩ rfl rfl rfl rfl rfl (by kernel_rfl) Tryz.func5 (by kernel_rfl)
  (of_decide_eq_true (by kernel_rfl)) (by unfold Func.isWrapper; first | (rw [if_pos (by decide +kernel)]; kernel_rfl) | (rw [if_neg (by decide +kernel)]; exact ⟨rfl, rfl⟩))
  (fun os started H enc _ => lifted_ModelMoves os started H enc)
#print axioms modelMoves_holds
end Go.Proofs.YtenhjccadhlgoaaGreat
