/-
  ModelValid: for every input the law answers true, and its arguments read as they did. No conditions.
-/
import Derived.Test.YtenhjccadhlgoaaGreatQ20
import Derived.Test.YtenhjccadhlgoaaGreatQ21
set_option linter.unusedSimpArgs false
set_option maxRecDepth 100000
namespace Go.Proofs.YtenhjccadhlgoaaGreat
open Go Go.ChangeShapes Go.WideShapes Go.ChangeAt Go.RowKit Abs

theorem law_ModelValid : Law 3 [22, 3, 3, 3] := by
 intro bs h1 h2
 match bs, h1 with
 | [.s l0, .i n1, .i n2, .i n3], _ =>
  exact @M_3 spc1 (fun m s h => spec1_eq h) l0 n1 n2 n3 (h2 (.s l0) (by simp)).1 (h2 (.s l0) (by simp)).2 (h2 (.i n1) (by simp)) (h2 (.i n2) (by simp)) (h2 (.i n3) (by simp))

theorem lifted_ModelValid (os : Os) (started : os.Started) (H : Type) (enc : TypeId × Value → H) :
  ReturnsInHanded {} Tryz.checked os 3 .any (Rows.modelValidSpec.pre6 enc Tryz.prog Tryz.f3 [] false) (Rows.modelValidSpec.post enc Tryz.prog Tryz.f3 false true false false) := by
 refine returnsInHanded_of_change_sized (C := Tryz.checked) own started (by kernel_rfl) Tryz.func3
  (ChangeSpec.witness6 (enc := enc) (C := Tryz.checked) false ⟨#[], #[.slice none 0 0, .int .i64 0, .int .i64 0, .int .i64 0], []⟩ 8 (by kernel_rfl) (by kernel_rfl) (by kernel_rfl) (by kernel_rfl)) ?_
 intro W base args ds gs before hval hW hc hsz hq
 exact contract_law (conds := []) (H := H) (enc := enc) (s := Rows.modelValidSpec) (ts := [22, 3, 3, 3]) (by rw [Tryz.params3]) (by unfold tyOk; decide) (by kernel_rfl) rfl (fun ds hd => by
  match ds, hd with
  | [d0, d1, d2, d3], _ => rfl) law_ModelValid (@mode_3 spc1) W base args ds gs before hval hW hc hsz hq

theorem modelValid_holds : Rows.ModelValidSaid :=
 OpenClaim.holds_of_wide 3 Tryz.f3 rfl rfl rfl rfl rfl rfl rfl ⟨rfl, rfl, rfl, rfl, rfl⟩ rfl rfl rfl rfl rfl (by kernel_rfl) Tryz.func3 (by kernel_rfl)
  (of_decide_eq_true (by kernel_rfl)) (by unfold Func.isWrapper; first | (rw [if_pos (by decide +kernel)]; kernel_rfl) | (rw [if_neg (by decide +kernel)]; exact ⟨rfl, rfl⟩))
  (fun os started H enc _ => lifted_ModelValid os started H enc)
#print axioms modelValid_holds
end Go.Proofs.YtenhjccadhlgoaaGreat
