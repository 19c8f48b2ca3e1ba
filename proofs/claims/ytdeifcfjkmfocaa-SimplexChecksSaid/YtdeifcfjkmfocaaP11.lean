/-
  'The law SimplexChecks answers true for every input' is proved here: no condition.
-/
import Derived.Test.YtdeifcfjkmfocaaP10
import Derived.Test.YtdeifcfjkmfocaaRows
namespace Go.Proofs.Ytdeifcfjkmfocaa
open Go Go.Am Go.RowKit Go.ChangeShapes Go.WideShapes Go.ChangeAt
theorem simplexChecks_own : ownKnob Try.prog.godebug = none := by kernel_rfl
theorem simplexChecks_laid : laidOutB Try.prog = true := by kernel_rfl
theorem simplexChecks_ub : Try.prog.underlying T_bool = some .bool := by kernel_rfl
theorem simplexChecks_tys : mapO (tyOf Try.prog 20) Try.f3.params.toList = some [tyProg] := by kernel_rfl
theorem simplexChecks_read : (Try.f3.params.toList.all fun t => Try.prog.readableRec t && decide (t < Try.prog.types.size)) = true := by kernel_rfl
theorem simplexChecks_res : Try.f3.resultTypes = #[T_bool] := by kernel_rfl
set_option maxRecDepth 100000 in
theorem simplexChecks_lifted (os : Os) (started : os.Started) (H : Type) (enc : TypeId × Value → H) :
    ReturnsInHanded {} Try.checked os 3 .any (Rows.simplexChecksSpec.pre6 enc Try.prog Try.f3 Rows.simplexChecksRow.domain false) (Rows.simplexChecksSpec.post enc Try.prog Try.f3 false true false false) := by
  refine returnsInHanded_of_change_sized (C := Try.checked) simplexChecks_own started (by kernel_rfl) Try.func3
    (ChangeSpec.witness6 (enc := enc) (C := Try.checked) false ⟨#[], #[.agg #[.slice none 0 0, .slice none 0 0]], []⟩ 8 (by kernel_rfl) (by kernel_rfl) (by kernel_rfl) (by kernel_rfl)) ?_
  intro W base args ds gs before hval hW _ hsz _
  exact law_calls simplexChecks_laid simplexChecks_tys simplexChecks_read simplexChecks_res simplexChecks_ub rfl
    (fun ds h => by
      have e : Try.f3.params.toList.length = 1 := by kernel_rfl
      rw [e] at h
      match ds, h with
      | [d0], _ => exact ⟨rfl, rfl, rfl⟩)
    simplexChecks_contract hval hW hsz
theorem simplexChecks_holds : Rows.SimplexChecksSaid :=
  OpenClaim.holds_of_wide 3 Try.f3 rfl rfl rfl rfl rfl rfl rfl ⟨rfl, rfl, rfl, rfl, rfl⟩ rfl rfl rfl rfl rfl (by kernel_rfl) Try.func3 (by kernel_rfl)
    (of_decide_eq_true (by kernel_rfl)) (by unfold Func.isWrapper; first | (rw [if_pos (by decide +kernel)]; kernel_rfl) | (rw [if_neg (by decide +kernel)]; exact ⟨rfl, rfl⟩))
    (fun os started H enc _ => simplexChecks_lifted os started H enc)
#print axioms simplexChecks_holds
end Go.Proofs.Ytdeifcfjkmfocaa
