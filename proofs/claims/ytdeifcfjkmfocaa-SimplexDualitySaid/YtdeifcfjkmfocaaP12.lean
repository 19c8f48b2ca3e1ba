/-
  'The law SimplexDuality answers true for every input' is proved here: no condition.
-/
import Derived.Test.YtdeifcfjkmfocaaP11
import Derived.Test.YtdeifcfjkmfocaaRows
set_option maxRecDepth 100000
set_option maxHeartbeats 4000000
namespace Go.Proofs.Ytdeifcfjkmfocaa
open Go Go.Am Go.RowKit Go.ChangeShapes Go.WideShapes Go.ChangeAt
theorem simplexDuality_own : ownKnob Try.prog.godebug = none := by kernel_rfl
theorem simplexDuality_laid : laidOutB Try.prog = true := by kernel_rfl
theorem simplexDuality_ub : Try.prog.underlying T_bool = some .bool := by kernel_rfl
theorem simplexDuality_tys : mapO (tyOf Try.prog 20) Try.f5.params.toList = some [tyProg] := by kernel_rfl
theorem simplexDuality_read : (Try.f5.params.toList.all fun t => Try.prog.readableRec t && decide (t < Try.prog.types.size)) = true := by kernel_rfl
theorem simplexDuality_res : Try.f5.resultTypes = #[T_bool] := by kernel_rfl
theorem simplexDuality_lifted (os : Os) (started : os.Started) (H : Type) (enc : TypeId × Value → H) :
  ReturnsInHanded {} Try.checked os 5 .any (Rows.simplexDualitySpec.pre6 enc Try.prog Try.f5 Rows.simplexDualityRow.domain false) (Rows.simplexDualitySpec.post enc Try.prog Try.f5 false true false false) := by
 refine returnsInHanded_of_change_sized (C := Try.checked) simplexDuality_own started (by kernel_rfl) Try.func5
  (ChangeSpec.witness6 (enc := enc) (C := Try.checked) false ⟨#[], #[.agg #[.slice none 0 0, .slice none 0 0]], []⟩ 8 (by kernel_rfl) (by kernel_rfl) (by kernel_rfl) (by kernel_rfl)) ?_
 intro W base args ds gs before hval hW _ hsz _
 exact law_calls simplexDuality_laid simplexDuality_tys simplexDuality_read simplexDuality_res simplexDuality_ub rfl
  (fun ds h => by
   have e : Try.f5.params.toList.length = 1 := by kernel_rfl
   rw [e] at h
   match ds, h with
   | [d0], _ => exact ⟨rfl, rfl, rfl⟩)
  simplexDuality_contract hval hW hsz
theorem simplexDuality_holds : Rows.SimplexDualitySaid :=
 OpenClaim.holds_of_wide 5 Try.f5 rfl rfl rfl rfl rfl rfl rfl ⟨rfl, rfl, rfl, rfl, rfl⟩ rfl rfl rfl rfl rfl (by kernel_rfl) Try.func5 (by kernel_rfl)
  (of_decide_eq_true (by kernel_rfl)) (by unfold Func.isWrapper; first | (rw [if_pos (by decide +kernel)]; kernel_rfl) | (rw [if_neg (by decide +kernel)]; exact ⟨rfl, rfl⟩))
  (fun os started H enc _ => simplexDuality_lifted os started H enc)
#print axioms simplexDuality_holds
end Go.Proofs.Ytdeifcfjkmfocaa
