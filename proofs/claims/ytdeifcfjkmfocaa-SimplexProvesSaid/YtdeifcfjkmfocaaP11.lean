/-
  'The law SimplexProves answers true for every input' is proved here: no condition.
-/
import Derived.Test.YtdeifcfjkmfocaaP10
import Derived.Test.YtdeifcfjkmfocaaRows
set_option maxRecDepth 100000
set_option maxHeartbeats 4000000
namespace Go.Proofs.Ytdeifcfjkmfocaa
open Go Go.Am Go.RowKit Go.ChangeShapes Go.WideShapes Go.ChangeAt
theorem simplexProves_own : ownKnob Try.prog.godebug = none := by kernel_rfl
theorem simplexProves_laid : laidOutB Try.prog = true := by kernel_rfl
theorem simplexProves_ub : Try.prog.underlying T_bool = some .bool := by kernel_rfl
theorem simplexProves_tys : mapO (tyOf Try.prog 20) Try.f4.params.toList = some [tyProg] := by kernel_rfl
theorem simplexProves_read : (Try.f4.params.toList.all fun t => Try.prog.readableRec t && decide (t < Try.prog.types.size)) = true := by kernel_rfl
theorem simplexProves_res : Try.f4.resultTypes = #[T_bool] := by kernel_rfl
theorem simplexProves_lifted (os : Os) (started : os.Started) (H : Type) (enc : TypeId × Value → H) :
  ReturnsInHanded {} Try.checked os 4 .any (Rows.simplexProvesSpec.pre6 enc Try.prog Try.f4 Rows.simplexProvesRow.domain false) (Rows.simplexProvesSpec.post enc Try.prog Try.f4 false true false false) := by
 refine returnsInHanded_of_change_sized (C := Try.checked) simplexProves_own started (by kernel_rfl) Try.func4
  (ChangeSpec.witness6 (enc := enc) (C := Try.checked) false ⟨#[], #[.agg #[.slice none 0 0, .slice none 0 0]], []⟩ 8 (by kernel_rfl) (by kernel_rfl) (by kernel_rfl) (by kernel_rfl)) ?_
 intro W base args ds gs before hval hW _ hsz _
 exact law_calls simplexProves_laid simplexProves_tys simplexProves_read simplexProves_res simplexProves_ub rfl
  (fun ds h => by
   have e : Try.f4.params.toList.length = 1 := by kernel_rfl
   rw [e] at h
   match ds, h with
   | [d0], _ => exact ⟨rfl, rfl, rfl⟩)
  simplexProves_contract hval hW hsz
theorem simplexProves_holds : Rows.SimplexProvesSaid :=
 OpenClaim.holds_of_wide 4 Try.f4 rfl rfl rfl rfl rfl rfl rfl ⟨rfl, rfl, rfl, rfl, rfl⟩ rfl rfl rfl rfl rfl (by kernel_rfl) Try.func4 (by kernel_rfl)
  (of_decide_eq_true (by kernel_rfl)) (by unfold Func.isWrapper; first | (rw [if_pos (by decide +kernel)]; kernel_rfl) | (rw [if_neg (by decide +kernel)]; exact ⟨rfl, rfl⟩))
  (fun os started H enc _ => simplexProves_lifted os started H enc)
#print axioms simplexProves_holds
end Go.Proofs.Ytdeifcfjkmfocaa
