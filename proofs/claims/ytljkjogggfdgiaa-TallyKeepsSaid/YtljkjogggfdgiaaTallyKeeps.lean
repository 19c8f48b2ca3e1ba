/-
  'The law TallyKeeps answers true for every input' is proved here: no condition.
-/
import Derived.Test.YtljkjogggfdgiaaRows
import Derived.Test.YtljkjogggfdgiaaL2
namespace Go.Proofs.Ytljkjogggfdgiaa
open Go Go.Am Go.RowKit Go.ChangeShapes Go.WideShapes Go.ChangeAt

theorem tallyKeeps_own : ownKnob Try.prog.godebug = none := by kernel_rfl
theorem tallyKeeps_laid : laidOutB Try.prog = true := by kernel_rfl
theorem tallyKeeps_ub : Try.prog.underlying T_bool = some .bool := by kernel_rfl
theorem tallyKeeps_tys : mapO (tyOf Try.prog 20) Try.f7.params.toList = some [.slice tyBun, .slice tyBun] := by kernel_rfl
theorem tallyKeeps_read : (Try.f7.params.toList.all fun t => Try.prog.readableRec t && decide (t < Try.prog.types.size)) = true := by kernel_rfl
theorem tallyKeeps_res : Try.f7.resultTypes = #[T_bool] := by kernel_rfl

set_option maxRecDepth 100000 in
theorem tallyKeeps_lifted (os : Os) (started : os.Started) (H : Type) (enc : TypeId × Value → H) :
    ReturnsInHanded {} Try.checked os 7 .any (Rows.tallyKeepsSpec.pre6 enc Try.prog Try.f7 Rows.tallyKeepsRow.domain false) (Rows.tallyKeepsSpec.post enc Try.prog Try.f7 false true false false) := by
  refine returnsInHanded_of_change_sized (C := Try.checked) tallyKeeps_own started (by kernel_rfl) Try.func7
    (ChangeSpec.witness6 (enc := enc) (C := Try.checked) false ⟨#[], #[.slice none 0 0, .slice none 0 0], []⟩ 8 (by kernel_rfl) (by kernel_rfl) (by kernel_rfl) (by kernel_rfl)) ?_
  intro W base args ds gs before hval hW _ hsz _
  exact law_calls tallyKeeps_laid tallyKeeps_tys tallyKeeps_read tallyKeeps_res tallyKeeps_ub rfl
    (fun ds h => by
      have e : Try.f7.params.toList.length = 2 := by kernel_rfl
      rw [e] at h
      match ds, h with
      | [d0, d1], _ => exact ⟨rfl, rfl, rfl⟩)
    tallyKeeps_contract hval hW hsz

theorem tallyKeeps_holds : Rows.TallyKeepsSaid :=
  OpenClaim.holds_of_wide 7 Try.f7 rfl rfl rfl rfl rfl rfl rfl ⟨rfl, rfl, rfl, rfl, rfl⟩ rfl rfl rfl rfl rfl (by kernel_rfl) Try.func7 (by kernel_rfl)
    (of_decide_eq_true (by kernel_rfl)) (by unfold Func.isWrapper; first | (rw [if_pos (by decide +kernel)]; kernel_rfl) | (rw [if_neg (by decide +kernel)]; exact ⟨rfl, rfl⟩))
    (fun os started H enc _ => tallyKeeps_lifted os started H enc)
#print axioms tallyKeeps_holds
end Go.Proofs.Ytljkjogggfdgiaa
