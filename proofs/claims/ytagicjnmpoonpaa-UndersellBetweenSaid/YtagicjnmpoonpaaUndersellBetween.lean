/-
  'The law UndersellBetween answers true for every input' is proved here: no condition.
-/
import Derived.Test.YtagicjnmpoonpaaRows
import Derived.Test.YtagicjnmpoonpaaL4
namespace Go.Proofs.Ytagicjnmpoonpaa
open Go Go.Am Go.RowKit Go.ChangeShapes Go.WideShapes Go.ChangeAt

theorem undersellBetween_own : ownKnob Try.prog.godebug = none := by kernel_rfl
theorem undersellBetween_laid : laidOutB Try.prog = true := by kernel_rfl
theorem undersellBetween_ub : Try.prog.underlying T_bool = some .bool := by kernel_rfl
theorem undersellBetween_tys : mapO (tyOf Try.prog 20) Try.f6.params.toList = some [tyInt, tyBun, .slice tyBun, .slice tyBun] := by kernel_rfl
theorem undersellBetween_read : (Try.f6.params.toList.all fun t => Try.prog.readableRec t && decide (t < Try.prog.types.size)) = true := by kernel_rfl
theorem undersellBetween_res : Try.f6.resultTypes = #[T_bool] := by kernel_rfl

set_option maxRecDepth 100000 in
theorem undersellBetween_lifted (os : Os) (started : os.Started) (H : Type) (enc : TypeId × Value → H) :
    ReturnsInHanded {} Try.checked os 6 .any (Rows.undersellBetweenSpec.pre6 enc Try.prog Try.f6 Rows.undersellBetweenRow.domain false) (Rows.undersellBetweenSpec.post enc Try.prog Try.f6 false true false false) := by
  refine returnsInHanded_of_change_sized (C := Try.checked) undersellBetween_own started (by kernel_rfl) Try.func6
    (ChangeSpec.witness6 (enc := enc) (C := Try.checked) false ⟨#[], #[.int .i64 1, .agg #[.int .i64 0, .int .i64 0, .int .i64 0, .int .i64 0, .int .i64 0, .int .i64 0], .slice none 0 0, .slice none 0 0], []⟩ 8 (by kernel_rfl) (by kernel_rfl) (by kernel_rfl) (by kernel_rfl)) ?_
  intro W base args ds gs before hval hW _ hsz _
  exact law_calls undersellBetween_laid undersellBetween_tys undersellBetween_read undersellBetween_res undersellBetween_ub rfl
    (fun ds h => by
      have e : Try.f6.params.toList.length = 4 := by kernel_rfl
      rw [e] at h
      match ds, h with
      | [d0, d1, d2, d3], _ => exact ⟨rfl, rfl, rfl⟩)
    undersellBetween_contract hval hW hsz

theorem undersellBetween_holds : Rows.UndersellBetweenSaid :=
  OpenClaim.holds_of_wide 6 Try.f6 rfl rfl rfl rfl rfl rfl rfl ⟨rfl, rfl, rfl, rfl, rfl⟩ rfl rfl rfl rfl rfl (by kernel_rfl) Try.func6 (by kernel_rfl)
    (of_decide_eq_true (by kernel_rfl)) (by unfold Func.isWrapper; first | (rw [if_pos (by decide +kernel)]; kernel_rfl) | (rw [if_neg (by decide +kernel)]; exact ⟨rfl, rfl⟩))
    (fun os started H enc _ => undersellBetween_lifted os started H enc)
#print axioms undersellBetween_holds
end Go.Proofs.Ytagicjnmpoonpaa
