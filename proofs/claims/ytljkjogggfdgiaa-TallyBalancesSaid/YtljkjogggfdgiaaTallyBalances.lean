/-
  'The law TallyBalances answers true for every input' is proved here: no condition.
-/
import Derived.Test.YtljkjogggfdgiaaRows
import Derived.Test.YtljkjogggfdgiaaL
namespace Go.Proofs.Ytljkjogggfdgiaa
open Go Go.Am Go.RowKit Go.ChangeShapes Go.WideShapes Go.ChangeAt

theorem tallyBalances_own : ownKnob Try.prog.godebug = none := by kernel_rfl
theorem tallyBalances_laid : laidOutB Try.prog = true := by kernel_rfl
theorem tallyBalances_ub : Try.prog.underlying T_bool = some .bool := by kernel_rfl
theorem tallyBalances_tys : mapO (tyOf Try.prog 20) Try.f5.params.toList = some [tyBun, .slice tyBun] := by kernel_rfl
theorem tallyBalances_read : (Try.f5.params.toList.all fun t => Try.prog.readableRec t && decide (t < Try.prog.types.size)) = true := by kernel_rfl
theorem tallyBalances_res : Try.f5.resultTypes = #[T_bool] := by kernel_rfl

set_option maxRecDepth 100000 in
theorem tallyBalances_lifted (os : Os) (started : os.Started) (H : Type) (enc : TypeId × Value → H) :
    ReturnsInHanded {} Try.checked os 5 .any (Rows.tallyBalancesSpec.pre6 enc Try.prog Try.f5 Rows.tallyBalancesRow.domain false) (Rows.tallyBalancesSpec.post enc Try.prog Try.f5 false true false false) := by
  refine returnsInHanded_of_change_sized (C := Try.checked) tallyBalances_own started (by kernel_rfl) Try.func5
    (ChangeSpec.witness6 (enc := enc) (C := Try.checked) false ⟨#[], #[.agg #[.int .i64 0, .int .i64 0, .int .i64 0, .int .i64 0, .int .i64 0, .int .i64 0], .slice none 0 0], []⟩ 8 (by kernel_rfl) (by kernel_rfl) (by kernel_rfl) (by kernel_rfl)) ?_
  intro W base args ds gs before hval hW _ hsz _
  exact law_calls tallyBalances_laid tallyBalances_tys tallyBalances_read tallyBalances_res tallyBalances_ub rfl
    (fun ds h => by
      have e : Try.f5.params.toList.length = 2 := by kernel_rfl
      rw [e] at h
      match ds, h with
      | [d0, d1], _ => exact ⟨rfl, rfl, rfl⟩)
    tallyBalances_contract hval hW hsz

theorem tallyBalances_holds : Rows.TallyBalancesSaid :=
  OpenClaim.holds_of_wide 5 Try.f5 rfl rfl rfl rfl rfl rfl rfl ⟨rfl, rfl, rfl, rfl, rfl⟩ rfl rfl rfl rfl rfl (by kernel_rfl) Try.func5 (by kernel_rfl)
    (of_decide_eq_true (by kernel_rfl)) (by unfold Func.isWrapper; first | (rw [if_pos (by decide +kernel)]; kernel_rfl) | (rw [if_neg (by decide +kernel)]; exact ⟨rfl, rfl⟩))
    (fun os started H enc _ => tallyBalances_lifted os started H enc)
#print axioms tallyBalances_holds
end Go.Proofs.Ytljkjogggfdgiaa
