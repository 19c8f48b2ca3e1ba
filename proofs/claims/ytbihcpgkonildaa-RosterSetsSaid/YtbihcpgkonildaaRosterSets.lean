/-
  'The law RosterSets answers true for every input' is proved here: no condition.
-/
import Derived.Test.YtbihcpgkonildaaRows
import Derived.Test.YtbihcpgkonildaaL
namespace Go.Proofs.Ytbihcpgkonildaa
open Go Go.Am Go.RowKit Go.ChangeShapes Go.WideShapes Go.ChangeAt

theorem rosterSets_own : ownKnob Try.prog.godebug = none := by kernel_rfl
theorem rosterSets_laid : laidOutB Try.prog = true := by kernel_rfl
theorem rosterSets_ub : Try.prog.underlying T_bool = some .bool := by kernel_rfl
theorem rosterSets_tys : mapO (tyOf Try.prog 20) Try.f3.params.toList = some [tyInt, tyInt] := by kernel_rfl
theorem rosterSets_read : (Try.f3.params.toList.all fun t => Try.prog.readableRec t && decide (t < Try.prog.types.size)) = true := by kernel_rfl
theorem rosterSets_res : Try.f3.resultTypes = #[T_bool] := by kernel_rfl

set_option maxRecDepth 100000 in
theorem rosterSets_lifted (os : Os) (started : os.Started) (H : Type) (enc : TypeId × Value → H) :
    ReturnsInHanded {} Try.checked os 3 .any (Rows.rosterSetsSpec.pre6 enc Try.prog Try.f3 Rows.rosterSetsRow.domain false) (Rows.rosterSetsSpec.post enc Try.prog Try.f3 false true false false) := by
  refine returnsInHanded_of_change_sized (C := Try.checked) rosterSets_own started (by kernel_rfl) Try.func3
    (ChangeSpec.witness6 (enc := enc) (C := Try.checked) false ⟨#[], #[.int .i64 1, .int .i64 1], []⟩ 8 (by kernel_rfl) (by kernel_rfl) (by kernel_rfl) (by kernel_rfl)) ?_
  intro W base args ds gs before hval hW _ hsz _
  exact law_calls rosterSets_laid rosterSets_tys rosterSets_read rosterSets_res rosterSets_ub rfl
    (fun ds h => by
      have e : Try.f3.params.toList.length = 2 := by kernel_rfl
      rw [e] at h
      match ds, h with
      | [d0, d1], _ => exact ⟨rfl, rfl, rfl⟩)
    rosterSets_contract hval hW hsz

theorem rosterSets_holds : Rows.RosterSetsSaid :=
  OpenClaim.holds_of_wide 3 Try.f3 rfl rfl rfl rfl rfl rfl rfl ⟨rfl, rfl, rfl, rfl, rfl⟩ rfl rfl rfl rfl rfl (by kernel_rfl) Try.func3 (by kernel_rfl)
    (of_decide_eq_true (by kernel_rfl)) (by unfold Func.isWrapper; first | (rw [if_pos (by decide +kernel)]; kernel_rfl) | (rw [if_neg (by decide +kernel)]; exact ⟨rfl, rfl⟩))
    (fun os started H enc _ => rosterSets_lifted os started H enc)
#print axioms rosterSets_holds
end Go.Proofs.Ytbihcpgkonildaa
