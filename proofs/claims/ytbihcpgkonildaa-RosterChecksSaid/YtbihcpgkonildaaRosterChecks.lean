/-
  'The law RosterChecks answers true for every input' is proved here: no condition.
-/
import Derived.Test.YtbihcpgkonildaaRows
import Derived.Test.YtbihcpgkonildaaL
namespace Go.Proofs.Ytbihcpgkonildaa
open Go Go.Am Go.RowKit Go.ChangeShapes Go.WideShapes Go.ChangeAt

theorem rosterChecks_own : ownKnob Try.prog.godebug = none := by kernel_rfl
theorem rosterChecks_laid : laidOutB Try.prog = true := by kernel_rfl
theorem rosterChecks_ub : Try.prog.underlying T_bool = some .bool := by kernel_rfl
theorem rosterChecks_tys : mapO (tyOf Try.prog 20) Try.f4.params.toList = some [.slice tyBid] := by kernel_rfl
theorem rosterChecks_read : (Try.f4.params.toList.all fun t => Try.prog.readableRec t && decide (t < Try.prog.types.size)) = true := by kernel_rfl
theorem rosterChecks_res : Try.f4.resultTypes = #[T_bool] := by kernel_rfl

set_option maxRecDepth 100000 in
theorem rosterChecks_lifted (os : Os) (started : os.Started) (H : Type) (enc : TypeId × Value → H) :
    ReturnsInHanded {} Try.checked os 4 .any (Rows.rosterChecksSpec.pre6 enc Try.prog Try.f4 Rows.rosterChecksRow.domain false) (Rows.rosterChecksSpec.post enc Try.prog Try.f4 false true false false) := by
  refine returnsInHanded_of_change_sized (C := Try.checked) rosterChecks_own started (by kernel_rfl) Try.func4
    (ChangeSpec.witness6 (enc := enc) (C := Try.checked) false ⟨#[], #[.slice none 0 0], []⟩ 8 (by kernel_rfl) (by kernel_rfl) (by kernel_rfl) (by kernel_rfl)) ?_
  intro W base args ds gs before hval hW _ hsz _
  exact law_calls rosterChecks_laid rosterChecks_tys rosterChecks_read rosterChecks_res rosterChecks_ub rfl
    (fun ds h => by
      have e : Try.f4.params.toList.length = 1 := by kernel_rfl
      rw [e] at h
      match ds, h with
      | [d0], _ => exact ⟨rfl, rfl, rfl⟩)
    rosterChecks_contract hval hW hsz

theorem rosterChecks_holds : Rows.RosterChecksSaid :=
  OpenClaim.holds_of_wide 4 Try.f4 rfl rfl rfl rfl rfl rfl rfl ⟨rfl, rfl, rfl, rfl, rfl⟩ rfl rfl rfl rfl rfl (by kernel_rfl) Try.func4 (by kernel_rfl)
    (of_decide_eq_true (by kernel_rfl)) (by unfold Func.isWrapper; first | (rw [if_pos (by decide +kernel)]; kernel_rfl) | (rw [if_neg (by decide +kernel)]; exact ⟨rfl, rfl⟩))
    (fun os started H enc _ => rosterChecks_lifted os started H enc)
#print axioms rosterChecks_holds
end Go.Proofs.Ytbihcpgkonildaa
