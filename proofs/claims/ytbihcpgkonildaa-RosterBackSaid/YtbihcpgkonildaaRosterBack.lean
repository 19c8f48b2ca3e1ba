/-
  'The law RosterBack answers true for every input' is proved here: no condition.
-/
import Derived.Test.YtbihcpgkonildaaRows
import Derived.Test.YtbihcpgkonildaaL
namespace Go.Proofs.Ytbihcpgkonildaa
open Go Go.Am Go.RowKit Go.ChangeShapes Go.WideShapes Go.ChangeAt

theorem rosterBack_own : ownKnob Try.prog.godebug = none := by kernel_rfl
theorem rosterBack_laid : laidOutB Try.prog = true := by kernel_rfl
theorem rosterBack_ub : Try.prog.underlying T_bool = some .bool := by kernel_rfl
theorem rosterBack_tys : mapO (tyOf Try.prog 20) Try.f7.params.toList = some [.slice tyBid, tyInt] := by kernel_rfl
theorem rosterBack_read : (Try.f7.params.toList.all fun t => Try.prog.readableRec t && decide (t < Try.prog.types.size)) = true := by kernel_rfl
theorem rosterBack_res : Try.f7.resultTypes = #[T_bool] := by kernel_rfl

set_option maxRecDepth 100000 in
theorem rosterBack_lifted (os : Os) (started : os.Started) (H : Type) (enc : TypeId × Value → H) :
    ReturnsInHanded {} Try.checked os 7 .any (Rows.rosterBackSpec.pre6 enc Try.prog Try.f7 Rows.rosterBackRow.domain false) (Rows.rosterBackSpec.post enc Try.prog Try.f7 false true false false) := by
  refine returnsInHanded_of_change_sized (C := Try.checked) rosterBack_own started (by kernel_rfl) Try.func7
    (ChangeSpec.witness6 (enc := enc) (C := Try.checked) false ⟨#[], #[.slice none 0 0, .int .i64 1], []⟩ 8 (by kernel_rfl) (by kernel_rfl) (by kernel_rfl) (by kernel_rfl)) ?_
  intro W base args ds gs before hval hW _ hsz _
  exact law_calls rosterBack_laid rosterBack_tys rosterBack_read rosterBack_res rosterBack_ub rfl
    (fun ds h => by
      have e : Try.f7.params.toList.length = 2 := by kernel_rfl
      rw [e] at h
      match ds, h with
      | [d0, d1], _ => exact ⟨rfl, rfl, rfl⟩)
    rosterBack_contract hval hW hsz

theorem rosterBack_holds : Rows.RosterBackSaid :=
  OpenClaim.holds_of_wide 7 Try.f7 rfl rfl rfl rfl rfl rfl rfl ⟨rfl, rfl, rfl, rfl, rfl⟩ rfl rfl rfl rfl rfl (by kernel_rfl) Try.func7 (by kernel_rfl)
    (of_decide_eq_true (by kernel_rfl)) (by unfold Func.isWrapper; first | (rw [if_pos (by decide +kernel)]; kernel_rfl) | (rw [if_neg (by decide +kernel)]; exact ⟨rfl, rfl⟩))
    (fun os started H enc _ => rosterBack_lifted os started H enc)
#print axioms rosterBack_holds
end Go.Proofs.Ytbihcpgkonildaa
