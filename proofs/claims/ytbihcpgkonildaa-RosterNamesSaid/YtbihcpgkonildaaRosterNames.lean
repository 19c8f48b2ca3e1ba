/-
  'The law RosterNames answers true for every input' is proved here: no condition.
-/
import Derived.Test.YtbihcpgkonildaaRows
import Derived.Test.YtbihcpgkonildaaL
namespace Go.Proofs.Ytbihcpgkonildaa
open Go Go.Am Go.RowKit Go.ChangeShapes Go.WideShapes Go.ChangeAt

theorem rosterNames_own : ownKnob Try.prog.godebug = none := by kernel_rfl
theorem rosterNames_laid : laidOutB Try.prog = true := by kernel_rfl
theorem rosterNames_ub : Try.prog.underlying T_bool = some .bool := by kernel_rfl
theorem rosterNames_tys : mapO (tyOf Try.prog 20) Try.f6.params.toList = some [.slice tyBid, tyInt, .slice .str] := by kernel_rfl
theorem rosterNames_read : (Try.f6.params.toList.all fun t => Try.prog.readableRec t && decide (t < Try.prog.types.size)) = true := by kernel_rfl
theorem rosterNames_res : Try.f6.resultTypes = #[T_bool] := by kernel_rfl

set_option maxRecDepth 100000 in
theorem rosterNames_lifted (os : Os) (started : os.Started) (H : Type) (enc : TypeId × Value → H) :
    ReturnsInHanded {} Try.checked os 6 .any (Rows.rosterNamesSpec.pre6 enc Try.prog Try.f6 Rows.rosterNamesRow.domain false) (Rows.rosterNamesSpec.post enc Try.prog Try.f6 false true false false) := by
  refine returnsInHanded_of_change_sized (C := Try.checked) rosterNames_own started (by kernel_rfl) Try.func6
    (ChangeSpec.witness6 (enc := enc) (C := Try.checked) false ⟨#[], #[.slice none 0 0, .int .i64 1, .slice none 0 0], []⟩ 8 (by kernel_rfl) (by kernel_rfl) (by kernel_rfl) (by kernel_rfl)) ?_
  intro W base args ds gs before hval hW _ hsz _
  exact law_calls rosterNames_laid rosterNames_tys rosterNames_read rosterNames_res rosterNames_ub rfl
    (fun ds h => by
      have e : Try.f6.params.toList.length = 3 := by kernel_rfl
      rw [e] at h
      match ds, h with
      | [d0, d1, d2], _ => exact ⟨rfl, rfl, rfl⟩)
    rosterNames_contract hval hW hsz

theorem rosterNames_holds : Rows.RosterNamesSaid :=
  OpenClaim.holds_of_wide 6 Try.f6 rfl rfl rfl rfl rfl rfl rfl ⟨rfl, rfl, rfl, rfl, rfl⟩ rfl rfl rfl rfl rfl (by kernel_rfl) Try.func6 (by kernel_rfl)
    (of_decide_eq_true (by kernel_rfl)) (by unfold Func.isWrapper; first | (rw [if_pos (by decide +kernel)]; kernel_rfl) | (rw [if_neg (by decide +kernel)]; exact ⟨rfl, rfl⟩))
    (fun os started H enc _ => rosterNames_lifted os started H enc)
#print axioms rosterNames_holds
end Go.Proofs.Ytbihcpgkonildaa
