/-
  'The law ProblemRelaxed answers true for every input' is proved here: no condition.
-/
import Derived.Test.YtbmhibiljjnfiaaP10
import Derived.Test.YtbmhibiljjnfiaaRows
set_option maxRecDepth 100000
set_option maxHeartbeats 4000000
namespace Go.Proofs.Ytbmhibiljjnfiaa
open Go Go.Am Go.RowKit Go.ChangeShapes Go.WideShapes Go.ChangeAt
theorem problemRelaxed_own:ownKnob Try.prog.godebug=none:=by kernel_rfl
theorem problemRelaxed_laid:laidOutB Try.prog=true:=by kernel_rfl
theorem problemRelaxed_ub:Try.prog.underlying T_bool=some .bool:=by kernel_rfl
theorem problemRelaxed_tys:mapO (tyOf Try.prog 20) Try.f6.params.toList=some [tyPb,.slice (.int .i64)]:=by kernel_rfl
theorem problemRelaxed_read:(Try.f6.params.toList.all fun t=>Try.prog.readableRec t&&decide (t<Try.prog.types.size))=true:=by kernel_rfl
theorem problemRelaxed_res:Try.f6.resultTypes=#[T_bool]:=by kernel_rfl
theorem problemRelaxed_lifted (os:Os) (started:os.Started) (H:Type) (enc:TypeId × Value→H) :
  ReturnsInHanded {} Try.checked os 6 .any (Rows.problemRelaxedSpec.pre6 enc Try.prog Try.f6 Rows.problemRelaxedRow.domain false) (Rows.problemRelaxedSpec.post enc Try.prog Try.f6 false true false false):=by
 refine returnsInHanded_of_change_sized (C:=Try.checked) problemRelaxed_own started (by kernel_rfl) Try.func6
  (ChangeSpec.witness6 (enc:=enc) (C:=Try.checked) false ⟨#[],#[.agg #[.int .i64 0,.int .i64 0,.int .i64 0,.int .i64 0,.int .i64 0,.int .i64 0,.int .i64 0,.int .i64 0,.int .i64 0,.int .i64 0,.int .i64 0,.int .i64 0,.int .i64 0,.int .i64 0,.int .i64 0,.int .i64 0,.int .i64 0,.int .i64 0,.slice none 0 0,.slice none 0 0],.slice none 0 0],[]⟩ 8 (by kernel_rfl) (by kernel_rfl) (by kernel_rfl) (by kernel_rfl)) ?_
 intro W base args ds gs before hval hW _ hsz _
 exact law_calls problemRelaxed_laid problemRelaxed_tys problemRelaxed_read problemRelaxed_res problemRelaxed_ub rfl
  (fun ds h=>by
   have e:Try.f6.params.toList.length=2:=by kernel_rfl
   rw[e] at h
   match ds,h with
   | [d0,d1],_=>exact ⟨rfl,rfl,rfl⟩)
  problemRelaxed_contract hval hW hsz
theorem problemRelaxed_holds:Rows.ProblemRelaxedSaid :=
 OpenClaim.holds_of_wide 6 Try.f6 rfl rfl rfl rfl rfl rfl rfl ⟨rfl,rfl,rfl,rfl,rfl⟩ rfl rfl rfl rfl rfl (by kernel_rfl) Try.func6 (by kernel_rfl)
  (of_decide_eq_true (by kernel_rfl)) (by unfold Func.isWrapper; first | (rw[if_pos (by decide +kernel)]; kernel_rfl) | (rw[if_neg (by decide +kernel)]; exact ⟨rfl,rfl⟩))
  (fun os started H enc _=>problemRelaxed_lifted os started H enc)
#print axioms problemRelaxed_holds
end Go.Proofs.Ytbmhibiljjnfiaa
