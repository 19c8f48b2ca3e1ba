/-
  'The law ProblemWithout answers true for every input' is proved here: no condition.
-/
import Derived.Test.YtbmhibiljjnfiaaP10
import Derived.Test.YtbmhibiljjnfiaaRows
set_option maxRecDepth 100000
set_option maxHeartbeats 4000000
namespace Go.Proofs.Ytbmhibiljjnfiaa
open Go Go.Am Go.RowKit Go.ChangeShapes Go.WideShapes Go.ChangeAt
theorem problemWithout_own:ownKnob Try.prog.godebug=none:=by kernel_rfl
theorem problemWithout_laid:laidOutB Try.prog=true:=by kernel_rfl
theorem problemWithout_ub:Try.prog.underlying T_bool=some .bool:=by kernel_rfl
theorem problemWithout_tys:mapO (tyOf Try.prog 20) Try.f7.params.toList=some [tyPb,.int .i64,.int .i64]:=by kernel_rfl
theorem problemWithout_read:(Try.f7.params.toList.all fun t=>Try.prog.readableRec t&&decide (t<Try.prog.types.size))=true:=by kernel_rfl
theorem problemWithout_res:Try.f7.resultTypes=#[T_bool]:=by kernel_rfl
theorem problemWithout_lifted (os:Os) (started:os.Started) (H:Type) (enc:TypeId × Value→H) :
  ReturnsInHanded {} Try.checked os 7 .any (Rows.problemWithoutSpec.pre6 enc Try.prog Try.f7 Rows.problemWithoutRow.domain false) (Rows.problemWithoutSpec.post enc Try.prog Try.f7 false true false false):=by
 refine returnsInHanded_of_change_sized (C:=Try.checked) problemWithout_own started (by kernel_rfl) Try.func7
  (ChangeSpec.witness6 (enc:=enc) (C:=Try.checked) false ⟨#[],#[.agg #[.int .i64 0,.int .i64 0,.int .i64 0,.int .i64 0,.int .i64 0,.int .i64 0,.int .i64 0,.int .i64 0,.int .i64 0,.int .i64 0,.int .i64 0,.int .i64 0,.int .i64 0,.int .i64 0,.int .i64 0,.int .i64 0,.int .i64 0,.int .i64 0,.slice none 0 0,.slice none 0 0],.int .i64 0,.int .i64 0],[]⟩ 8 (by kernel_rfl) (by kernel_rfl) (by kernel_rfl) (by kernel_rfl)) ?_
 intro W base args ds gs before hval hW _ hsz _
 exact law_calls problemWithout_laid problemWithout_tys problemWithout_read problemWithout_res problemWithout_ub rfl
  (fun ds h=>by
   have e:Try.f7.params.toList.length=3:=by kernel_rfl
   rw[e] at h
   match ds,h with
   | [d0,d1,d2],_=>exact ⟨rfl,rfl,rfl⟩)
  problemWithout_contract hval hW hsz
theorem problemWithout_holds:Rows.ProblemWithoutSaid :=
 OpenClaim.holds_of_wide 7 Try.f7 rfl rfl rfl rfl rfl rfl rfl ⟨rfl,rfl,rfl,rfl,rfl⟩ rfl rfl rfl rfl rfl (by kernel_rfl) Try.func7 (by kernel_rfl)
  (of_decide_eq_true (by kernel_rfl)) (by unfold Func.isWrapper; first | (rw[if_pos (by decide +kernel)]; kernel_rfl) | (rw[if_neg (by decide +kernel)]; exact ⟨rfl,rfl⟩))
  (fun os started H enc _=>problemWithout_lifted os started H enc)
#print axioms problemWithout_holds
end Go.Proofs.Ytbmhibiljjnfiaa
