/-
  'The law ProblemChecks answers true for every input' is proved here: no condition.
-/
import Derived.Test.YtbmhibiljjnfiaaP10
import Derived.Test.YtbmhibiljjnfiaaRows
set_option maxRecDepth 100000
set_option maxHeartbeats 4000000
namespace Go.Proofs.Ytbmhibiljjnfiaa
open Go Go.Am Go.RowKit Go.ChangeShapes Go.WideShapes Go.ChangeAt
theorem problemChecks_own:ownKnob Try.prog.godebug=none:=by kernel_rfl
theorem problemChecks_laid:laidOutB Try.prog=true:=by kernel_rfl
theorem problemChecks_ub:Try.prog.underlying T_bool=some .bool:=by kernel_rfl
theorem problemChecks_tys:mapO (tyOf Try.prog 20) Try.f3.params.toList=some [tyPb]:=by kernel_rfl
theorem problemChecks_read:(Try.f3.params.toList.all fun t=>Try.prog.readableRec t&&decide (t<Try.prog.types.size))=true:=by kernel_rfl
theorem problemChecks_res:Try.f3.resultTypes=#[T_bool]:=by kernel_rfl
theorem problemChecks_lifted (os:Os) (started:os.Started) (H:Type) (enc:TypeId × Value→H) :
  ReturnsInHanded {} Try.checked os 3 .any (Rows.problemChecksSpec.pre6 enc Try.prog Try.f3 Rows.problemChecksRow.domain false) (Rows.problemChecksSpec.post enc Try.prog Try.f3 false true false false):=by
 refine returnsInHanded_of_change_sized (C:=Try.checked) problemChecks_own started (by kernel_rfl) Try.func3
  (ChangeSpec.witness6 (enc:=enc) (C:=Try.checked) false ⟨#[],#[.agg #[.int .i64 0,.int .i64 0,.int .i64 0,.int .i64 0,.int .i64 0,.int .i64 0,.int .i64 0,.int .i64 0,.int .i64 0,.int .i64 0,.int .i64 0,.int .i64 0,.int .i64 0,.int .i64 0,.int .i64 0,.int .i64 0,.int .i64 0,.int .i64 0,.slice none 0 0,.slice none 0 0]],[]⟩ 8 (by kernel_rfl) (by kernel_rfl) (by kernel_rfl) (by kernel_rfl)) ?_
 intro W base args ds gs before hval hW _ hsz _
 exact law_calls problemChecks_laid problemChecks_tys problemChecks_read problemChecks_res problemChecks_ub rfl
  (fun ds h=>by
   have e:Try.f3.params.toList.length=1:=by kernel_rfl
   rw[e] at h
   match ds,h with
   | [d0],_=>exact ⟨rfl,rfl,rfl⟩)
  problemChecks_contract hval hW hsz
theorem problemChecks_holds:Rows.ProblemChecksSaid :=
 OpenClaim.holds_of_wide 3 Try.f3 rfl rfl rfl rfl rfl rfl rfl ⟨rfl,rfl,rfl,rfl,rfl⟩ rfl rfl rfl rfl rfl (by kernel_rfl) Try.func3 (by kernel_rfl)
  (of_decide_eq_true (by kernel_rfl)) (by unfold Func.isWrapper; first | (rw[if_pos (by decide +kernel)]; kernel_rfl) | (rw[if_neg (by decide +kernel)]; exact ⟨rfl,rfl⟩))
  (fun os started H enc _=>problemChecks_lifted os started H enc)
#print axioms problemChecks_holds
end Go.Proofs.Ytbmhibiljjnfiaa
