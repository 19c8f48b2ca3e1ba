/-
  'The law ProblemRelaxes answers true for every input' is proved here: no condition.
-/
import Derived.Test.YtbmhibiljjnfiaaP10
import Derived.Test.YtbmhibiljjnfiaaRows
set_option maxRecDepth 100000
set_option maxHeartbeats 4000000
namespace Go.Proofs.Ytbmhibiljjnfiaa
open Go Go.Am Go.RowKit Go.ChangeShapes Go.WideShapes Go.ChangeAt
theorem problemRelaxes_own:ownKnob Try.prog.godebug=none:=by kernel_rfl
theorem problemRelaxes_laid:laidOutB Try.prog=true:=by kernel_rfl
theorem problemRelaxes_ub:Try.prog.underlying T_bool=some .bool:=by kernel_rfl
theorem problemRelaxes_tys:mapO (tyOf Try.prog 20) Try.f9.params.toList=some [tyPb,.int .u64]:=by kernel_rfl
theorem problemRelaxes_read:(Try.f9.params.toList.all fun t=>Try.prog.readableRec t&&decide (t<Try.prog.types.size))=true:=by kernel_rfl
theorem problemRelaxes_res:Try.f9.resultTypes=#[T_bool]:=by kernel_rfl
theorem problemRelaxes_lifted (os:Os) (started:os.Started) (H:Type) (enc:TypeId × Value→H) :
  ReturnsInHanded {} Try.checked os 9 .any (Rows.problemRelaxesSpec.pre6 enc Try.prog Try.f9 Rows.problemRelaxesRow.domain false) (Rows.problemRelaxesSpec.post enc Try.prog Try.f9 false true false false):=by
 refine returnsInHanded_of_change_sized (C:=Try.checked) problemRelaxes_own started (by kernel_rfl) Try.func9
  (ChangeSpec.witness6 (enc:=enc) (C:=Try.checked) false ⟨#[],#[.agg #[.int .i64 0,.int .i64 0,.int .i64 0,.int .i64 0,.int .i64 0,.int .i64 0,.int .i64 0,.int .i64 0,.int .i64 0,.int .i64 0,.int .i64 0,.int .i64 0,.int .i64 0,.int .i64 0,.int .i64 0,.int .i64 0,.int .i64 0,.int .i64 0,.slice none 0 0,.slice none 0 0],.int .u64 0],[]⟩ 8 (by kernel_rfl) (by kernel_rfl) (by kernel_rfl) (by kernel_rfl)) ?_
 intro W base args ds gs before hval hW _ hsz _
 exact law_calls problemRelaxes_laid problemRelaxes_tys problemRelaxes_read problemRelaxes_res problemRelaxes_ub rfl
  (fun ds h=>by
   have e:Try.f9.params.toList.length=2:=by kernel_rfl
   rw[e] at h
   match ds,h with
   | [d0,d1],_=>exact ⟨rfl,rfl,rfl⟩)
  problemRelaxes_contract hval hW hsz
theorem problemRelaxes_holds:Rows.ProblemRelaxesSaid :=
 OpenClaim.holds_of_wide 9 Try.f9 rfl rfl rfl rfl rfl rfl rfl ⟨rfl,rfl,rfl,rfl,rfl⟩ rfl rfl rfl rfl rfl (by kernel_rfl) Try.func9 (by kernel_rfl)
  (of_decide_eq_true (by kernel_rfl)) (by unfold Func.isWrapper; first | (rw[if_pos (by decide +kernel)]; kernel_rfl) | (rw[if_neg (by decide +kernel)]; exact ⟨rfl,rfl⟩))
  (fun os started H enc _=>problemRelaxes_lifted os started H enc)
#print axioms problemRelaxes_holds
end Go.Proofs.Ytbmhibiljjnfiaa
