/-
  'The law ProblemCompares answers true for every input' is proved here: no condition.
-/
import Derived.Test.YtbmhibiljjnfiaaP10
import Derived.Test.YtbmhibiljjnfiaaRows
set_option maxRecDepth 100000
set_option maxHeartbeats 4000000
namespace Go.Proofs.Ytbmhibiljjnfiaa
open Go Go.Am Go.RowKit Go.ChangeShapes Go.WideShapes Go.ChangeAt
theorem problemCompares_own:ownKnob Try.prog.godebug=none:=by kernel_rfl
theorem problemCompares_laid:laidOutB Try.prog=true:=by kernel_rfl
theorem problemCompares_ub:Try.prog.underlying T_bool=some .bool:=by kernel_rfl
theorem problemCompares_tys:mapO (tyOf Try.prog 20) Try.f8.params.toList=some [.slice (.int .i64),.slice (.int .i64),.slice (.int .i64)]:=by kernel_rfl
theorem problemCompares_read:(Try.f8.params.toList.all fun t=>Try.prog.readableRec t&&decide (t<Try.prog.types.size))=true:=by kernel_rfl
theorem problemCompares_res:Try.f8.resultTypes=#[T_bool]:=by kernel_rfl
theorem problemCompares_lifted (os:Os) (started:os.Started) (H:Type) (enc:TypeId × Value→H) :
  ReturnsInHanded {} Try.checked os 8 .any (Rows.problemComparesSpec.pre6 enc Try.prog Try.f8 Rows.problemComparesRow.domain false) (Rows.problemComparesSpec.post enc Try.prog Try.f8 false true false false):=by
 refine returnsInHanded_of_change_sized (C:=Try.checked) problemCompares_own started (by kernel_rfl) Try.func8
  (ChangeSpec.witness6 (enc:=enc) (C:=Try.checked) false ⟨#[],#[.slice none 0 0,.slice none 0 0,.slice none 0 0],[]⟩ 8 (by kernel_rfl) (by kernel_rfl) (by kernel_rfl) (by kernel_rfl)) ?_
 intro W base args ds gs before hval hW _ hsz _
 exact law_calls problemCompares_laid problemCompares_tys problemCompares_read problemCompares_res problemCompares_ub rfl
  (fun ds h=>by
   have e:Try.f8.params.toList.length=3:=by kernel_rfl
   rw[e] at h
   match ds,h with
   | [d0,d1,d2],_=>exact ⟨rfl,rfl,rfl⟩)
  problemCompares_contract hval hW hsz
theorem problemCompares_holds:Rows.ProblemComparesSaid :=
 OpenClaim.holds_of_wide 8 Try.f8 rfl rfl rfl rfl rfl rfl rfl ⟨rfl,rfl,rfl,rfl,rfl⟩ rfl rfl rfl rfl rfl (by kernel_rfl) Try.func8 (by kernel_rfl)
  (of_decide_eq_true (by kernel_rfl)) (by unfold Func.isWrapper; first | (rw[if_pos (by decide +kernel)]; kernel_rfl) | (rw[if_neg (by decide +kernel)]; exact ⟨rfl,rfl⟩))
  (fun os started H enc _=>problemCompares_lifted os started H enc)
#print axioms problemCompares_holds
end Go.Proofs.Ytbmhibiljjnfiaa
