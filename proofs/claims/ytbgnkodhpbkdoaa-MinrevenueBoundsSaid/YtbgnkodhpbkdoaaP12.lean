/-
  'The law MinrevenueBounds answers true for every input' is proved here: no condition.
-/
import Derived.Test.YtbgnkodhpbkdoaaP11
import Derived.Test.YtbgnkodhpbkdoaaRows
set_option maxRecDepth 100000
set_option maxHeartbeats 4000000
namespace Go.Proofs.Ytbgnkodhpbkdoaa
open Go Go.Am Go.RowKit Go.ChangeShapes Go.WideShapes Go.ChangeAt
theorem minrevenueBounds_own:ownKnob Try.prog.godebug=none:=by kernel_rfl
theorem minrevenueBounds_laid:laidOutB Try.prog=true:=by kernel_rfl
theorem minrevenueBounds_ub:Try.prog.underlying T_bool=some .bool:=by kernel_rfl
theorem minrevenueBounds_tys:mapO (tyOf Try.prog 20) Try.f6.params.toList=some [.slice tyNeed,.slice (.int .i64),tyTot,.slice tyFrac]:=by kernel_rfl
theorem minrevenueBounds_read:(Try.f6.params.toList.all fun t=>Try.prog.readableRec t&&decide (t<Try.prog.types.size))=true:=by kernel_rfl
theorem minrevenueBounds_res:Try.f6.resultTypes=#[T_bool]:=by kernel_rfl
theorem minrevenueBounds_lifted (os:Os) (started:os.Started) (H:Type) (enc:TypeId × Value→H) :
  ReturnsInHanded {} Try.checked os 6 .any (Rows.minrevenueBoundsSpec.pre6 enc Try.prog Try.f6 Rows.minrevenueBoundsRow.domain false) (Rows.minrevenueBoundsSpec.post enc Try.prog Try.f6 false true false false):=by
 refine returnsInHanded_of_change_sized (C:=Try.checked) minrevenueBounds_own started (by kernel_rfl) Try.func6
  (ChangeSpec.witness6 (enc:=enc) (C:=Try.checked) false ⟨#[],#[.slice none 0 0,.slice none 0 0,.agg #[.bool false,.slice none 0 0,.slice none 0 0,.slice none 0 0,.slice none 0 0],.slice none 0 0],[]⟩ 8 (by kernel_rfl) (by kernel_rfl) (by kernel_rfl) (by kernel_rfl)) ?_
 intro W base args ds gs before hval hW _ hsz _
 exact law_calls minrevenueBounds_laid minrevenueBounds_tys minrevenueBounds_read minrevenueBounds_res minrevenueBounds_ub rfl
  (fun ds h=>by
   have e:Try.f6.params.toList.length=4:=by kernel_rfl
   rw[e] at h
   match ds,h with
   | [d0,d1,d2,d3],_=>exact ⟨rfl,rfl,rfl⟩)
  minrevenueBounds_contract hval hW hsz
theorem minrevenueBounds_holds:Rows.MinrevenueBoundsSaid :=
 OpenClaim.holds_of_wide 6 Try.f6 rfl rfl rfl rfl rfl rfl rfl ⟨rfl,rfl,rfl,rfl,rfl⟩ rfl rfl rfl rfl rfl (by kernel_rfl) Try.func6 (by kernel_rfl)
  (of_decide_eq_true (by kernel_rfl)) (by unfold Func.isWrapper; first | (rw[if_pos (by decide +kernel)]; kernel_rfl) | (rw[if_neg (by decide +kernel)]; exact ⟨rfl,rfl⟩))
  (fun os started H enc _=>minrevenueBounds_lifted os started H enc)
#print axioms minrevenueBounds_holds
end Go.Proofs.Ytbgnkodhpbkdoaa
