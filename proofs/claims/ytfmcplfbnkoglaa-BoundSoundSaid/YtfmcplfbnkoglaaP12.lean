/-
  'The law BoundSound answers true for every input' is proved here: no condition.
-/
import Derived.Test.YtfmcplfbnkoglaaP11
import Derived.Test.YtfmcplfbnkoglaaRows
set_option maxRecDepth 100000
set_option maxHeartbeats 4000000
namespace Go.Proofs.Ytfmcplfbnkoglaa
open Go Go.Am Go.RowKit Go.ChangeShapes Go.WideShapes Go.ChangeAt
theorem boundSound_own:ownKnob Try.prog.godebug=none:=by kernel_rfl
theorem boundSound_laid:laidOutB Try.prog=true:=by kernel_rfl
theorem boundSound_ub:Try.prog.underlying va=some .bool:=by kernel_rfl
theorem boundSound_tys:yx (gJ Try.prog 20) Try.f4.params.toList=some [aay,.slice (.int .i64),.slice Z1]:=by kernel_rfl
theorem boundSound_read:(Try.f4.params.toList.all fun t=>Try.prog.readableRec t&&decide (t<Try.prog.types.size))=true:=by kernel_rfl
theorem boundSound_res:Try.f4.resultTypes=#[va]:=by kernel_rfl
theorem boundSound_lifted (os:Os) (started:os.Started) (H:Type) (enc:TypeId × Value→H) :
  ReturnsInHanded {} Try.checked os 4 .any (Rows.boundSoundSpec.pre6 enc Try.prog Try.f4 Rows.boundSoundRow.domain false) (Rows.boundSoundSpec.post enc Try.prog Try.f4 false true false false):=by
 refine returnsInHanded_of_change_sized (C:=Try.checked) boundSound_own started (by kernel_rfl) Try.func4
  (ChangeSpec.witness6 (enc:=enc) (C:=Try.checked) false ⟨#[],#[.agg #[.int .i64 0,.int .i64 0,.int .i64 0,.int .i64 0,.int .i64 0,.int .i64 0,.int .i64 0,.int .i64 0,.int .i64 0,.int .i64 0,.int .i64 0,.int .i64 0,.int .i64 0,.int .i64 0,.int .i64 0,.int .i64 0,.int .i64 0,.int .i64 0,.slice none 0 0,.slice none 0 0],.slice none 0 0,.slice none 0 0],[]⟩ 8 (by kernel_rfl) (by kernel_rfl) (by kernel_rfl) (by kernel_rfl)) ?_
 intro W base args ds gs before hval hW _ hsz _
 exact Eo boundSound_laid boundSound_tys boundSound_read boundSound_res boundSound_ub rfl
  (fun ds h=>by
   have e:Try.f4.params.toList.length=3:=by kernel_rfl
   rw[e] at h
   match ds,h with
   | [d0,d1,d2],_=>exact ⟨rfl,rfl,rfl⟩)
  boundSound_contract hval hW hsz
theorem boundSound_holds:Rows.BoundSoundSaid :=
 OpenClaim.holds_of_wide 4 Try.f4 rfl rfl rfl rfl rfl rfl rfl ⟨rfl,rfl,rfl,rfl,rfl⟩ rfl rfl rfl rfl rfl (by kernel_rfl) Try.func4 (by kernel_rfl)
  (of_decide_eq_true (by kernel_rfl)) (by unfold Func.isWrapper; first | (rw[if_pos (by decide +kernel)]; kernel_rfl) | (rw[if_neg (by decide +kernel)]; exact ⟨rfl,rfl⟩))
  (fun os started H enc _=>boundSound_lifted os started H enc)
#print axioms boundSound_holds
end Go.Proofs.Ytfmcplfbnkoglaa
