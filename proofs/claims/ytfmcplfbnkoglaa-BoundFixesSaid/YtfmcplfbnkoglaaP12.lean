/-
  'The law BoundFixes answers true for every input' is proved here: no condition.
-/
import Derived.Test.YtfmcplfbnkoglaaP11
import Derived.Test.YtfmcplfbnkoglaaRows
set_option maxRecDepth 100000
set_option maxHeartbeats 4000000
namespace Go.Proofs.Ytfmcplfbnkoglaa
open Go Go.Am Go.RowKit Go.ChangeShapes Go.WideShapes Go.ChangeAt
theorem boundFixes_own:ownKnob Try.prog.godebug=none:=by kernel_rfl
theorem boundFixes_laid:laidOutB Try.prog=true:=by kernel_rfl
theorem boundFixes_ub:Try.prog.underlying va=some .bool:=by kernel_rfl
theorem boundFixes_tys:yx (gJ Try.prog 20) Try.f5.params.toList=some [aay,.slice (.int .i64),.int .u8,.bool]:=by kernel_rfl
theorem boundFixes_read:(Try.f5.params.toList.all fun t=>Try.prog.readableRec t&&decide (t<Try.prog.types.size))=true:=by kernel_rfl
theorem boundFixes_res:Try.f5.resultTypes=#[va]:=by kernel_rfl
theorem boundFixes_lifted (os:Os) (started:os.Started) (H:Type) (enc:TypeId × Value→H) :
  ReturnsInHanded {} Try.checked os 5 .any (Rows.boundFixesSpec.pre6 enc Try.prog Try.f5 Rows.boundFixesRow.domain false) (Rows.boundFixesSpec.post enc Try.prog Try.f5 false true false false):=by
 refine returnsInHanded_of_change_sized (C:=Try.checked) boundFixes_own started (by kernel_rfl) Try.func5
  (ChangeSpec.witness6 (enc:=enc) (C:=Try.checked) false ⟨#[],#[.agg #[.int .i64 0,.int .i64 0,.int .i64 0,.int .i64 0,.int .i64 0,.int .i64 0,.int .i64 0,.int .i64 0,.int .i64 0,.int .i64 0,.int .i64 0,.int .i64 0,.int .i64 0,.int .i64 0,.int .i64 0,.int .i64 0,.int .i64 0,.int .i64 0,.slice none 0 0,.slice none 0 0],.slice none 0 0,.int .u8 0,.bool false],[]⟩ 8 (by kernel_rfl) (by kernel_rfl) (by kernel_rfl) (by kernel_rfl)) ?_
 intro W base args ds gs before hval hW _ hsz _
 exact Eo boundFixes_laid boundFixes_tys boundFixes_read boundFixes_res boundFixes_ub rfl
  (fun ds h=>by
   have e:Try.f5.params.toList.length=4:=by kernel_rfl
   rw[e] at h
   match ds,h with
   | [d0,d1,d2,d3],_=>exact ⟨rfl,rfl,rfl⟩)
  boundFixes_contract hval hW hsz
theorem boundFixes_holds:Rows.BoundFixesSaid :=
 OpenClaim.holds_of_wide 5 Try.f5 rfl rfl rfl rfl rfl rfl rfl ⟨rfl,rfl,rfl,rfl,rfl⟩ rfl rfl rfl rfl rfl (by kernel_rfl) Try.func5 (by kernel_rfl)
  (of_decide_eq_true (by kernel_rfl)) (by unfold Func.isWrapper; first | (rw[if_pos (by decide +kernel)]; kernel_rfl) | (rw[if_neg (by decide +kernel)]; exact ⟨rfl,rfl⟩))
  (fun os started H enc _=>boundFixes_lifted os started H enc)
#print axioms boundFixes_holds
end Go.Proofs.Ytfmcplfbnkoglaa
