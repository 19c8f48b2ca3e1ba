/-
  'The law ProoftreeComplete answers true for every input' is proved here: no condition.
-/
import Derived.Test.YtpnliopaifpimaaGreatP11
import Derived.Test.YtpnliopaifpimaaGreatRows
set_option maxRecDepth 100000
set_option maxHeartbeats 4000000
namespace Go.Proofs.YtpnliopaifpimaaGreat
open Go Go.Am Go.RowKit Go.ChangeShapes Go.WideShapes Go.ChangeAt
theorem prooftreeComplete_own:ownKnob Tryz.prog.godebug=none:=by kernel_rfl
theorem prooftreeComplete_laid:laidOutB Tryz.prog=true:=by kernel_rfl
theorem prooftreeComplete_ub:Tryz.prog.underlying 4=some .bool:=by kernel_rfl
theorem prooftreeComplete_tys:yQ (dx Tryz.prog 20) Tryz.f9.params.toList=some [ahI,.int .i64]:=by kernel_rfl
theorem prooftreeComplete_read:(Tryz.f9.params.toList.all fun t=>Tryz.prog.readableRec t&&decide (t<Tryz.prog.types.size))=true:=by kernel_rfl
theorem prooftreeComplete_res:Tryz.f9.resultTypes=#[4]:=by kernel_rfl
theorem prooftreeComplete_lifted (os:Os) (started:os.Started) (H:Type) (enc:TypeId × Value→H) :
  ReturnsInHanded {} Tryz.checked os 9 .any (Rows.prooftreeCompleteSpec.pre6 enc Tryz.prog Tryz.f9 Rows.prooftreeCompleteRow.domain false) (Rows.prooftreeCompleteSpec.post enc Tryz.prog Tryz.f9 false true false false):=by
 refine returnsInHanded_of_change_sized (C:=Tryz.checked) prooftreeComplete_own started (by kernel_rfl) Tryz.func9
  (ChangeSpec.witness6 (enc:=enc) (C:=Tryz.checked) false ⟨#[],#[.agg #[.int .i64 0,.int .i64 0,.int .i64 0,.int .i64 0,.int .i64 0,.int .i64 0,.int .i64 0,.int .i64 0,.int .i64 0,.int .i64 0,.int .i64 0,.int .i64 0,.int .i64 0,.int .i64 0,.int .i64 0,.int .i64 0,.int .i64 0,.int .i64 0,.slice none 0 0,.slice none 0 0],.int .i64 0],[]⟩ 8 (by kernel_rfl) (by kernel_rfl) (by kernel_rfl) (by kernel_rfl)) ?_
 intro W base args ds gs before hval hW _ hsz _
 exact CW prooftreeComplete_laid prooftreeComplete_tys prooftreeComplete_read prooftreeComplete_res prooftreeComplete_ub rfl
  (fun ds h=>by
   have e:Tryz.f9.params.toList.length=2:=by kernel_rfl
   rw[e] at h
   match ds,h with
   | [d0,d1],_=>exact ⟨rfl,rfl,rfl⟩)
  prooftreeComplete_contract hval hW hsz
theorem prooftreeComplete_holds:Rows.ProoftreeCompleteSaid :=
 OpenClaim.holds_of_wide 9 Tryz.f9 rfl rfl rfl rfl rfl rfl rfl ⟨rfl,rfl,rfl,rfl,rfl⟩ rfl rfl rfl rfl rfl (by kernel_rfl) Tryz.func9 (by kernel_rfl)
  (of_decide_eq_true (by kernel_rfl)) (by unfold Func.isWrapper; first | (rw[if_pos (by decide +kernel)]; kernel_rfl) | (rw[if_neg (by decide +kernel)]; exact ⟨rfl,rfl⟩))
  (fun os started H enc _=>prooftreeComplete_lifted os started H enc)
#print axioms prooftreeComplete_holds
end Go.Proofs.YtpnliopaifpimaaGreat
