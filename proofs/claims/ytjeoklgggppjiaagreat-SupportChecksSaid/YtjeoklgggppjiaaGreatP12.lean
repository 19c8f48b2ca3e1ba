/-
  'The law SupportChecks answers true for every input' is proved here: no condition.
-/
import Derived.Test.YtjeoklgggppjiaaGreatP11
import Derived.Test.YtjeoklgggppjiaaGreatRows
set_option maxRecDepth 100000
set_option maxHeartbeats 4000000
namespace Go.Proofs.YtjeoklgggppjiaaGreat
open Go Go.Am Go.RowKit Go.ChangeShapes Go.WideShapes Go.ChangeAt
theorem supportChecks_own:ownKnob Tryz.prog.godebug=none:=by kernel_rfl
theorem supportChecks_laid:laidOutB Tryz.prog=true:=by kernel_rfl
theorem supportChecks_ub:Tryz.prog.underlying 4=some .bool:=by kernel_rfl
theorem supportChecks_tys:yv (fK Tryz.prog 20) Tryz.f5.params.toList=some [Lw,.int .u8,.int .u8,.int .i8]:=by kernel_rfl
theorem supportChecks_read:(Tryz.f5.params.toList.all fun t=>Tryz.prog.readableRec t&&decide (t<Tryz.prog.types.size))=true:=by kernel_rfl
theorem supportChecks_res:Tryz.f5.resultTypes=#[4]:=by kernel_rfl
theorem supportChecks_lifted (os:Os) (started:os.Started) (H:Type) (enc:TypeId × Value→H) :
  ReturnsInHanded {} Tryz.checked os 5 .any (Rows.supportChecksSpec.pre6 enc Tryz.prog Tryz.f5 Rows.supportChecksRow.domain false) (Rows.supportChecksSpec.post enc Tryz.prog Tryz.f5 false true false false):=by
 refine returnsInHanded_of_change_sized (C:=Tryz.checked) supportChecks_own started (by kernel_rfl) Tryz.func5
  (ChangeSpec.witness6 (enc:=enc) (C:=Tryz.checked) false ⟨#[],#[.agg #[.int .i64 0,.int .i64 0,.int .i64 0,.int .i64 0,.int .i64 0,.int .i64 0,.int .i64 0,.int .i64 0,.int .i64 0,.int .i64 0,.int .i64 0,.int .i64 0,.int .i64 0,.int .i64 0,.int .i64 0,.int .i64 0,.int .i64 0,.int .i64 0,.slice none 0 0,.slice none 0 0],.int .u8 0,.int .u8 0,.int .i8 0],[]⟩ 8 (by kernel_rfl) (by kernel_rfl) (by kernel_rfl) (by kernel_rfl)) ?_
 intro W base args ds gs before hval hW _ hsz _
 exact Dn supportChecks_laid supportChecks_tys supportChecks_read supportChecks_res supportChecks_ub rfl
  (fun ds h=>by
   have e:Tryz.f5.params.toList.length=4:=by kernel_rfl
   rw[e] at h
   match ds,h with
   | [d0,d1,d2,d3],_=>exact ⟨rfl,rfl,rfl⟩)
  supportChecks_contract hval hW hsz
theorem supportChecks_holds:Rows.SupportChecksSaid :=
 OpenClaim.holds_of_wide 5 Tryz.f5 rfl rfl rfl rfl rfl rfl rfl ⟨rfl,rfl,rfl,rfl,rfl⟩ rfl rfl rfl rfl rfl (by kernel_rfl) Tryz.func5 (by kernel_rfl)
  (of_decide_eq_true (by kernel_rfl)) (by unfold Func.isWrapper; first | (rw[if_pos (by decide +kernel)]; kernel_rfl) | (rw[if_neg (by decide +kernel)]; exact ⟨rfl,rfl⟩))
  (fun os started H enc _=>supportChecks_lifted os started H enc)
#print axioms supportChecks_holds
end Go.Proofs.YtjeoklgggppjiaaGreat
