/-
  'The law SupportTight answers true for every input' is proved here: no condition.
-/
import Derived.Test.YtjeoklgggppjiaaGreatP11
import Derived.Test.YtjeoklgggppjiaaGreatRows
set_option maxRecDepth 100000
set_option maxHeartbeats 4000000
namespace Go.Proofs.YtjeoklgggppjiaaGreat
open Go Go.Am Go.RowKit Go.ChangeShapes Go.WideShapes Go.ChangeAt
theorem supportTight_own:ownKnob Tryz.prog.godebug=none:=by kernel_rfl
theorem supportTight_laid:laidOutB Tryz.prog=true:=by kernel_rfl
theorem supportTight_ub:Tryz.prog.underlying 4=some .bool:=by kernel_rfl
theorem supportTight_tys:yu (fM Tryz.prog 20) Tryz.f8.params.toList=some [abB]:=by kernel_rfl
theorem supportTight_read:(Tryz.f8.params.toList.all fun t=>Tryz.prog.readableRec t&&decide (t<Tryz.prog.types.size))=true:=by kernel_rfl
theorem supportTight_res:Tryz.f8.resultTypes=#[4]:=by kernel_rfl
theorem supportTight_lifted (os:Os) (started:os.Started) (H:Type) (enc:TypeId × Value→H) :
  ReturnsInHanded {} Tryz.checked os 8 .any (Rows.supportTightSpec.pre6 enc Tryz.prog Tryz.f8 Rows.supportTightRow.domain false) (Rows.supportTightSpec.post enc Tryz.prog Tryz.f8 false true false false):=by
 refine returnsInHanded_of_change_sized (C:=Tryz.checked) supportTight_own started (by kernel_rfl) Tryz.func8
  (ChangeSpec.witness6 (enc:=enc) (C:=Tryz.checked) false ⟨#[],#[.agg #[.int .i64 0,.int .i64 0,.int .i64 0,.int .i64 0,.int .i64 0,.int .i64 0,.int .i64 0,.int .i64 0,.int .i64 0,.int .i64 0,.int .i64 0,.int .i64 0,.int .i64 0,.int .i64 0,.int .i64 0,.int .i64 0,.int .i64 0,.int .i64 0,.slice none 0 0,.slice none 0 0]],[]⟩ 8 (by kernel_rfl) (by kernel_rfl) (by kernel_rfl) (by kernel_rfl)) ?_
 intro W base args ds gs before hval hW _ hsz _
 exact Dg supportTight_laid supportTight_tys supportTight_read supportTight_res supportTight_ub rfl
  (fun ds h=>by
   have e:Tryz.f8.params.toList.length=1:=by kernel_rfl
   rw[e] at h
   match ds,h with
   | [d0],_=>exact ⟨rfl,rfl,rfl⟩)
  supportTight_contract hval hW hsz
theorem supportTight_holds:Rows.SupportTightSaid :=
 OpenClaim.holds_of_wide 8 Tryz.f8 rfl rfl rfl rfl rfl rfl rfl ⟨rfl,rfl,rfl,rfl,rfl⟩ rfl rfl rfl rfl rfl (by kernel_rfl) Tryz.func8 (by kernel_rfl)
  (of_decide_eq_true (by kernel_rfl)) (by unfold Func.isWrapper; first | (rw[if_pos (by decide +kernel)]; kernel_rfl) | (rw[if_neg (by decide +kernel)]; exact ⟨rfl,rfl⟩))
  (fun os started H enc _=>supportTight_lifted os started H enc)
#print axioms supportTight_holds
end Go.Proofs.YtjeoklgggppjiaaGreat
