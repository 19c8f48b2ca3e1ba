/-
  'The law SupportExplains answers true for every input' is proved here: no condition.
-/
import Derived.Test.YtjeoklgggppjiaaGreatP11
import Derived.Test.YtjeoklgggppjiaaGreatRows
set_option maxRecDepth 100000
set_option maxHeartbeats 4000000
namespace Go.Proofs.YtjeoklgggppjiaaGreat
open Go Go.Am Go.RowKit Go.ChangeShapes Go.WideShapes Go.ChangeAt
theorem supportExplains_own:ownKnob Tryz.prog.godebug=none:=by kernel_rfl
theorem supportExplains_laid:laidOutB Tryz.prog=true:=by kernel_rfl
theorem supportExplains_ub:Tryz.prog.underlying 4=some .bool:=by kernel_rfl
theorem supportExplains_tys:yv (fK Tryz.prog 20) Tryz.f6.params.toList=some [Lw,.slice (.int .i64)]:=by kernel_rfl
theorem supportExplains_read:(Tryz.f6.params.toList.all fun t=>Tryz.prog.readableRec t&&decide (t<Tryz.prog.types.size))=true:=by kernel_rfl
theorem supportExplains_res:Tryz.f6.resultTypes=#[4]:=by kernel_rfl
theorem supportExplains_lifted (os:Os) (started:os.Started) (H:Type) (enc:TypeId × Value→H) :
  ReturnsInHanded {} Tryz.checked os 6 .any (Rows.supportExplainsSpec.pre6 enc Tryz.prog Tryz.f6 Rows.supportExplainsRow.domain false) (Rows.supportExplainsSpec.post enc Tryz.prog Tryz.f6 false true false false):=by
 refine returnsInHanded_of_change_sized (C:=Tryz.checked) supportExplains_own started (by kernel_rfl) Tryz.func6
  (ChangeSpec.witness6 (enc:=enc) (C:=Tryz.checked) false ⟨#[],#[.agg #[.int .i64 0,.int .i64 0,.int .i64 0,.int .i64 0,.int .i64 0,.int .i64 0,.int .i64 0,.int .i64 0,.int .i64 0,.int .i64 0,.int .i64 0,.int .i64 0,.int .i64 0,.int .i64 0,.int .i64 0,.int .i64 0,.int .i64 0,.int .i64 0,.slice none 0 0,.slice none 0 0],.slice none 0 0],[]⟩ 8 (by kernel_rfl) (by kernel_rfl) (by kernel_rfl) (by kernel_rfl)) ?_
 intro W base args ds gs before hval hW _ hsz _
 exact Dn supportExplains_laid supportExplains_tys supportExplains_read supportExplains_res supportExplains_ub rfl
  (fun ds h=>by
   have e:Tryz.f6.params.toList.length=2:=by kernel_rfl
   rw[e] at h
   match ds,h with
   | [d0,d1],_=>exact ⟨rfl,rfl,rfl⟩)
  supportExplains_contract hval hW hsz
theorem supportExplains_holds:Rows.SupportExplainsSaid :=
 OpenClaim.holds_of_wide 6 Tryz.f6 rfl rfl rfl rfl rfl rfl rfl ⟨rfl,rfl,rfl,rfl,rfl⟩ rfl rfl rfl rfl rfl (by kernel_rfl) Tryz.func6 (by kernel_rfl)
  (of_decide_eq_true (by kernel_rfl)) (by unfold Func.isWrapper; first | (rw[if_pos (by decide +kernel)]; kernel_rfl) | (rw[if_neg (by decide +kernel)]; exact ⟨rfl,rfl⟩))
  (fun os started H enc _=>supportExplains_lifted os started H enc)
#print axioms supportExplains_holds
end Go.Proofs.YtjeoklgggppjiaaGreat
