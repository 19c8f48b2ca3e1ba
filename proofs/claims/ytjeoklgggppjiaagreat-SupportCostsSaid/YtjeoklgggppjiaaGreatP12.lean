/-
  'The law SupportCosts answers true for every input' is proved here: no condition.
-/
import Derived.Test.YtjeoklgggppjiaaGreatP11
import Derived.Test.YtjeoklgggppjiaaGreatRows
set_option maxRecDepth 100000
set_option maxHeartbeats 4000000
namespace Go.Proofs.YtjeoklgggppjiaaGreat
open Go Go.Am Go.RowKit Go.ChangeShapes Go.WideShapes Go.ChangeAt
theorem supportCosts_own:ownKnob Tryz.prog.godebug=none:=by kernel_rfl
theorem supportCosts_laid:laidOutB Tryz.prog=true:=by kernel_rfl
theorem supportCosts_ub:Tryz.prog.underlying 4=some .bool:=by kernel_rfl
theorem supportCosts_tys:yv (fK Tryz.prog 20) Tryz.f7.params.toList=some [Lw,.int .i64,.slice je,.slice je,.slice je]:=by kernel_rfl
theorem supportCosts_read:(Tryz.f7.params.toList.all fun t=>Tryz.prog.readableRec t&&decide (t<Tryz.prog.types.size))=true:=by kernel_rfl
theorem supportCosts_res:Tryz.f7.resultTypes=#[4]:=by kernel_rfl
theorem supportCosts_lifted (os:Os) (started:os.Started) (H:Type) (enc:TypeId × Value→H) :
  ReturnsInHanded {} Tryz.checked os 7 .any (Rows.supportCostsSpec.pre6 enc Tryz.prog Tryz.f7 Rows.supportCostsRow.domain false) (Rows.supportCostsSpec.post enc Tryz.prog Tryz.f7 false true false false):=by
 refine returnsInHanded_of_change_sized (C:=Tryz.checked) supportCosts_own started (by kernel_rfl) Tryz.func7
  (ChangeSpec.witness6 (enc:=enc) (C:=Tryz.checked) false ⟨#[],#[.agg #[.int .i64 0,.int .i64 0,.int .i64 0,.int .i64 0,.int .i64 0,.int .i64 0,.int .i64 0,.int .i64 0,.int .i64 0,.int .i64 0,.int .i64 0,.int .i64 0,.int .i64 0,.int .i64 0,.int .i64 0,.int .i64 0,.int .i64 0,.int .i64 0,.slice none 0 0,.slice none 0 0],.int .i64 0,.slice none 0 0,.slice none 0 0,.slice none 0 0],[]⟩ 8 (by kernel_rfl) (by kernel_rfl) (by kernel_rfl) (by kernel_rfl)) ?_
 intro W base args ds gs before hval hW _ hsz _
 exact Dn supportCosts_laid supportCosts_tys supportCosts_read supportCosts_res supportCosts_ub rfl
  (fun ds h=>by
   have e:Tryz.f7.params.toList.length=5:=by kernel_rfl
   rw[e] at h
   match ds,h with
   | [d0,d1,d2,d3,d4],_=>exact ⟨rfl,rfl,rfl⟩)
  supportCosts_contract hval hW hsz
theorem supportCosts_holds:Rows.SupportCostsSaid :=
 OpenClaim.holds_of_wide 7 Tryz.f7 rfl rfl rfl rfl rfl rfl rfl ⟨rfl,rfl,rfl,rfl,rfl⟩ rfl rfl rfl rfl rfl (by kernel_rfl) Tryz.func7 (by kernel_rfl)
  (of_decide_eq_true (by kernel_rfl)) (by unfold Func.isWrapper; first | (rw[if_pos (by decide +kernel)]; kernel_rfl) | (rw[if_neg (by decide +kernel)]; exact ⟨rfl,rfl⟩))
  (fun os started H enc _=>supportCosts_lifted os started H enc)
#print axioms supportCosts_holds
end Go.Proofs.YtjeoklgggppjiaaGreat
