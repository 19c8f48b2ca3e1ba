/-
  'The law SupportErrors answers true for every input' is proved here: no condition.
-/
import Derived.Test.YtjeoklgggppjiaaGreatP11
import Derived.Test.YtjeoklgggppjiaaGreatRows
set_option maxRecDepth 100000
set_option maxHeartbeats 4000000
namespace Go.Proofs.YtjeoklgggppjiaaGreat
open Go Go.Am Go.RowKit Go.ChangeShapes Go.WideShapes Go.ChangeAt
theorem supportErrors_own:ownKnob Tryz.prog.godebug=none:=by kernel_rfl
theorem supportErrors_laid:laidOutB Tryz.prog=true:=by kernel_rfl
theorem supportErrors_ub:Tryz.prog.underlying 4=some .bool:=by kernel_rfl
theorem supportErrors_tys:yv (fK Tryz.prog 20) Tryz.f4.params.toList=some [Lw,abK]:=by kernel_rfl
theorem supportErrors_read:(Tryz.f4.params.toList.all fun t=>Tryz.prog.readableRec t&&decide (t<Tryz.prog.types.size))=true:=by kernel_rfl
theorem supportErrors_res:Tryz.f4.resultTypes=#[4]:=by kernel_rfl
theorem supportErrors_lifted (os:Os) (started:os.Started) (H:Type) (enc:TypeId × Value→H) :
  ReturnsInHanded {} Tryz.checked os 4 .any (Rows.supportErrorsSpec.pre6 enc Tryz.prog Tryz.f4 Rows.supportErrorsRow.domain false) (Rows.supportErrorsSpec.post enc Tryz.prog Tryz.f4 false true false false):=by
 refine returnsInHanded_of_change_sized (C:=Tryz.checked) supportErrors_own started (by kernel_rfl) Tryz.func4
  (ChangeSpec.witness6 (enc:=enc) (C:=Tryz.checked) false ⟨#[],#[.agg #[.int .i64 0,.int .i64 0,.int .i64 0,.int .i64 0,.int .i64 0,.int .i64 0,.int .i64 0,.int .i64 0,.int .i64 0,.int .i64 0,.int .i64 0,.int .i64 0,.int .i64 0,.int .i64 0,.int .i64 0,.int .i64 0,.int .i64 0,.int .i64 0,.slice none 0 0,.slice none 0 0],.agg #[.slice none 0 0,.int .i64 0]],[]⟩ 8 (by kernel_rfl) (by kernel_rfl) (by kernel_rfl) (by kernel_rfl)) ?_
 intro W base args ds gs before hval hW _ hsz _
 exact Dn supportErrors_laid supportErrors_tys supportErrors_read supportErrors_res supportErrors_ub rfl
  (fun ds h=>by
   have e:Tryz.f4.params.toList.length=2:=by kernel_rfl
   rw[e] at h
   match ds,h with
   | [d0,d1],_=>exact ⟨rfl,rfl,rfl⟩)
  supportErrors_contract hval hW hsz
theorem supportErrors_holds:Rows.SupportErrorsSaid :=
 OpenClaim.holds_of_wide 4 Tryz.f4 rfl rfl rfl rfl rfl rfl rfl ⟨rfl,rfl,rfl,rfl,rfl⟩ rfl rfl rfl rfl rfl (by kernel_rfl) Tryz.func4 (by kernel_rfl)
  (of_decide_eq_true (by kernel_rfl)) (by unfold Func.isWrapper; first | (rw[if_pos (by decide +kernel)]; kernel_rfl) | (rw[if_neg (by decide +kernel)]; exact ⟨rfl,rfl⟩))
  (fun os started H enc _=>supportErrors_lifted os started H enc)
#print axioms supportErrors_holds
end Go.Proofs.YtjeoklgggppjiaaGreat
