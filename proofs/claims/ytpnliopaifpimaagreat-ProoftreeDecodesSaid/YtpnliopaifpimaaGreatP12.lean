/-
  'The law ProoftreeDecodes answers true for every input' is proved here: no condition.
-/
import Derived.Test.YtpnliopaifpimaaGreatP11
import Derived.Test.YtpnliopaifpimaaGreatRows
set_option maxRecDepth 100000
set_option maxHeartbeats 4000000
namespace Go.Proofs.YtpnliopaifpimaaGreat
open Go Go.Am Go.RowKit Go.ChangeShapes Go.WideShapes Go.ChangeAt
theorem prooftreeDecodes_own:ownKnob Tryz.prog.godebug=none:=by kernel_rfl
theorem prooftreeDecodes_laid:laidOutB Tryz.prog=true:=by kernel_rfl
theorem prooftreeDecodes_ub:Tryz.prog.underlying 4=some .bool:=by kernel_rfl
theorem prooftreeDecodes_tys:yQ (dx Tryz.prog 20) Tryz.f8.params.toList=some [.str]:=by kernel_rfl
theorem prooftreeDecodes_read:(Tryz.f8.params.toList.all fun t=>Tryz.prog.readableRec t&&decide (t<Tryz.prog.types.size))=true:=by kernel_rfl
theorem prooftreeDecodes_res:Tryz.f8.resultTypes=#[4]:=by kernel_rfl
theorem prooftreeDecodes_lifted (os:Os) (started:os.Started) (H:Type) (enc:TypeId × Value→H) :
  ReturnsInHanded {} Tryz.checked os 8 .any (Rows.prooftreeDecodesSpec.pre6 enc Tryz.prog Tryz.f8 Rows.prooftreeDecodesRow.domain false) (Rows.prooftreeDecodesSpec.post enc Tryz.prog Tryz.f8 false true false false):=by
 refine returnsInHanded_of_change_sized (C:=Tryz.checked) prooftreeDecodes_own started (by kernel_rfl) Tryz.func8
  (ChangeSpec.witness6 (enc:=enc) (C:=Tryz.checked) false ⟨#[],#[.string (⟨#[]⟩)],[]⟩ 8 (by kernel_rfl) (by kernel_rfl) (by kernel_rfl) (by kernel_rfl)) ?_
 intro W base args ds gs before hval hW _ hsz _
 exact CW prooftreeDecodes_laid prooftreeDecodes_tys prooftreeDecodes_read prooftreeDecodes_res prooftreeDecodes_ub rfl
  (fun ds h=>by
   have e:Tryz.f8.params.toList.length=1:=by kernel_rfl
   rw[e] at h
   match ds,h with
   | [d0],_=>exact ⟨rfl,rfl,rfl⟩)
  prooftreeDecodes_contract hval hW hsz
theorem prooftreeDecodes_holds:Rows.ProoftreeDecodesSaid :=
 OpenClaim.holds_of_wide 8 Tryz.f8 rfl rfl rfl rfl rfl rfl rfl ⟨rfl,rfl,rfl,rfl,rfl⟩ rfl rfl rfl rfl rfl (by kernel_rfl) Tryz.func8 (by kernel_rfl)
  (of_decide_eq_true (by kernel_rfl)) (by unfold Func.isWrapper; first | (rw[if_pos (by decide +kernel)]; kernel_rfl) | (rw[if_neg (by decide +kernel)]; exact ⟨rfl,rfl⟩))
  (fun os started H enc _=>prooftreeDecodes_lifted os started H enc)
#print axioms prooftreeDecodes_holds
end Go.Proofs.YtpnliopaifpimaaGreat
