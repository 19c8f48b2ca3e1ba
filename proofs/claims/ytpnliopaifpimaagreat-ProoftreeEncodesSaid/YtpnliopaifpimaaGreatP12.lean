/-
  'The law ProoftreeEncodes answers true for every input' is proved here: no condition.
-/
import Derived.Test.YtpnliopaifpimaaGreatP11
import Derived.Test.YtpnliopaifpimaaGreatRows
set_option maxRecDepth 100000
set_option maxHeartbeats 4000000
namespace Go.Proofs.YtpnliopaifpimaaGreat
open Go Go.Am Go.RowKit Go.ChangeShapes Go.WideShapes Go.ChangeAt
theorem prooftreeEncodes_own:ownKnob Tryz.prog.godebug=none:=by kernel_rfl
theorem prooftreeEncodes_laid:laidOutB Tryz.prog=true:=by kernel_rfl
theorem prooftreeEncodes_ub:Tryz.prog.underlying 4=some .bool:=by kernel_rfl
theorem prooftreeEncodes_tys:yQ (dx Tryz.prog 20) Tryz.f7.params.toList=some [UB]:=by kernel_rfl
theorem prooftreeEncodes_read:(Tryz.f7.params.toList.all fun t=>Tryz.prog.readableRec t&&decide (t<Tryz.prog.types.size))=true:=by kernel_rfl
theorem prooftreeEncodes_res:Tryz.f7.resultTypes=#[4]:=by kernel_rfl
theorem prooftreeEncodes_lifted (os:Os) (started:os.Started) (H:Type) (enc:TypeId × Value→H) :
  ReturnsInHanded {} Tryz.checked os 7 .any (Rows.prooftreeEncodesSpec.pre6 enc Tryz.prog Tryz.f7 Rows.prooftreeEncodesRow.domain false) (Rows.prooftreeEncodesSpec.post enc Tryz.prog Tryz.f7 false true false false):=by
 refine returnsInHanded_of_change_sized (C:=Tryz.checked) prooftreeEncodes_own started (by kernel_rfl) Tryz.func7
  (ChangeSpec.witness6 (enc:=enc) (C:=Tryz.checked) false ⟨#[],#[.slice none 0 0],[]⟩ 8 (by kernel_rfl) (by kernel_rfl) (by kernel_rfl) (by kernel_rfl)) ?_
 intro W base args ds gs before hval hW _ hsz _
 exact CW prooftreeEncodes_laid prooftreeEncodes_tys prooftreeEncodes_read prooftreeEncodes_res prooftreeEncodes_ub rfl
  (fun ds h=>by
   have e:Tryz.f7.params.toList.length=1:=by kernel_rfl
   rw[e] at h
   match ds,h with
   | [d0],_=>exact ⟨rfl,rfl,rfl⟩)
  prooftreeEncodes_contract hval hW hsz
theorem prooftreeEncodes_holds:Rows.ProoftreeEncodesSaid :=
 OpenClaim.holds_of_wide 7 Tryz.f7 rfl rfl rfl rfl rfl rfl rfl ⟨rfl,rfl,rfl,rfl,rfl⟩ rfl rfl rfl rfl rfl (by kernel_rfl) Tryz.func7 (by kernel_rfl)
  (of_decide_eq_true (by kernel_rfl)) (by unfold Func.isWrapper; first | (rw[if_pos (by decide +kernel)]; kernel_rfl) | (rw[if_neg (by decide +kernel)]; exact ⟨rfl,rfl⟩))
  (fun os started H enc _=>prooftreeEncodes_lifted os started H enc)
#print axioms prooftreeEncodes_holds
end Go.Proofs.YtpnliopaifpimaaGreat
