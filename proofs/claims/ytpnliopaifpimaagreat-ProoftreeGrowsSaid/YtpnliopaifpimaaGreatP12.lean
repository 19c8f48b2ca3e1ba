/-
  'The law ProoftreeGrows answers true for every input' is proved here: no condition.
-/
import Derived.Test.YtpnliopaifpimaaGreatP11
import Derived.Test.YtpnliopaifpimaaGreatRows
set_option maxRecDepth 100000
set_option maxHeartbeats 4000000
namespace Go.Proofs.YtpnliopaifpimaaGreat
open Go Go.Am Go.RowKit Go.ChangeShapes Go.WideShapes Go.ChangeAt
theorem prooftreeGrows_own:ownKnob Tryz.prog.godebug=none:=by kernel_rfl
theorem prooftreeGrows_laid:laidOutB Tryz.prog=true:=by kernel_rfl
theorem prooftreeGrows_ub:Tryz.prog.underlying 4=some .bool:=by kernel_rfl
theorem prooftreeGrows_tys:yQ (dx Tryz.prog 20) Tryz.f5.params.toList=some [ahI,.int .i64,.int .i64,UB]:=by kernel_rfl
theorem prooftreeGrows_read:(Tryz.f5.params.toList.all fun t=>Tryz.prog.readableRec t&&decide (t<Tryz.prog.types.size))=true:=by kernel_rfl
theorem prooftreeGrows_res:Tryz.f5.resultTypes=#[4]:=by kernel_rfl
theorem prooftreeGrows_lifted (os:Os) (started:os.Started) (H:Type) (enc:TypeId × Value→H) :
  ReturnsInHanded {} Tryz.checked os 5 .any (Rows.prooftreeGrowsSpec.pre6 enc Tryz.prog Tryz.f5 Rows.prooftreeGrowsRow.domain false) (Rows.prooftreeGrowsSpec.post enc Tryz.prog Tryz.f5 false true false false):=by
 refine returnsInHanded_of_change_sized (C:=Tryz.checked) prooftreeGrows_own started (by kernel_rfl) Tryz.func5
  (ChangeSpec.witness6 (enc:=enc) (C:=Tryz.checked) false ⟨#[],#[.agg #[.int .i64 0,.int .i64 0,.int .i64 0,.int .i64 0,.int .i64 0,.int .i64 0,.int .i64 0,.int .i64 0,.int .i64 0,.int .i64 0,.int .i64 0,.int .i64 0,.int .i64 0,.int .i64 0,.int .i64 0,.int .i64 0,.int .i64 0,.int .i64 0,.slice none 0 0,.slice none 0 0],.int .i64 0,.int .i64 0,.slice none 0 0],[]⟩ 8 (by kernel_rfl) (by kernel_rfl) (by kernel_rfl) (by kernel_rfl)) ?_
 intro W base args ds gs before hval hW _ hsz _
 exact CW prooftreeGrows_laid prooftreeGrows_tys prooftreeGrows_read prooftreeGrows_res prooftreeGrows_ub rfl
  (fun ds h=>by
   have e:Tryz.f5.params.toList.length=4:=by kernel_rfl
   rw[e] at h
   match ds,h with
   | [d0,d1,d2,d3],_=>exact ⟨rfl,rfl,rfl⟩)
  prooftreeGrows_contract hval hW hsz
theorem prooftreeGrows_holds:Rows.ProoftreeGrowsSaid :=
 OpenClaim.holds_of_wide 5 Tryz.f5 rfl rfl rfl rfl rfl rfl rfl ⟨rfl,rfl,rfl,rfl,rfl⟩ rfl rfl rfl rfl rfl (by kernel_rfl) Tryz.func5 (by kernel_rfl)
  (of_decide_eq_true (by kernel_rfl)) (by unfold Func.isWrapper; first | (rw[if_pos (by decide +kernel)]; kernel_rfl) | (rw[if_neg (by decide +kernel)]; exact ⟨rfl,rfl⟩))
  (fun os started H enc _=>prooftreeGrows_lifted os started H enc)
#print axioms prooftreeGrows_holds
end Go.Proofs.YtpnliopaifpimaaGreat
