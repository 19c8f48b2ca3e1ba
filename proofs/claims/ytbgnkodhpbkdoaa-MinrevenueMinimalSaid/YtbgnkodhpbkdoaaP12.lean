/-
  'The law MinrevenueMinimal answers true for every input' is proved here: no condition.
-/
import Derived.Test.YtbgnkodhpbkdoaaP11
import Derived.Test.YtbgnkodhpbkdoaaRows
set_option maxRecDepth 100000
set_option maxHeartbeats 4000000
namespace Go.Proofs.Ytbgnkodhpbkdoaa
open Go Go.Am Go.RowKit Go.ChangeShapes Go.WideShapes Go.ChangeAt
theorem minrevenueMinimal_own:ownKnob Try.prog.godebug=none:=by kernel_rfl
theorem minrevenueMinimal_laid:laidOutB Try.prog=true:=by kernel_rfl
theorem minrevenueMinimal_ub:Try.prog.underlying uu=some .bool:=by kernel_rfl
theorem minrevenueMinimal_tys:yD (kZ Try.prog 20) Try.f3.params.toList=some [.slice Q5,.slice (.int .i64)]:=by kernel_rfl
theorem minrevenueMinimal_read:(Try.f3.params.toList.all fun t=>Try.prog.readableRec t&&decide (t<Try.prog.types.size))=true:=by kernel_rfl
theorem minrevenueMinimal_res:Try.f3.resultTypes=#[uu]:=by kernel_rfl
theorem minrevenueMinimal_lifted (os:Os) (started:os.Started) (H:Type) (enc:TypeId × Value→H) :
  ReturnsInHanded {} Try.checked os 3 .any (Rows.minrevenueMinimalSpec.pre6 enc Try.prog Try.f3 Rows.minrevenueMinimalRow.domain false) (Rows.minrevenueMinimalSpec.post enc Try.prog Try.f3 false true false false):=by
 refine returnsInHanded_of_change_sized (C:=Try.checked) minrevenueMinimal_own started (by kernel_rfl) Try.func3
  (ChangeSpec.witness6 (enc:=enc) (C:=Try.checked) false ⟨#[],#[.slice none 0 0,.slice none 0 0],[]⟩ 8 (by kernel_rfl) (by kernel_rfl) (by kernel_rfl) (by kernel_rfl)) ?_
 intro W base args ds gs before hval hW _ hsz _
 exact Jv minrevenueMinimal_laid minrevenueMinimal_tys minrevenueMinimal_read minrevenueMinimal_res minrevenueMinimal_ub rfl
  (fun ds h=>by
   have e:Try.f3.params.toList.length=2:=by kernel_rfl
   rw[e] at h
   match ds,h with
   | [d0,d1],_=>exact ⟨rfl,rfl,rfl⟩)
  minrevenueMinimal_contract hval hW hsz
theorem minrevenueMinimal_holds:Rows.MinrevenueMinimalSaid :=
 OpenClaim.holds_of_wide 3 Try.f3 rfl rfl rfl rfl rfl rfl rfl ⟨rfl,rfl,rfl,rfl,rfl⟩ rfl rfl rfl rfl rfl (by kernel_rfl) Try.func3 (by kernel_rfl)
  (of_decide_eq_true (by kernel_rfl)) (by unfold Func.isWrapper; first | (rw[if_pos (by decide +kernel)]; kernel_rfl) | (rw[if_neg (by decide +kernel)]; exact ⟨rfl,rfl⟩))
  (fun os started H enc _=>minrevenueMinimal_lifted os started H enc)
#print axioms minrevenueMinimal_holds
end Go.Proofs.Ytbgnkodhpbkdoaa
