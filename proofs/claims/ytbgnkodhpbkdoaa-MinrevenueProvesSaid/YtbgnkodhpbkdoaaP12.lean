/-
  'The law MinrevenueProves answers true for every input' is proved here: no condition.
-/
import Derived.Test.YtbgnkodhpbkdoaaP11
import Derived.Test.YtbgnkodhpbkdoaaRows
set_option maxRecDepth 100000
set_option maxHeartbeats 4000000
namespace Go.Proofs.Ytbgnkodhpbkdoaa
open Go Go.Am Go.RowKit Go.ChangeShapes Go.WideShapes Go.ChangeAt
theorem minrevenueProves_own:ownKnob Try.prog.godebug=none:=by kernel_rfl
theorem minrevenueProves_laid:laidOutB Try.prog=true:=by kernel_rfl
theorem minrevenueProves_ub:Try.prog.underlying T_bool=some .bool:=by kernel_rfl
theorem minrevenueProves_tys:mapO (tyOf Try.prog 20) Try.f4.params.toList=some [.slice tyNeed,.slice (.int .i64)]:=by kernel_rfl
theorem minrevenueProves_read:(Try.f4.params.toList.all fun t=>Try.prog.readableRec t&&decide (t<Try.prog.types.size))=true:=by kernel_rfl
theorem minrevenueProves_res:Try.f4.resultTypes=#[T_bool]:=by kernel_rfl
theorem minrevenueProves_lifted (os:Os) (started:os.Started) (H:Type) (enc:TypeId × Value→H) :
  ReturnsInHanded {} Try.checked os 4 .any (Rows.minrevenueProvesSpec.pre6 enc Try.prog Try.f4 Rows.minrevenueProvesRow.domain false) (Rows.minrevenueProvesSpec.post enc Try.prog Try.f4 false true false false):=by
 refine returnsInHanded_of_change_sized (C:=Try.checked) minrevenueProves_own started (by kernel_rfl) Try.func4
  (ChangeSpec.witness6 (enc:=enc) (C:=Try.checked) false ⟨#[],#[.slice none 0 0,.slice none 0 0],[]⟩ 8 (by kernel_rfl) (by kernel_rfl) (by kernel_rfl) (by kernel_rfl)) ?_
 intro W base args ds gs before hval hW _ hsz _
 exact law_calls minrevenueProves_laid minrevenueProves_tys minrevenueProves_read minrevenueProves_res minrevenueProves_ub rfl
  (fun ds h=>by
   have e:Try.f4.params.toList.length=2:=by kernel_rfl
   rw[e] at h
   match ds,h with
   | [d0,d1],_=>exact ⟨rfl,rfl,rfl⟩)
  minrevenueProves_contract hval hW hsz
theorem minrevenueProves_holds:Rows.MinrevenueProvesSaid :=
 OpenClaim.holds_of_wide 4 Try.f4 rfl rfl rfl rfl rfl rfl rfl ⟨rfl,rfl,rfl,rfl,rfl⟩ rfl rfl rfl rfl rfl (by kernel_rfl) Try.func4 (by kernel_rfl)
  (of_decide_eq_true (by kernel_rfl)) (by unfold Func.isWrapper; first | (rw[if_pos (by decide +kernel)]; kernel_rfl) | (rw[if_neg (by decide +kernel)]; exact ⟨rfl,rfl⟩))
  (fun os started H enc _=>minrevenueProves_lifted os started H enc)
#print axioms minrevenueProves_holds
end Go.Proofs.Ytbgnkodhpbkdoaa
