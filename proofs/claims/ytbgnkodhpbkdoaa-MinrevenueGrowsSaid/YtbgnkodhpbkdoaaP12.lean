/-
  'The law MinrevenueGrows answers true for every input' is proved here: no condition.
-/
import Derived.Test.YtbgnkodhpbkdoaaP11
import Derived.Test.YtbgnkodhpbkdoaaRows
set_option maxRecDepth 100000
set_option maxHeartbeats 4000000
namespace Go.Proofs.Ytbgnkodhpbkdoaa
open Go Go.Am Go.RowKit Go.ChangeShapes Go.WideShapes Go.ChangeAt
theorem minrevenueGrows_own:ownKnob Try.prog.godebug=none:=by kernel_rfl
theorem minrevenueGrows_laid:laidOutB Try.prog=true:=by kernel_rfl
theorem minrevenueGrows_ub:Try.prog.underlying T_bool=some .bool:=by kernel_rfl
theorem minrevenueGrows_tys:mapO (tyOf Try.prog 20) Try.f7.params.toList=some [.slice tyNeed,.slice (.int .i64),tyNeed]:=by kernel_rfl
theorem minrevenueGrows_read:(Try.f7.params.toList.all fun t=>Try.prog.readableRec t&&decide (t<Try.prog.types.size))=true:=by kernel_rfl
theorem minrevenueGrows_res:Try.f7.resultTypes=#[T_bool]:=by kernel_rfl
theorem minrevenueGrows_lifted (os:Os) (started:os.Started) (H:Type) (enc:TypeId × Value→H) :
  ReturnsInHanded {} Try.checked os 7 .any (Rows.minrevenueGrowsSpec.pre6 enc Try.prog Try.f7 Rows.minrevenueGrowsRow.domain false) (Rows.minrevenueGrowsSpec.post enc Try.prog Try.f7 false true false false):=by
 refine returnsInHanded_of_change_sized (C:=Try.checked) minrevenueGrows_own started (by kernel_rfl) Try.func7
  (ChangeSpec.witness6 (enc:=enc) (C:=Try.checked) false ⟨#[],#[.slice none 0 0,.slice none 0 0,.agg #[.int .i64 0,.int .i64 0]],[]⟩ 8 (by kernel_rfl) (by kernel_rfl) (by kernel_rfl) (by kernel_rfl)) ?_
 intro W base args ds gs before hval hW _ hsz _
 exact law_calls minrevenueGrows_laid minrevenueGrows_tys minrevenueGrows_read minrevenueGrows_res minrevenueGrows_ub rfl
  (fun ds h=>by
   have e:Try.f7.params.toList.length=3:=by kernel_rfl
   rw[e] at h
   match ds,h with
   | [d0,d1,d2],_=>exact ⟨rfl,rfl,rfl⟩)
  minrevenueGrows_contract hval hW hsz
theorem minrevenueGrows_holds:Rows.MinrevenueGrowsSaid :=
 OpenClaim.holds_of_wide 7 Try.f7 rfl rfl rfl rfl rfl rfl rfl ⟨rfl,rfl,rfl,rfl,rfl⟩ rfl rfl rfl rfl rfl (by kernel_rfl) Try.func7 (by kernel_rfl)
  (of_decide_eq_true (by kernel_rfl)) (by unfold Func.isWrapper; first | (rw[if_pos (by decide +kernel)]; kernel_rfl) | (rw[if_neg (by decide +kernel)]; exact ⟨rfl,rfl⟩))
  (fun os started H enc _=>minrevenueGrows_lifted os started H enc)
#print axioms minrevenueGrows_holds
end Go.Proofs.Ytbgnkodhpbkdoaa
