/-
  'The law ProblemSells answers true for every input' is proved here: no condition.
-/
import Derived.Test.YtbmhibiljjnfiaaP10
import Derived.Test.YtbmhibiljjnfiaaRows
set_option maxRecDepth 100000
set_option maxHeartbeats 4000000
namespace Go.Proofs.Ytbmhibiljjnfiaa
open Go Go.Am Go.RowKit Go.ChangeShapes Go.WideShapes Go.ChangeAt
theorem problemSells_own:ownKnob Try.prog.godebug=none:=by kernel_rfl
theorem problemSells_laid:laidOutB Try.prog=true:=by kernel_rfl
theorem problemSells_ub:Try.prog.underlying cQ=some .bool:=by kernel_rfl
theorem problemSells_tys:yA (gF Try.prog 20) Try.f10.params.toList=some [Ff,.slice T9,.int .u64]:=by kernel_rfl
theorem problemSells_read:(Try.f10.params.toList.all fun t=>Try.prog.readableRec t&&decide (t<Try.prog.types.size))=true:=by kernel_rfl
theorem problemSells_res:Try.f10.resultTypes=#[cQ]:=by kernel_rfl
theorem problemSells_lifted (os:Os) (started:os.Started) (H:Type) (enc:TypeId × Value→H) :
  ReturnsInHanded {} Try.checked os 10 .any (Rows.problemSellsSpec.pre6 enc Try.prog Try.f10 Rows.problemSellsRow.domain false) (Rows.problemSellsSpec.post enc Try.prog Try.f10 false true false false):=by
 refine returnsInHanded_of_change_sized (C:=Try.checked) problemSells_own started (by kernel_rfl) Try.func10
  (ChangeSpec.witness6 (enc:=enc) (C:=Try.checked) false ⟨#[],#[.agg #[.slice none 0 0,.slice none 0 0,.slice none 0 0,.slice none 0 0],.slice none 0 0,.int .u64 0],[]⟩ 8 (by kernel_rfl) (by kernel_rfl) (by kernel_rfl) (by kernel_rfl)) ?_
 intro W base args ds gs before hval hW _ hsz _
 exact M4 problemSells_laid problemSells_tys problemSells_read problemSells_res problemSells_ub rfl
  (fun ds h=>by
   have e:Try.f10.params.toList.length=3:=by kernel_rfl
   rw[e] at h
   match ds,h with
   | [d0,d1,d2],_=>exact ⟨rfl,rfl,rfl⟩)
  problemSells_contract hval hW hsz
theorem problemSells_holds:Rows.ProblemSellsSaid :=
 OpenClaim.holds_of_wide 10 Try.f10 rfl rfl rfl rfl rfl rfl rfl ⟨rfl,rfl,rfl,rfl,rfl⟩ rfl rfl rfl rfl rfl (by kernel_rfl) Try.func10 (by kernel_rfl)
  (of_decide_eq_true (by kernel_rfl)) (by unfold Func.isWrapper; first | (rw[if_pos (by decide +kernel)]; kernel_rfl) | (rw[if_neg (by decide +kernel)]; exact ⟨rfl,rfl⟩))
  (fun os started H enc _=>problemSells_lifted os started H enc)
#print axioms problemSells_holds
end Go.Proofs.Ytbmhibiljjnfiaa
