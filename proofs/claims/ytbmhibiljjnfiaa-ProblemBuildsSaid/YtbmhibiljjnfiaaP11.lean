/-
  'The law ProblemBuilds answers true for every input' is proved here: no condition.
-/
import Derived.Test.YtbmhibiljjnfiaaP10
import Derived.Test.YtbmhibiljjnfiaaRows
set_option maxRecDepth 100000
set_option maxHeartbeats 4000000
namespace Go.Proofs.Ytbmhibiljjnfiaa
open Go Go.Am Go.RowKit Go.ChangeShapes Go.WideShapes Go.ChangeAt
theorem problemBuilds_own:ownKnob Try.prog.godebug=none:=by kernel_rfl
theorem problemBuilds_laid:laidOutB Try.prog=true:=by kernel_rfl
theorem problemBuilds_ub:Try.prog.underlying cQ=some .bool:=by kernel_rfl
theorem problemBuilds_tys:yA (gF Try.prog 20) Try.f4.params.toList=some [Ff,.slice T9]:=by kernel_rfl
theorem problemBuilds_read:(Try.f4.params.toList.all fun t=>Try.prog.readableRec t&&decide (t<Try.prog.types.size))=true:=by kernel_rfl
theorem problemBuilds_res:Try.f4.resultTypes=#[cQ]:=by kernel_rfl
theorem problemBuilds_lifted (os:Os) (started:os.Started) (H:Type) (enc:TypeId × Value→H) :
  ReturnsInHanded {} Try.checked os 4 .any (Rows.problemBuildsSpec.pre6 enc Try.prog Try.f4 Rows.problemBuildsRow.domain false) (Rows.problemBuildsSpec.post enc Try.prog Try.f4 false true false false):=by
 refine returnsInHanded_of_change_sized (C:=Try.checked) problemBuilds_own started (by kernel_rfl) Try.func4
  (ChangeSpec.witness6 (enc:=enc) (C:=Try.checked) false ⟨#[],#[.agg #[.slice none 0 0,.slice none 0 0,.slice none 0 0,.slice none 0 0],.slice none 0 0],[]⟩ 8 (by kernel_rfl) (by kernel_rfl) (by kernel_rfl) (by kernel_rfl)) ?_
 intro W base args ds gs before hval hW _ hsz _
 exact M4 problemBuilds_laid problemBuilds_tys problemBuilds_read problemBuilds_res problemBuilds_ub rfl
  (fun ds h=>by
   have e:Try.f4.params.toList.length=2:=by kernel_rfl
   rw[e] at h
   match ds,h with
   | [d0,d1],_=>exact ⟨rfl,rfl,rfl⟩)
  problemBuilds_contract hval hW hsz
theorem problemBuilds_holds:Rows.ProblemBuildsSaid :=
 OpenClaim.holds_of_wide 4 Try.f4 rfl rfl rfl rfl rfl rfl rfl ⟨rfl,rfl,rfl,rfl,rfl⟩ rfl rfl rfl rfl rfl (by kernel_rfl) Try.func4 (by kernel_rfl)
  (of_decide_eq_true (by kernel_rfl)) (by unfold Func.isWrapper; first | (rw[if_pos (by decide +kernel)]; kernel_rfl) | (rw[if_neg (by decide +kernel)]; exact ⟨rfl,rfl⟩))
  (fun os started H enc _=>problemBuilds_lifted os started H enc)
#print axioms problemBuilds_holds
end Go.Proofs.Ytbmhibiljjnfiaa
