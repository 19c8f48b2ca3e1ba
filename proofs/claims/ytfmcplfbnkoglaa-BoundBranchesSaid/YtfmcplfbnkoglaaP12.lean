/-
  'The law BoundBranches answers true for every input' is proved here: no condition.
-/
import Derived.Test.YtfmcplfbnkoglaaP11
import Derived.Test.YtfmcplfbnkoglaaRows
set_option maxRecDepth 100000
set_option maxHeartbeats 4000000
namespace Go.Proofs.Ytfmcplfbnkoglaa
open Go Go.Am Go.RowKit Go.ChangeShapes Go.WideShapes Go.ChangeAt
theorem boundBranches_own:ownKnob Try.prog.godebug=none:=by kernel_rfl
theorem boundBranches_laid:laidOutB Try.prog=true:=by kernel_rfl
theorem boundBranches_ub:Try.prog.underlying va=some .bool:=by kernel_rfl
theorem boundBranches_tys:yx (gJ Try.prog 20) Try.f6.params.toList=some [.slice Z2]:=by kernel_rfl
theorem boundBranches_read:(Try.f6.params.toList.all fun t=>Try.prog.readableRec t&&decide (t<Try.prog.types.size))=true:=by kernel_rfl
theorem boundBranches_res:Try.f6.resultTypes=#[va]:=by kernel_rfl
theorem boundBranches_lifted (os:Os) (started:os.Started) (H:Type) (enc:TypeId × Value→H) :
  ReturnsInHanded {} Try.checked os 6 .any (Rows.boundBranchesSpec.pre6 enc Try.prog Try.f6 Rows.boundBranchesRow.domain false) (Rows.boundBranchesSpec.post enc Try.prog Try.f6 false true false false):=by
 refine returnsInHanded_of_change_sized (C:=Try.checked) boundBranches_own started (by kernel_rfl) Try.func6
  (ChangeSpec.witness6 (enc:=enc) (C:=Try.checked) false ⟨#[],#[.slice none 0 0],[]⟩ 8 (by kernel_rfl) (by kernel_rfl) (by kernel_rfl) (by kernel_rfl)) ?_
 intro W base args ds gs before hval hW _ hsz _
 exact Er boundBranches_laid boundBranches_tys boundBranches_read boundBranches_res boundBranches_ub rfl
  (fun ds h=>by
   have e:Try.f6.params.toList.length=1:=by kernel_rfl
   rw[e] at h
   match ds,h with
   | [d0],_=>exact ⟨rfl,rfl,rfl⟩)
  boundBranches_contract hval hW hsz
theorem boundBranches_holds:Rows.BoundBranchesSaid :=
 OpenClaim.holds_of_wide 6 Try.f6 rfl rfl rfl rfl rfl rfl rfl ⟨rfl,rfl,rfl,rfl,rfl⟩ rfl rfl rfl rfl rfl (by kernel_rfl) Try.func6 (by kernel_rfl)
  (of_decide_eq_true (by kernel_rfl)) (by unfold Func.isWrapper; first | (rw[if_pos (by decide +kernel)]; kernel_rfl) | (rw[if_neg (by decide +kernel)]; exact ⟨rfl,rfl⟩))
  (fun os started H enc _=>boundBranches_lifted os started H enc)
#print axioms boundBranches_holds
end Go.Proofs.Ytfmcplfbnkoglaa
