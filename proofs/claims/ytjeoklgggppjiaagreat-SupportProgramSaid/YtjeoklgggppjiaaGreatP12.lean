/-
  'The law SupportProgram answers true for every input' is proved here: no condition.
-/
import Derived.Test.YtjeoklgggppjiaaGreatP11
import Derived.Test.YtjeoklgggppjiaaGreatRows
set_option maxRecDepth 100000
set_option maxHeartbeats 4000000
namespace Go.Proofs.YtjeoklgggppjiaaGreat
open Go Go.Am Go.RowKit Go.ChangeShapes Go.WideShapes Go.ChangeAt
theorem supportProgram_own:ownKnob Tryz.prog.godebug=none:=by kernel_rfl
theorem supportProgram_laid:laidOutB Tryz.prog=true:=by kernel_rfl
theorem supportProgram_ub:Tryz.prog.underlying 4=some .bool:=by kernel_rfl
theorem supportProgram_tys:yv (fK Tryz.prog 20) Tryz.f3.params.toList=some [Lw,abK]:=by kernel_rfl
theorem supportProgram_read:(Tryz.f3.params.toList.all fun t=>Tryz.prog.readableRec t&&decide (t<Tryz.prog.types.size))=true:=by kernel_rfl
theorem supportProgram_res:Tryz.f3.resultTypes=#[4]:=by kernel_rfl
theorem supportProgram_lifted (os:Os) (started:os.Started) (H:Type) (enc:TypeId × Value→H) :
  ReturnsInHanded {} Tryz.checked os 3 .any (Rows.supportProgramSpec.pre6 enc Tryz.prog Tryz.f3 Rows.supportProgramRow.domain false) (Rows.supportProgramSpec.post enc Tryz.prog Tryz.f3 false true false false):=by
 refine returnsInHanded_of_change_sized (C:=Tryz.checked) supportProgram_own started (by kernel_rfl) Tryz.func3
  (ChangeSpec.witness6 (enc:=enc) (C:=Tryz.checked) false ⟨#[],#[.agg #[.int .i64 0,.int .i64 0,.int .i64 0,.int .i64 0,.int .i64 0,.int .i64 0,.int .i64 0,.int .i64 0,.int .i64 0,.int .i64 0,.int .i64 0,.int .i64 0,.int .i64 0,.int .i64 0,.int .i64 0,.int .i64 0,.int .i64 0,.int .i64 0,.slice none 0 0,.slice none 0 0],.agg #[.slice none 0 0,.int .i64 0]],[]⟩ 8 (by kernel_rfl) (by kernel_rfl) (by kernel_rfl) (by kernel_rfl)) ?_
 intro W base args ds gs before hval hW _ hsz _
 exact Dn supportProgram_laid supportProgram_tys supportProgram_read supportProgram_res supportProgram_ub rfl
  (fun ds h=>by
   have e:Tryz.f3.params.toList.length=2:=by kernel_rfl
   rw[e] at h
   match ds,h with
   | [d0,d1],_=>exact ⟨rfl,rfl,rfl⟩)
  supportProgram_contract hval hW hsz
theorem supportProgram_holds:Rows.SupportProgramSaid :=
 OpenClaim.holds_of_wide 3 Tryz.f3 rfl rfl rfl rfl rfl rfl rfl ⟨rfl,rfl,rfl,rfl,rfl⟩ rfl rfl rfl rfl rfl (by kernel_rfl) Tryz.func3 (by kernel_rfl)
  (of_decide_eq_true (by kernel_rfl)) (by unfold Func.isWrapper; first | (rw[if_pos (by decide +kernel)]; kernel_rfl) | (rw[if_neg (by decide +kernel)]; exact ⟨rfl,rfl⟩))
  (fun os started H enc _=>supportProgram_lifted os started H enc)
#print axioms supportProgram_holds
end Go.Proofs.YtjeoklgggppjiaaGreat
