/-
  'The law CoalitionWithout answers true for every input' is proved here: no condition.
-/
import Derived.Test.YtpmaehfiifinhaaP8
import Derived.Test.YtpmaehfiifinhaaRows
set_option maxRecDepth 100000
set_option maxHeartbeats 4000000
namespace Go.Proofs.Ytpmaehfiifinhaa
open Go Go.Am Go.RowKit Go.ChangeShapes Go.WideShapes Go.ChangeAt
theorem coalitionWithout_own:ownKnob Try.prog.godebug=none:=by kernel_rfl
theorem coalitionWithout_laid:laidOutB Try.prog=true:=by kernel_rfl
theorem coalitionWithout_ub:Try.prog.underlying 4=some .bool:=by kernel_rfl
theorem coalitionWithout_tys:mapO (tyOf Try.prog 20) Try.f7.params.toList=some [tyPb,.int .u8]:=by kernel_rfl
theorem coalitionWithout_read:(Try.f7.params.toList.all fun t=>Try.prog.readableRec t&&decide (t<Try.prog.types.size))=true:=by kernel_rfl
theorem coalitionWithout_res:Try.f7.resultTypes=#[4]:=by kernel_rfl
theorem coalitionWithout_lifted (os:Os) (started:os.Started) (H:Type) (enc:TypeId × Value→H) :
  ReturnsInHanded {} Try.checked os 7 .any (Rows.coalitionWithoutSpec.pre6 enc Try.prog Try.f7 Rows.coalitionWithoutRow.domain false) (Rows.coalitionWithoutSpec.post enc Try.prog Try.f7 false true false false):=by
 refine returnsInHanded_of_change_sized (C:=Try.checked) coalitionWithout_own started (by kernel_rfl) Try.func7
  (ChangeSpec.witness6 (enc:=enc) (C:=Try.checked) false ⟨#[],#[.agg #[.int .i64 0,.int .i64 0,.int .i64 0,.int .i64 0,.int .i64 0,.int .i64 0,.int .i64 0,.int .i64 0,.int .i64 0,.int .i64 0,.int .i64 0,.int .i64 0,.int .i64 0,.int .i64 0,.int .i64 0,.int .i64 0,.int .i64 0,.int .i64 0,.slice none 0 0,.slice none 0 0],.int .u8 0],[]⟩ 8 (by kernel_rfl) (by kernel_rfl) (by kernel_rfl) (by kernel_rfl)) ?_
 intro W base args ds gs before hval hW _ hsz _
 exact law_calls coalitionWithout_laid coalitionWithout_tys coalitionWithout_read coalitionWithout_res coalitionWithout_ub rfl
  (fun ds h=>by
   have e:Try.f7.params.toList.length=2:=by kernel_rfl
   rw[e] at h
   match ds,h with
   | [d0,d1],_=>exact ⟨rfl,rfl,rfl⟩)
  coalitionWithout_contract hval hW hsz
theorem coalitionWithout_holds:Rows.CoalitionWithoutSaid :=
 OpenClaim.holds_of_wide 7 Try.f7 rfl rfl rfl rfl rfl rfl rfl ⟨rfl,rfl,rfl,rfl,rfl⟩ rfl rfl rfl rfl rfl (by kernel_rfl) Try.func7 (by kernel_rfl)
  (of_decide_eq_true (by kernel_rfl)) (by unfold Func.isWrapper; first | (rw[if_pos (by decide +kernel)]; kernel_rfl) | (rw[if_neg (by decide +kernel)]; exact ⟨rfl,rfl⟩))
  (fun os started H enc _=>coalitionWithout_lifted os started H enc)
#print axioms coalitionWithout_holds
end Go.Proofs.Ytpmaehfiifinhaa
