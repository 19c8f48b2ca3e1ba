/-
  'The law CoalitionWorth answers true for every input' is proved here: no condition.
-/
import Derived.Test.YtpmaehfiifinhaaP8
import Derived.Test.YtpmaehfiifinhaaRows
set_option maxRecDepth 100000
set_option maxHeartbeats 4000000
namespace Go.Proofs.Ytpmaehfiifinhaa
open Go Go.Am Go.RowKit Go.ChangeShapes Go.WideShapes Go.ChangeAt
theorem coalitionWorth_own:ownKnob Try.prog.godebug=none:=by kernel_rfl
theorem coalitionWorth_laid:laidOutB Try.prog=true:=by kernel_rfl
theorem coalitionWorth_ub:Try.prog.underlying 4=some .bool:=by kernel_rfl
theorem coalitionWorth_tys:mapO (tyOf Try.prog 20) Try.f3.params.toList=some [tyPb,.int .i64]:=by kernel_rfl
theorem coalitionWorth_read:(Try.f3.params.toList.all fun t=>Try.prog.readableRec t&&decide (t<Try.prog.types.size))=true:=by kernel_rfl
theorem coalitionWorth_res:Try.f3.resultTypes=#[4]:=by kernel_rfl
theorem coalitionWorth_lifted (os:Os) (started:os.Started) (H:Type) (enc:TypeId × Value→H) :
  ReturnsInHanded {} Try.checked os 3 .any (Rows.coalitionWorthSpec.pre6 enc Try.prog Try.f3 Rows.coalitionWorthRow.domain false) (Rows.coalitionWorthSpec.post enc Try.prog Try.f3 false true false false):=by
 refine returnsInHanded_of_change_sized (C:=Try.checked) coalitionWorth_own started (by kernel_rfl) Try.func3
  (ChangeSpec.witness6 (enc:=enc) (C:=Try.checked) false ⟨#[],#[.agg #[.int .i64 0,.int .i64 0,.int .i64 0,.int .i64 0,.int .i64 0,.int .i64 0,.int .i64 0,.int .i64 0,.int .i64 0,.int .i64 0,.int .i64 0,.int .i64 0,.int .i64 0,.int .i64 0,.int .i64 0,.int .i64 0,.int .i64 0,.int .i64 0,.slice none 0 0,.slice none 0 0],.int .i64 0],[]⟩ 8 (by kernel_rfl) (by kernel_rfl) (by kernel_rfl) (by kernel_rfl)) ?_
 intro W base args ds gs before hval hW _ hsz _
 exact law_calls coalitionWorth_laid coalitionWorth_tys coalitionWorth_read coalitionWorth_res coalitionWorth_ub rfl
  (fun ds h=>by
   have e:Try.f3.params.toList.length=2:=by kernel_rfl
   rw[e] at h
   match ds,h with
   | [d0,d1],_=>exact ⟨rfl,rfl,rfl⟩)
  coalitionWorth_contract hval hW hsz
theorem coalitionWorth_holds:Rows.CoalitionWorthSaid :=
 OpenClaim.holds_of_wide 3 Try.f3 rfl rfl rfl rfl rfl rfl rfl ⟨rfl,rfl,rfl,rfl,rfl⟩ rfl rfl rfl rfl rfl (by kernel_rfl) Try.func3 (by kernel_rfl)
  (of_decide_eq_true (by kernel_rfl)) (by unfold Func.isWrapper; first | (rw[if_pos (by decide +kernel)]; kernel_rfl) | (rw[if_neg (by decide +kernel)]; exact ⟨rfl,rfl⟩))
  (fun os started H enc _=>coalitionWorth_lifted os started H enc)
#print axioms coalitionWorth_holds
end Go.Proofs.Ytpmaehfiifinhaa
