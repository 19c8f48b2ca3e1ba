import Derived.Test.YtbihcpgkonildaaAmD
import Derived.Test.YtbihcpgkonildaaS3
import Derived.Test.YtbihcpgkonildaaC
namespace Go.Proofs.Ytbihcpgkonildaa
open Go Go.Am

def ext09 (f : FuncId) (xs : List AV) : Option AV :=
  if f = F_law09_sets then (match xs with
    | [.val (.int .i64 m), .val (.int .i64 k)] => some (.tuple [.list 1 .plain (irows (upTo (min (setsN m) k.toNat))), bv true])
    | _ => none) else none
theorem ext09_ok : CallOk Try.prog ext09 := by
  intro f xs r h
  unfold ext09 at h
  split at h
  · rename_i hf
    subst hf
    split at h
    · cases h
      exact sets_sound _ _
    · cases h
  · cases h
theorem awake_sound : SoundCall Try.prog F_law09_awake [] (bv true) := .of_runE tab_ok ext09_ok 1000 100 (by kernel_rfl)
end Go.Proofs.Ytbihcpgkonildaa
