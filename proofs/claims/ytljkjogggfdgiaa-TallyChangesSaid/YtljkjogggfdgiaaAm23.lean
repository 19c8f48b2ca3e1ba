/-
  The abstract machine, part 23: how a function's contract is shown.
-/
import Derived.Test.YtljkjogggfdgiaaAm22
namespace Go.Am
open Go.RowKit

/-- A function's abstract code, its results, the number of its slots. -/
def transl (P : Program) (f : FuncId) : Option (ACode × List ResA × Nat) :=
  match P.funcs[f]? with
  | some fn => match fn.body with
    | some c => match trCode P fn.ntmps c, mapO (trRes P) fn.results.toList with
      | some a, some r => some (a, r, fn.ntmps)
      | _, _ => none
    | none => none
  | none => none

theorem sound {P : Program} {f : FuncId} {ac : ACode} {ras : List ResA} {N : Nat} {args : List AV} {r : AV} (ht : transl P f = some (bare ac, ras, N)) (hn : args.length ≤ N)
    (h : awp P ac { env := initE 0 args, sto := [] } fun e s => (e = .normal ∨ e = .ret) ∧ resOf ras s = some r) : SoundCall P f args r := by
  unfold transl at ht
  split at ht
  · rename_i fn hf
    split at ht
    · rename_i c hb
      split at ht
      · rename_i a r' ha hr
        simp only [Option.some.injEq, Prod.mk.injEq] at ht
        obtain ⟨rfl, rfl, rfl⟩ := ht
        exact sound_fn hf hb ha hr hn h
      · cases ht
    · cases ht
  · cases ht

end Go.Am
