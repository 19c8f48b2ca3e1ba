/-
  The abstract machine, part 23: how a function's contract is shown.
-/
import Derived.Test.YtljkjogggfdgiaaAm22
namespace Go.Am
open Go.RowKit

/-- A function's abstract code, its results, the number of its slots. -/
def transl (P : Program) (f : FuncId) : Option (ACode × List ResA × Nat) :=
  match P.funcs[f]? with
  | some fn => match fn.body with
    | some c => match trCode P fn.ntmps c, mapO (trRes P) fn.results.toList with
      | some a, some r => some (a, r, fn.ntmps)
      | _, _ => none
    | none => none
  | none => none

theorem soundW {P : Program} {f : FuncId} {ac : ACode} {ras : List ResA} {N : Nat} {args : List AV} {r : AV} {K : Exit → St → Prop} (hK0 : ∀ e s, K e s → (e = .normal ∨ e = .ret) ∧ ∃ r0, resOf ras s = some r0 ∧ AV.imp r0 r) (ht : transl P f = some (bare ac, ras, N)) (hn : args.length ≤ N)
    (h : awp P ac { env := initE 0 args, sto := [] } K) : SoundCall P f args r := by
  unfold transl at ht
  split at ht
  · rename_i fn hf
    split at ht
    · rename_i c hb
      split at ht
      · rename_i a r' ha hr
        simp only [Option.some.injEq, Prod.mk.injEq] at ht
        obtain ⟨rfl, rfl, rfl⟩ := ht
        exact sound_fn hK0 hf hb ha hr hn h
      · cases ht
    · cases ht
  · cases ht

theorem sound {P : Program} {f : FuncId} {ac : ACode} {ras : List ResA} {N : Nat} {args : List AV} {r : AV} (ht : transl P f = some (bare ac, ras, N)) (hn : args.length ≤ N)
    (h : awp P ac { env := initE 0 args, sto := [] } fun e s => (e = .normal ∨ e = .ret) ∧ resOf ras s = some r) : SoundCall P f args r :=
  soundW (fun _ _ h => ⟨h.1, r, h.2, AV.imp.refl⟩) ht hn h

/-- A call that may write what its caller can write. The callee names what it makes from 'B' on. -/
theorem soundI {P : Program} {f : FuncId} {ac : ACode} {ras : List ResA} {N : Nat} {args : List AV} {s : St} {K : AV → St → Prop} (B : Nat) (ht : transl P f = some (bare ac, ras, N)) (hn : args.length ≤ N)
    (h : awp P ac { env := initE 0 args, sto := s.sto, out := s.env :: s.out, base := B } fun e s' => (e = .normal ∨ e = .ret) ∧ ∃ xs e0 o0, mapO (rawA s') ras = some xs ∧ s'.out = e0 :: o0 ∧ K (tup xs) { env := e0, sto := s'.sto, out := o0, base := s.base }) : CallI P f args s K := by
  unfold transl at ht
  split at ht
  · rename_i fn hf
    split at ht
    · rename_i c hb
      split at ht
      · rename_i a r' ha hr
        simp only [Option.some.injEq, Prod.mk.injEq] at ht
        obtain ⟨rfl, rfl, rfl⟩ := ht
        exact callI_fn B hf hb ha hr hn h
      · cases ht
    · cases ht
  · cases ht

end Go.Am
