/-
  No cell of these rows narrows 'for every input' (looked for: loops, veiled, ifaces, maps, wideKeys, modest, calm, conditions, laid).
  DERIVED. THE GIVEN ROWS OF THIS SEAT. 5 by the template 'for every input the law returns true; each argument reads behind the call as it read before'; 0 by the template 'total and deterministic' (their statements: YtagicjnmpoonpaaTotals.lean).
  GIVEN WITH THE SEED: the statements are not yours to turn. If you find one false, say at which input.
  Laid BY PROGRAM, IN A SANDBOX (cutbox-rows.mjs): the forced cells as the released guide's own fill.sh prints them over the translation 3fc6106372475f76… (all of the seat's roots in one cut). By AI agents, Wed Nov 11 2026. No macro, syntax, notation, axiom, sorry.
-/
import Derived.Test.YtagicjnmpoonpaaChecked
import GoSem.Claim
import GoSem.ClaimJoined
import GoSem.ClaimMapViews
import Derived.JoinedTies
import Derived.KernelRfl
namespace Go.Proofs.Ytagicjnmpoonpaa
/- THE CELL 'sum', in the pinned program and in every row, IS THE sha256 OF THE DUMP (.gsa) THAT YtagicjnmpoonpaaProg.lean LOADS. Nothing in Lean hashes anything: it is a label: what it is worth is what the hold of that sum in a sandbox is worth. -/
noncomputable def Try.pinned : Pinned := { name := "ytagicjnmpoonpaa", sum := "3fc6106372475f769c2228bd106f8bb244d22a5b67922e6d8b474215151e41ea", checked := Try.checked }
namespace Rows
def none {H : Type} : Left H := { results := [], args := [] }

/-- 'saleroomlaw38.UndersellApplies': WHATEVER THE INPUT: true; the input reads as it did. -/
def undersellAppliesSpec : ChangeSpec := { name := "undersellApplies", fn := fun _ => fun
  | [d1, d2, d3, d4] => { results := [.lit (.bool true)], args := [d1, d2, d3, d4] }
  | _ => none }
def undersellAppliesRow : OpenClaim := { program := "ytagicjnmpoonpaa", sum := "3fc6106372475f769c2228bd106f8bb244d22a5b67922e6d8b474215151e41ea", func := "saleroom/saleroomlaw38.UndersellApplies", spec := "undersellApplies", apart := false }
def UndersellAppliesSaid : Prop := undersellAppliesRow.holds Try.pinned (OpenSpec.ofChange undersellAppliesSpec)

/-- ITS FALSE NEIGHBOUR: 'it returns false'. Refute it at one input. -/
def undersellAppliesWrong : ChangeSpec := { name := "undersellApplies", fn := fun _ => fun
  | [d1, d2, d3, d4] => { results := [.lit (.bool false)], args := [d1, d2, d3, d4] }
  | _ => none }
def UndersellAppliesWrongFalsely : Prop := undersellAppliesRow.holds Try.pinned (OpenSpec.ofChange undersellAppliesWrong)

/-- 'saleroomlaw38.UndersellUndersold': WHATEVER THE INPUT: true; the input reads as it did. -/
def undersellUndersoldSpec : ChangeSpec := { name := "undersellUndersold", fn := fun _ => fun
  | [d1, d2, d3] => { results := [.lit (.bool true)], args := [d1, d2, d3] }
  | _ => none }
def undersellUndersoldRow : OpenClaim := { program := "ytagicjnmpoonpaa", sum := "3fc6106372475f769c2228bd106f8bb244d22a5b67922e6d8b474215151e41ea", func := "saleroom/saleroomlaw38.UndersellUndersold", spec := "undersellUndersold", apart := false }
def UndersellUndersoldSaid : Prop := undersellUndersoldRow.holds Try.pinned (OpenSpec.ofChange undersellUndersoldSpec)

/-- ITS FALSE NEIGHBOUR: 'it returns false'. Refute it at one input. -/
def undersellUndersoldWrong : ChangeSpec := { name := "undersellUndersold", fn := fun _ => fun
  | [d1, d2, d3] => { results := [.lit (.bool false)], args := [d1, d2, d3] }
  | _ => none }
def UndersellUndersoldWrongFalsely : Prop := undersellUndersoldRow.holds Try.pinned (OpenSpec.ofChange undersellUndersoldWrong)

/-- 'saleroomlaw38.UndersellKeeps': WHATEVER THE INPUT: true; the input reads as it did. -/
def undersellKeepsSpec : ChangeSpec := { name := "undersellKeeps", fn := fun _ => fun
  | [d1, d2, d3, d4] => { results := [.lit (.bool true)], args := [d1, d2, d3, d4] }
  | _ => none }
def undersellKeepsRow : OpenClaim := { program := "ytagicjnmpoonpaa", sum := "3fc6106372475f769c2228bd106f8bb244d22a5b67922e6d8b474215151e41ea", func := "saleroom/saleroomlaw38.UndersellKeeps", spec := "undersellKeeps", apart := false }
def UndersellKeepsSaid : Prop := undersellKeepsRow.holds Try.pinned (OpenSpec.ofChange undersellKeepsSpec)

/-- ITS FALSE NEIGHBOUR: 'it returns false'. Refute it at one input. -/
def undersellKeepsWrong : ChangeSpec := { name := "undersellKeeps", fn := fun _ => fun
  | [d1, d2, d3, d4] => { results := [.lit (.bool false)], args := [d1, d2, d3, d4] }
  | _ => none }
def UndersellKeepsWrongFalsely : Prop := undersellKeepsRow.holds Try.pinned (OpenSpec.ofChange undersellKeepsWrong)

/-- 'saleroomlaw38.UndersellBetween': WHATEVER THE INPUT: true; the input reads as it did. -/
def undersellBetweenSpec : ChangeSpec := { name := "undersellBetween", fn := fun _ => fun
  | [d1, d2, d3, d4] => { results := [.lit (.bool true)], args := [d1, d2, d3, d4] }
  | _ => none }
def undersellBetweenRow : OpenClaim := { program := "ytagicjnmpoonpaa", sum := "3fc6106372475f769c2228bd106f8bb244d22a5b67922e6d8b474215151e41ea", func := "saleroom/saleroomlaw38.UndersellBetween", spec := "undersellBetween", apart := false }
def UndersellBetweenSaid : Prop := undersellBetweenRow.holds Try.pinned (OpenSpec.ofChange undersellBetweenSpec)

/-- ITS FALSE NEIGHBOUR: 'it returns false'. Refute it at one input. -/
def undersellBetweenWrong : ChangeSpec := { name := "undersellBetween", fn := fun _ => fun
  | [d1, d2, d3, d4] => { results := [.lit (.bool false)], args := [d1, d2, d3, d4] }
  | _ => none }
def UndersellBetweenWrongFalsely : Prop := undersellBetweenRow.holds Try.pinned (OpenSpec.ofChange undersellBetweenWrong)

/-- 'saleroomlaw38.UndersellWhole': WHATEVER THE INPUT: true; the input reads as it did. -/
def undersellWholeSpec : ChangeSpec := { name := "undersellWhole", fn := fun _ => fun
  | [d1, d2, d3, d4] => { results := [.lit (.bool true)], args := [d1, d2, d3, d4] }
  | _ => none }
def undersellWholeRow : OpenClaim := { program := "ytagicjnmpoonpaa", sum := "3fc6106372475f769c2228bd106f8bb244d22a5b67922e6d8b474215151e41ea", func := "saleroom/saleroomlaw38.UndersellWhole", spec := "undersellWhole", apart := false }
def UndersellWholeSaid : Prop := undersellWholeRow.holds Try.pinned (OpenSpec.ofChange undersellWholeSpec)

/-- ITS FALSE NEIGHBOUR: 'it returns false'. Refute it at one input. -/
def undersellWholeWrong : ChangeSpec := { name := "undersellWhole", fn := fun _ => fun
  | [d1, d2, d3, d4] => { results := [.lit (.bool false)], args := [d1, d2, d3, d4] }
  | _ => none }
def UndersellWholeWrongFalsely : Prop := undersellWholeRow.holds Try.pinned (OpenSpec.ofChange undersellWholeWrong)

/- THE SECOND FORM. 'bulk': how many values and letters a reading holds, each counted each time it is reached (what is shared counts as often as it is met; a slice's spare places count too). A statement '..UptoSaid' is the law's where the arguments, and the package variables that the reading takes, are together of bulk at most 1048576: NARROWER than '..Said'. Prove '..Said' where nothing that the law and all that it calls make is longer than what came in: it says more and counts as full. Else prove '..UptoSaid'. A law counts once. -/
mutual
def uptoBulk {H : Type} : DataW H → Nat
  | .lit (.string bytes) => bytes.length + 1
  | .lit _ => 1
  | .nil => 1
  | .ptr d => uptoBulk d + 1
  | .slice elems spare => uptoBulkAll elems + uptoBulkAll spare + 1
  | .agg parts => uptoBulkAll parts + 1
  | .iface _ d => uptoBulk d + 1
  | .map entries => uptoBulkEntries entries + 1
  | .held _ => 1
def uptoBulkAll {H : Type} : List (DataW H) → Nat
  | [] => 0
  | d :: r => uptoBulk d + uptoBulkAll r
def uptoBulkEntries {H : Type} : List (Lit × DataW H) → Nat
  | [] => 0
  | x :: r => uptoBulkEntry x + uptoBulkEntries r
def uptoBulkEntry {H : Type} : Lit × DataW H → Nat
  | (.string bytes, d) => bytes.length + uptoBulk d + 1
  | (_, d) => uptoBulk d + 1
 end
def uptoSmall : (H : Type) → List (DataW H) → Bool := fun _ ds => decide (uptoBulkAll ds ≤ 1048576)
def OpenSpec.upto (s : _root_.Go.ChangeSpec) : _root_.Go.OpenSpec := { _root_.Go.OpenSpec.ofChange s with cond := some uptoSmall }

/-- 'saleroomlaw38.UndersellApplies', WHERE WHAT IT READS IS OF BULK AT MOST 1048576: true; the input reads as it did. -/
def undersellAppliesUptoRow : OpenClaim := { program := "ytagicjnmpoonpaa", sum := "3fc6106372475f769c2228bd106f8bb244d22a5b67922e6d8b474215151e41ea", func := "saleroom/saleroomlaw38.UndersellApplies", spec := "undersellApplies", apart := false, narrowed := true }
def UndersellAppliesUptoSaid : Prop := undersellAppliesUptoRow.holds Try.pinned (OpenSpec.upto undersellAppliesSpec)

/-- 'saleroomlaw38.UndersellUndersold', WHERE WHAT IT READS IS OF BULK AT MOST 1048576: true; the input reads as it did. -/
def undersellUndersoldUptoRow : OpenClaim := { program := "ytagicjnmpoonpaa", sum := "3fc6106372475f769c2228bd106f8bb244d22a5b67922e6d8b474215151e41ea", func := "saleroom/saleroomlaw38.UndersellUndersold", spec := "undersellUndersold", apart := false, narrowed := true }
def UndersellUndersoldUptoSaid : Prop := undersellUndersoldUptoRow.holds Try.pinned (OpenSpec.upto undersellUndersoldSpec)

/-- 'saleroomlaw38.UndersellKeeps', WHERE WHAT IT READS IS OF BULK AT MOST 1048576: true; the input reads as it did. -/
def undersellKeepsUptoRow : OpenClaim := { program := "ytagicjnmpoonpaa", sum := "3fc6106372475f769c2228bd106f8bb244d22a5b67922e6d8b474215151e41ea", func := "saleroom/saleroomlaw38.UndersellKeeps", spec := "undersellKeeps", apart := false, narrowed := true }
def UndersellKeepsUptoSaid : Prop := undersellKeepsUptoRow.holds Try.pinned (OpenSpec.upto undersellKeepsSpec)

/-- 'saleroomlaw38.UndersellBetween', WHERE WHAT IT READS IS OF BULK AT MOST 1048576: true; the input reads as it did. -/
def undersellBetweenUptoRow : OpenClaim := { program := "ytagicjnmpoonpaa", sum := "3fc6106372475f769c2228bd106f8bb244d22a5b67922e6d8b474215151e41ea", func := "saleroom/saleroomlaw38.UndersellBetween", spec := "undersellBetween", apart := false, narrowed := true }
def UndersellBetweenUptoSaid : Prop := undersellBetweenUptoRow.holds Try.pinned (OpenSpec.upto undersellBetweenSpec)

/-- 'saleroomlaw38.UndersellWhole', WHERE WHAT IT READS IS OF BULK AT MOST 1048576: true; the input reads as it did. -/
def undersellWholeUptoRow : OpenClaim := { program := "ytagicjnmpoonpaa", sum := "3fc6106372475f769c2228bd106f8bb244d22a5b67922e6d8b474215151e41ea", func := "saleroom/saleroomlaw38.UndersellWhole", spec := "undersellWhole", apart := false, narrowed := true }
def UndersellWholeUptoSaid : Prop := undersellWholeUptoRow.holds Try.pinned (OpenSpec.upto undersellWholeSpec)

end Rows
end Go.Proofs.Ytagicjnmpoonpaa
