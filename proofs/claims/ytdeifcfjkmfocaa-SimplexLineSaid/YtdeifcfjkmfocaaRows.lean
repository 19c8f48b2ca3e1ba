/-
  No cell of these rows narrows 'for every input' (looked for: loops, veiled, ifaces, maps, wideKeys, modest, calm, conditions, laid).
  DERIVED. THE GIVEN ROWS OF THIS SEAT. 5 by the template 'for every input the law returns true; each argument reads behind the call as it read before'; 0 by the template 'total and deterministic' (their statements: YtdeifcfjkmfocaaTotals.lean).
  GIVEN WITH THE SEED: the statements are not yours to turn. If you find one false, say at which input.
  Laid BY PROGRAM, IN A SANDBOX (cutbox-rows.mjs): the forced cells as the released guide's own fill.sh prints them over the translation d09b0bdb07bbabea… (all of the seat's roots in one cut). By AI agents, Wed Nov 11 2026. No macro, syntax, notation, axiom, sorry.
-/
import Derived.Test.YtdeifcfjkmfocaaChecked
import GoSem.Claim
import GoSem.ClaimJoined
import GoSem.ClaimMapViews
import Derived.JoinedTies
import Derived.KernelRfl
namespace Go.Proofs.Ytdeifcfjkmfocaa
/- THE CELL 'sum', in the pinned program and in every row, IS THE sha256 OF THE DUMP (.gsa) THAT YtdeifcfjkmfocaaProg.lean LOADS. Nothing in Lean hashes anything: it is a label: what it is worth is what the hold of that sum in a sandbox is worth. -/
noncomputable def Try.pinned : Pinned := { name := "ytdeifcfjkmfocaa", sum := "d09b0bdb07bbabeaa5a5f0ab30308a70125da98778318c6762d34fbdb066571f", checked := Try.checked }
namespace Rows
def none {H : Type} : Left H := { results := [], args := [] }

/-- 'saleroomlaw18.SimplexChecks': WHATEVER THE INPUT: true; the input reads as it did. -/
def simplexChecksSpec : ChangeSpec := { name := "simplexChecks", fn := fun _ => fun
  | [d] => { results := [.lit (.bool true)], args := [d] }
  | _ => none }
def simplexChecksRow : OpenClaim := { program := "ytdeifcfjkmfocaa", sum := "d09b0bdb07bbabeaa5a5f0ab30308a70125da98778318c6762d34fbdb066571f", func := "saleroom/saleroomlaw18.SimplexChecks", spec := "simplexChecks", apart := false }
def SimplexChecksSaid : Prop := simplexChecksRow.holds Try.pinned (OpenSpec.ofChange simplexChecksSpec)

/-- ITS FALSE NEIGHBOUR: 'it returns false'. Refute it at one input. -/
def simplexChecksWrong : ChangeSpec := { name := "simplexChecks", fn := fun _ => fun
  | [d] => { results := [.lit (.bool false)], args := [d] }
  | _ => none }
def SimplexChecksWrongFalsely : Prop := simplexChecksRow.holds Try.pinned (OpenSpec.ofChange simplexChecksWrong)

/-- 'saleroomlaw18.SimplexProves': WHATEVER THE INPUT: true; the input reads as it did. -/
def simplexProvesSpec : ChangeSpec := { name := "simplexProves", fn := fun _ => fun
  | [d] => { results := [.lit (.bool true)], args := [d] }
  | _ => none }
def simplexProvesRow : OpenClaim := { program := "ytdeifcfjkmfocaa", sum := "d09b0bdb07bbabeaa5a5f0ab30308a70125da98778318c6762d34fbdb066571f", func := "saleroom/saleroomlaw18.SimplexProves", spec := "simplexProves", apart := false }
def SimplexProvesSaid : Prop := simplexProvesRow.holds Try.pinned (OpenSpec.ofChange simplexProvesSpec)

/-- ITS FALSE NEIGHBOUR: 'it returns false'. Refute it at one input. -/
def simplexProvesWrong : ChangeSpec := { name := "simplexProves", fn := fun _ => fun
  | [d] => { results := [.lit (.bool false)], args := [d] }
  | _ => none }
def SimplexProvesWrongFalsely : Prop := simplexProvesRow.holds Try.pinned (OpenSpec.ofChange simplexProvesWrong)

/-- 'saleroomlaw18.SimplexDuality': WHATEVER THE INPUT: true; the input reads as it did. -/
def simplexDualitySpec : ChangeSpec := { name := "simplexDuality", fn := fun _ => fun
  | [d] => { results := [.lit (.bool true)], args := [d] }
  | _ => none }
def simplexDualityRow : OpenClaim := { program := "ytdeifcfjkmfocaa", sum := "d09b0bdb07bbabeaa5a5f0ab30308a70125da98778318c6762d34fbdb066571f", func := "saleroom/saleroomlaw18.SimplexDuality", spec := "simplexDuality", apart := false }
def SimplexDualitySaid : Prop := simplexDualityRow.holds Try.pinned (OpenSpec.ofChange simplexDualitySpec)

/-- ITS FALSE NEIGHBOUR: 'it returns false'. Refute it at one input. -/
def simplexDualityWrong : ChangeSpec := { name := "simplexDuality", fn := fun _ => fun
  | [d] => { results := [.lit (.bool false)], args := [d] }
  | _ => none }
def SimplexDualityWrongFalsely : Prop := simplexDualityRow.holds Try.pinned (OpenSpec.ofChange simplexDualityWrong)

/-- 'saleroomlaw18.SimplexRows': WHATEVER THE INPUT: true; the input reads as it did. -/
def simplexRowsSpec : ChangeSpec := { name := "simplexRows", fn := fun _ => fun
  | [d1, d2] => { results := [.lit (.bool true)], args := [d1, d2] }
  | _ => none }
def simplexRowsRow : OpenClaim := { program := "ytdeifcfjkmfocaa", sum := "d09b0bdb07bbabeaa5a5f0ab30308a70125da98778318c6762d34fbdb066571f", func := "saleroom/saleroomlaw18.SimplexRows", spec := "simplexRows", apart := false }
def SimplexRowsSaid : Prop := simplexRowsRow.holds Try.pinned (OpenSpec.ofChange simplexRowsSpec)

/-- ITS FALSE NEIGHBOUR: 'it returns false'. Refute it at one input. -/
def simplexRowsWrong : ChangeSpec := { name := "simplexRows", fn := fun _ => fun
  | [d1, d2] => { results := [.lit (.bool false)], args := [d1, d2] }
  | _ => none }
def SimplexRowsWrongFalsely : Prop := simplexRowsRow.holds Try.pinned (OpenSpec.ofChange simplexRowsWrong)

/-- 'saleroomlaw18.SimplexLine': WHATEVER THE INPUT: true; the input reads as it did. -/
def simplexLineSpec : ChangeSpec := { name := "simplexLine", fn := fun _ => fun
  | [d1, d2, d3] => { results := [.lit (.bool true)], args := [d1, d2, d3] }
  | _ => none }
def simplexLineRow : OpenClaim := { program := "ytdeifcfjkmfocaa", sum := "d09b0bdb07bbabeaa5a5f0ab30308a70125da98778318c6762d34fbdb066571f", func := "saleroom/saleroomlaw18.SimplexLine", spec := "simplexLine", apart := false }
def SimplexLineSaid : Prop := simplexLineRow.holds Try.pinned (OpenSpec.ofChange simplexLineSpec)

/-- ITS FALSE NEIGHBOUR: 'it returns false'. Refute it at one input. -/
def simplexLineWrong : ChangeSpec := { name := "simplexLine", fn := fun _ => fun
  | [d1, d2, d3] => { results := [.lit (.bool false)], args := [d1, d2, d3] }
  | _ => none }
def SimplexLineWrongFalsely : Prop := simplexLineRow.holds Try.pinned (OpenSpec.ofChange simplexLineWrong)

/- THE SECOND FORM. 'bulk': how many values and letters a reading holds, each counted each time it is reached (what is shared counts as often as it is met; a slice's spare places count too). A statement '..UptoSaid' is the law's where the arguments, and the package variables that the reading takes, are together of bulk at most 1048576: NARROWER than '..Said'. Prove '..Said' where nothing that the law and all that it calls make is longer than what came in: it says more and counts as full. Else prove '..UptoSaid'. A law counts once. -/
mutual
def uptoBulk {H : Type} : DataW H → Nat
  | .lit (.string bytes) => bytes.length + 1
  | .lit _ => 1
  | .nil => 1
  | .ptr d => uptoBulk d + 1
  | .slice elems spare => uptoBulkAll elems + uptoBulkAll spare + 1
  | .agg parts => uptoBulkAll parts + 1
  | .iface _ d => uptoBulk d + 1
  | .map entries => uptoBulkEntries entries + 1
  | .held _ => 1
def uptoBulkAll {H : Type} : List (DataW H) → Nat
  | [] => 0
  | d :: r => uptoBulk d + uptoBulkAll r
def uptoBulkEntries {H : Type} : List (Lit × DataW H) → Nat
  | [] => 0
  | x :: r => uptoBulkEntry x + uptoBulkEntries r
def uptoBulkEntry {H : Type} : Lit × DataW H → Nat
  | (.string bytes, d) => bytes.length + uptoBulk d + 1
  | (_, d) => uptoBulk d + 1
 end
def uptoSmall : (H : Type) → List (DataW H) → Bool := fun _ ds => decide (uptoBulkAll ds ≤ 1048576)
def OpenSpec.upto (s : _root_.Go.ChangeSpec) : _root_.Go.OpenSpec := { _root_.Go.OpenSpec.ofChange s with cond := some uptoSmall }

/-- 'saleroomlaw18.SimplexChecks', WHERE WHAT IT READS IS OF BULK AT MOST 1048576: true; the input reads as it did. -/
def simplexChecksUptoRow : OpenClaim := { program := "ytdeifcfjkmfocaa", sum := "d09b0bdb07bbabeaa5a5f0ab30308a70125da98778318c6762d34fbdb066571f", func := "saleroom/saleroomlaw18.SimplexChecks", spec := "simplexChecks", apart := false, narrowed := true }
def SimplexChecksUptoSaid : Prop := simplexChecksUptoRow.holds Try.pinned (OpenSpec.upto simplexChecksSpec)

/-- 'saleroomlaw18.SimplexProves', WHERE WHAT IT READS IS OF BULK AT MOST 1048576: true; the input reads as it did. -/
def simplexProvesUptoRow : OpenClaim := { program := "ytdeifcfjkmfocaa", sum := "d09b0bdb07bbabeaa5a5f0ab30308a70125da98778318c6762d34fbdb066571f", func := "saleroom/saleroomlaw18.SimplexProves", spec := "simplexProves", apart := false, narrowed := true }
def SimplexProvesUptoSaid : Prop := simplexProvesUptoRow.holds Try.pinned (OpenSpec.upto simplexProvesSpec)

/-- 'saleroomlaw18.SimplexDuality', WHERE WHAT IT READS IS OF BULK AT MOST 1048576: true; the input reads as it did. -/
def simplexDualityUptoRow : OpenClaim := { program := "ytdeifcfjkmfocaa", sum := "d09b0bdb07bbabeaa5a5f0ab30308a70125da98778318c6762d34fbdb066571f", func := "saleroom/saleroomlaw18.SimplexDuality", spec := "simplexDuality", apart := false, narrowed := true }
def SimplexDualityUptoSaid : Prop := simplexDualityUptoRow.holds Try.pinned (OpenSpec.upto simplexDualitySpec)

/-- 'saleroomlaw18.SimplexRows', WHERE WHAT IT READS IS OF BULK AT MOST 1048576: true; the input reads as it did. -/
def simplexRowsUptoRow : OpenClaim := { program := "ytdeifcfjkmfocaa", sum := "d09b0bdb07bbabeaa5a5f0ab30308a70125da98778318c6762d34fbdb066571f", func := "saleroom/saleroomlaw18.SimplexRows", spec := "simplexRows", apart := false, narrowed := true }
def SimplexRowsUptoSaid : Prop := simplexRowsUptoRow.holds Try.pinned (OpenSpec.upto simplexRowsSpec)

/-- 'saleroomlaw18.SimplexLine', WHERE WHAT IT READS IS OF BULK AT MOST 1048576: true; the input reads as it did. -/
def simplexLineUptoRow : OpenClaim := { program := "ytdeifcfjkmfocaa", sum := "d09b0bdb07bbabeaa5a5f0ab30308a70125da98778318c6762d34fbdb066571f", func := "saleroom/saleroomlaw18.SimplexLine", spec := "simplexLine", apart := false, narrowed := true }
def SimplexLineUptoSaid : Prop := simplexLineUptoRow.holds Try.pinned (OpenSpec.upto simplexLineSpec)

end Rows
end Go.Proofs.Ytdeifcfjkmfocaa
