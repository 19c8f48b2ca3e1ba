/-
  No cell of these rows narrows 'for every input' (looked for: loops, veiled, ifaces, maps, wideKeys, modest, calm, conditions, laid).
  DERIVED. THE GIVEN ROWS OF THIS SEAT. 5 by the template 'for every input the law returns true; each argument reads behind the call as it read before'; 0 by the template 'total and deterministic' (their statements: YtbihcpgkonildaaTotals.lean).
  GIVEN WITH THE SEED: the statements are not yours to turn. If you find one false, say at which input.
  Laid BY PROGRAM, IN A SANDBOX (cutbox-rows.mjs): the forced cells as the released guide's own fill.sh prints them over the translation f6c5b8ff49ed7e8a… (all of the seat's roots in one cut). By AI agents, Wed Nov 11 2026. No macro, syntax, notation, axiom, sorry.
-/
import Derived.Test.YtbihcpgkonildaaChecked
import GoSem.Claim
import GoSem.ClaimJoined
import GoSem.ClaimMapViews
import Derived.JoinedTies
import Derived.KernelRfl
namespace Go.Proofs.Ytbihcpgkonildaa
/- THE CELL 'sum', in the pinned program and in every row, IS THE sha256 OF THE DUMP (.gsa) THAT YtbihcpgkonildaaProg.lean LOADS. Nothing in Lean hashes anything: it is a label: what it is worth is what the hold of that sum in a sandbox is worth. -/
noncomputable def Try.pinned : Pinned := { name := "ytbihcpgkonildaa", sum := "f6c5b8ff49ed7e8a6c494e577df231e96bd39ac2c23902b1f84ef4f5f9e17ef3", checked := Try.checked }
namespace Rows
def none {H : Type} : Left H := { results := [], args := [] }

/-- 'saleroomlaw09.RosterSets': WHATEVER THE INPUT: true; the input reads as it did. -/
def rosterSetsSpec : ChangeSpec := { name := "rosterSets", fn := fun _ => fun
  | [d1, d2] => { results := [.lit (.bool true)], args := [d1, d2] }
  | _ => none }
def rosterSetsRow : OpenClaim := { program := "ytbihcpgkonildaa", sum := "f6c5b8ff49ed7e8a6c494e577df231e96bd39ac2c23902b1f84ef4f5f9e17ef3", func := "saleroom/saleroomlaw09.RosterSets", spec := "rosterSets", unfollowed := true, recurses := true, apart := false }
def RosterSetsSaid : Prop := rosterSetsRow.holds Try.pinned (OpenSpec.ofChange rosterSetsSpec)

/-- ITS FALSE NEIGHBOUR: 'it returns false'. Refute it at one input. -/
def rosterSetsWrong : ChangeSpec := { name := "rosterSets", fn := fun _ => fun
  | [d1, d2] => { results := [.lit (.bool false)], args := [d1, d2] }
  | _ => none }
def RosterSetsWrongFalsely : Prop := rosterSetsRow.holds Try.pinned (OpenSpec.ofChange rosterSetsWrong)

/-- 'saleroomlaw09.RosterChecks': WHATEVER THE INPUT: true; the input reads as it did. -/
def rosterChecksSpec : ChangeSpec := { name := "rosterChecks", fn := fun _ => fun
  | [d] => { results := [.lit (.bool true)], args := [d] }
  | _ => none }
def rosterChecksRow : OpenClaim := { program := "ytbihcpgkonildaa", sum := "f6c5b8ff49ed7e8a6c494e577df231e96bd39ac2c23902b1f84ef4f5f9e17ef3", func := "saleroom/saleroomlaw09.RosterChecks", spec := "rosterChecks", unfollowed := true, recurses := true, apart := false }
def RosterChecksSaid : Prop := rosterChecksRow.holds Try.pinned (OpenSpec.ofChange rosterChecksSpec)

/-- ITS FALSE NEIGHBOUR: 'it returns false'. Refute it at one input. -/
def rosterChecksWrong : ChangeSpec := { name := "rosterChecks", fn := fun _ => fun
  | [d] => { results := [.lit (.bool false)], args := [d] }
  | _ => none }
def RosterChecksWrongFalsely : Prop := rosterChecksRow.holds Try.pinned (OpenSpec.ofChange rosterChecksWrong)

/-- 'saleroomlaw09.RosterFinds': WHATEVER THE INPUT: true; the input reads as it did. -/
def rosterFindsSpec : ChangeSpec := { name := "rosterFinds", fn := fun _ => fun
  | [d1, d2, d3] => { results := [.lit (.bool true)], args := [d1, d2, d3] }
  | _ => none }
def rosterFindsRow : OpenClaim := { program := "ytbihcpgkonildaa", sum := "f6c5b8ff49ed7e8a6c494e577df231e96bd39ac2c23902b1f84ef4f5f9e17ef3", func := "saleroom/saleroomlaw09.RosterFinds", spec := "rosterFinds", unfollowed := true, recurses := true, apart := false }
def RosterFindsSaid : Prop := rosterFindsRow.holds Try.pinned (OpenSpec.ofChange rosterFindsSpec)

/-- ITS FALSE NEIGHBOUR: 'it returns false'. Refute it at one input. -/
def rosterFindsWrong : ChangeSpec := { name := "rosterFinds", fn := fun _ => fun
  | [d1, d2, d3] => { results := [.lit (.bool false)], args := [d1, d2, d3] }
  | _ => none }
def RosterFindsWrongFalsely : Prop := rosterFindsRow.holds Try.pinned (OpenSpec.ofChange rosterFindsWrong)

/-- 'saleroomlaw09.RosterNames': WHATEVER THE INPUT: true; the input reads as it did. -/
def rosterNamesSpec : ChangeSpec := { name := "rosterNames", fn := fun _ => fun
  | [d1, d2, d3] => { results := [.lit (.bool true)], args := [d1, d2, d3] }
  | _ => none }
def rosterNamesRow : OpenClaim := { program := "ytbihcpgkonildaa", sum := "f6c5b8ff49ed7e8a6c494e577df231e96bd39ac2c23902b1f84ef4f5f9e17ef3", func := "saleroom/saleroomlaw09.RosterNames", spec := "rosterNames", unfollowed := true, recurses := true, apart := false }
def RosterNamesSaid : Prop := rosterNamesRow.holds Try.pinned (OpenSpec.ofChange rosterNamesSpec)

/-- ITS FALSE NEIGHBOUR: 'it returns false'. Refute it at one input. -/
def rosterNamesWrong : ChangeSpec := { name := "rosterNames", fn := fun _ => fun
  | [d1, d2, d3] => { results := [.lit (.bool false)], args := [d1, d2, d3] }
  | _ => none }
def RosterNamesWrongFalsely : Prop := rosterNamesRow.holds Try.pinned (OpenSpec.ofChange rosterNamesWrong)

/-- 'saleroomlaw09.RosterBack': WHATEVER THE INPUT: true; the input reads as it did. -/
def rosterBackSpec : ChangeSpec := { name := "rosterBack", fn := fun _ => fun
  | [d1, d2] => { results := [.lit (.bool true)], args := [d1, d2] }
  | _ => none }
def rosterBackRow : OpenClaim := { program := "ytbihcpgkonildaa", sum := "f6c5b8ff49ed7e8a6c494e577df231e96bd39ac2c23902b1f84ef4f5f9e17ef3", func := "saleroom/saleroomlaw09.RosterBack", spec := "rosterBack", unfollowed := true, recurses := true, apart := false }
def RosterBackSaid : Prop := rosterBackRow.holds Try.pinned (OpenSpec.ofChange rosterBackSpec)

/-- ITS FALSE NEIGHBOUR: 'it returns false'. Refute it at one input. -/
def rosterBackWrong : ChangeSpec := { name := "rosterBack", fn := fun _ => fun
  | [d1, d2] => { results := [.lit (.bool false)], args := [d1, d2] }
  | _ => none }
def RosterBackWrongFalsely : Prop := rosterBackRow.holds Try.pinned (OpenSpec.ofChange rosterBackWrong)

/- THE SECOND FORM. 'bulk': how many values and letters a reading holds, each counted each time it is reached (what is shared counts as often as it is met; a slice's spare places count too). A statement '..UptoSaid' is the law's where the arguments, and the package variables that the reading takes, are together of bulk at most 1048576: NARROWER than '..Said'. Prove '..Said' where nothing that the law and all that it calls make is longer than what came in: it says more and counts as full. Else prove '..UptoSaid'. A law counts once. -/
mutual
def uptoBulk {H : Type} : DataW H → Nat
  | .lit (.string bytes) => bytes.length + 1
  | .lit _ => 1
  | .nil => 1
  | .ptr d => uptoBulk d + 1
  | .slice elems spare => uptoBulkAll elems + uptoBulkAll spare + 1
  | .agg parts => uptoBulkAll parts + 1
  | .iface _ d => uptoBulk d + 1
  | .map entries => uptoBulkEntries entries + 1
  | .held _ => 1
def uptoBulkAll {H : Type} : List (DataW H) → Nat
  | [] => 0
  | d :: r => uptoBulk d + uptoBulkAll r
def uptoBulkEntries {H : Type} : List (Lit × DataW H) → Nat
  | [] => 0
  | x :: r => uptoBulkEntry x + uptoBulkEntries r
def uptoBulkEntry {H : Type} : Lit × DataW H → Nat
  | (.string bytes, d) => bytes.length + uptoBulk d + 1
  | (_, d) => uptoBulk d + 1
 end
def uptoSmall : (H : Type) → List (DataW H) → Bool := fun _ ds => decide (uptoBulkAll ds ≤ 1048576)
def OpenSpec.upto (s : _root_.Go.ChangeSpec) : _root_.Go.OpenSpec := { _root_.Go.OpenSpec.ofChange s with cond := some uptoSmall }

/-- 'saleroomlaw09.RosterSets', WHERE WHAT IT READS IS OF BULK AT MOST 1048576: true; the input reads as it did. -/
def rosterSetsUptoRow : OpenClaim := { program := "ytbihcpgkonildaa", sum := "f6c5b8ff49ed7e8a6c494e577df231e96bd39ac2c23902b1f84ef4f5f9e17ef3", func := "saleroom/saleroomlaw09.RosterSets", spec := "rosterSets", unfollowed := true, recurses := true, apart := false, narrowed := true }
def RosterSetsUptoSaid : Prop := rosterSetsUptoRow.holds Try.pinned (OpenSpec.upto rosterSetsSpec)

/-- 'saleroomlaw09.RosterChecks', WHERE WHAT IT READS IS OF BULK AT MOST 1048576: true; the input reads as it did. -/
def rosterChecksUptoRow : OpenClaim := { program := "ytbihcpgkonildaa", sum := "f6c5b8ff49ed7e8a6c494e577df231e96bd39ac2c23902b1f84ef4f5f9e17ef3", func := "saleroom/saleroomlaw09.RosterChecks", spec := "rosterChecks", unfollowed := true, recurses := true, apart := false, narrowed := true }
def RosterChecksUptoSaid : Prop := rosterChecksUptoRow.holds Try.pinned (OpenSpec.upto rosterChecksSpec)

/-- 'saleroomlaw09.RosterFinds', WHERE WHAT IT READS IS OF BULK AT MOST 1048576: true; the input reads as it did. -/
def rosterFindsUptoRow : OpenClaim := { program := "ytbihcpgkonildaa", sum := "f6c5b8ff49ed7e8a6c494e577df231e96bd39ac2c23902b1f84ef4f5f9e17ef3", func := "saleroom/saleroomlaw09.RosterFinds", spec := "rosterFinds", unfollowed := true, recurses := true, apart := false, narrowed := true }
def RosterFindsUptoSaid : Prop := rosterFindsUptoRow.holds Try.pinned (OpenSpec.upto rosterFindsSpec)

/-- 'saleroomlaw09.RosterNames', WHERE WHAT IT READS IS OF BULK AT MOST 1048576: true; the input reads as it did. -/
def rosterNamesUptoRow : OpenClaim := { program := "ytbihcpgkonildaa", sum := "f6c5b8ff49ed7e8a6c494e577df231e96bd39ac2c23902b1f84ef4f5f9e17ef3", func := "saleroom/saleroomlaw09.RosterNames", spec := "rosterNames", unfollowed := true, recurses := true, apart := false, narrowed := true }
def RosterNamesUptoSaid : Prop := rosterNamesUptoRow.holds Try.pinned (OpenSpec.upto rosterNamesSpec)

/-- 'saleroomlaw09.RosterBack', WHERE WHAT IT READS IS OF BULK AT MOST 1048576: true; the input reads as it did. -/
def rosterBackUptoRow : OpenClaim := { program := "ytbihcpgkonildaa", sum := "f6c5b8ff49ed7e8a6c494e577df231e96bd39ac2c23902b1f84ef4f5f9e17ef3", func := "saleroom/saleroomlaw09.RosterBack", spec := "rosterBack", unfollowed := true, recurses := true, apart := false, narrowed := true }
def RosterBackUptoSaid : Prop := rosterBackUptoRow.holds Try.pinned (OpenSpec.upto rosterBackSpec)

end Rows
end Go.Proofs.Ytbihcpgkonildaa
