/-
  No cell of these rows narrows 'for every input' (looked for: loops, veiled, ifaces, maps, wideKeys, modest, calm, conditions, laid).
  DERIVED. THE GIVEN ROWS OF THIS SEAT. 5 by the template 'for every input the law returns true; each argument reads behind the call as it read before'; 0 by the template 'total and deterministic' (their statements: YtpmaehfiifinhaaTotals.lean).
  GIVEN WITH THE SEED: the statements are not yours to turn. If you find one false, say at which input.
  Laid BY PROGRAM, IN A SANDBOX (cutbox-rows.mjs): the forced cells as the released guide's own fill.sh prints them over the translation 5437e26529ec7a5b… (all of the seat's roots in one cut). By AI agents, Wed Nov 11 2026. No macro, syntax, notation, axiom, sorry.
-/
import Derived.Test.YtpmaehfiifinhaaChecked
import GoSem.Claim
import GoSem.ClaimJoined
import GoSem.ClaimMapViews
import Derived.JoinedTies
import Derived.KernelRfl
namespace Go.Proofs.Ytpmaehfiifinhaa
/- THE CELL 'sum', in the pinned program and in every row, IS THE sha256 OF THE DUMP (.gsa) THAT YtpmaehfiifinhaaProg.lean LOADS. Nothing in Lean hashes anything: it is a label: what it is worth is what the hold of that sum in a sandbox is worth. -/
noncomputable def Try.pinned : Pinned := { name := "ytpmaehfiifinhaa", sum := "5437e26529ec7a5bc25d26571e1592eedb3c1fff0d06a556a018b36ce74f4eee", checked := Try.checked }
namespace Rows
def none {H : Type} : Left H := { results := [], args := [] }

/-- 'saleroomlaw26.CoalitionWorth': WHATEVER THE INPUT: true; the input reads as it did. -/
def coalitionWorthSpec : ChangeSpec := { name := "coalitionWorth", fn := fun _ => fun
  | [d1, d2] => { results := [.lit (.bool true)], args := [d1, d2] }
  | _ => none }
def coalitionWorthRow : OpenClaim := { program := "ytpmaehfiifinhaa", sum := "5437e26529ec7a5bc25d26571e1592eedb3c1fff0d06a556a018b36ce74f4eee", func := "saleroom/saleroomlaw26.CoalitionWorth", spec := "coalitionWorth", unfollowed := true, recurses := true, plainKeys := false, apart := false }
def CoalitionWorthSaid : Prop := coalitionWorthRow.holds Try.pinned (OpenSpec.ofChange coalitionWorthSpec)

/-- ITS FALSE NEIGHBOUR: 'it returns false'. Refute it at one input. -/
def coalitionWorthWrong : ChangeSpec := { name := "coalitionWorth", fn := fun _ => fun
  | [d1, d2] => { results := [.lit (.bool false)], args := [d1, d2] }
  | _ => none }
def CoalitionWorthWrongFalsely : Prop := coalitionWorthRow.holds Try.pinned (OpenSpec.ofChange coalitionWorthWrong)

/-- 'saleroomlaw26.CoalitionGrows': WHATEVER THE INPUT: true; the input reads as it did. -/
def coalitionGrowsSpec : ChangeSpec := { name := "coalitionGrows", fn := fun _ => fun
  | [d1, d2, d3] => { results := [.lit (.bool true)], args := [d1, d2, d3] }
  | _ => none }
def coalitionGrowsRow : OpenClaim := { program := "ytpmaehfiifinhaa", sum := "5437e26529ec7a5bc25d26571e1592eedb3c1fff0d06a556a018b36ce74f4eee", func := "saleroom/saleroomlaw26.CoalitionGrows", spec := "coalitionGrows", unfollowed := true, recurses := true, plainKeys := false, apart := false }
def CoalitionGrowsSaid : Prop := coalitionGrowsRow.holds Try.pinned (OpenSpec.ofChange coalitionGrowsSpec)

/-- ITS FALSE NEIGHBOUR: 'it returns false'. Refute it at one input. -/
def coalitionGrowsWrong : ChangeSpec := { name := "coalitionGrows", fn := fun _ => fun
  | [d1, d2, d3] => { results := [.lit (.bool false)], args := [d1, d2, d3] }
  | _ => none }
def CoalitionGrowsWrongFalsely : Prop := coalitionGrowsRow.holds Try.pinned (OpenSpec.ofChange coalitionGrowsWrong)

/-- 'saleroomlaw26.CoalitionSplits': WHATEVER THE INPUT: true; the input reads as it did. -/
def coalitionSplitsSpec : ChangeSpec := { name := "coalitionSplits", fn := fun _ => fun
  | [d1, d2] => { results := [.lit (.bool true)], args := [d1, d2] }
  | _ => none }
def coalitionSplitsRow : OpenClaim := { program := "ytpmaehfiifinhaa", sum := "5437e26529ec7a5bc25d26571e1592eedb3c1fff0d06a556a018b36ce74f4eee", func := "saleroom/saleroomlaw26.CoalitionSplits", spec := "coalitionSplits", unfollowed := true, recurses := true, plainKeys := false, apart := false }
def CoalitionSplitsSaid : Prop := coalitionSplitsRow.holds Try.pinned (OpenSpec.ofChange coalitionSplitsSpec)

/-- ITS FALSE NEIGHBOUR: 'it returns false'. Refute it at one input. -/
def coalitionSplitsWrong : ChangeSpec := { name := "coalitionSplits", fn := fun _ => fun
  | [d1, d2] => { results := [.lit (.bool false)], args := [d1, d2] }
  | _ => none }
def CoalitionSplitsWrongFalsely : Prop := coalitionSplitsRow.holds Try.pinned (OpenSpec.ofChange coalitionSplitsWrong)

/-- 'saleroomlaw26.CoalitionTable': WHATEVER THE INPUT: true; the input reads as it did. -/
def coalitionTableSpec : ChangeSpec := { name := "coalitionTable", fn := fun _ => fun
  | [d] => { results := [.lit (.bool true)], args := [d] }
  | _ => none }
def coalitionTableRow : OpenClaim := { program := "ytpmaehfiifinhaa", sum := "5437e26529ec7a5bc25d26571e1592eedb3c1fff0d06a556a018b36ce74f4eee", func := "saleroom/saleroomlaw26.CoalitionTable", spec := "coalitionTable", unfollowed := true, recurses := true, plainKeys := false, apart := false }
def CoalitionTableSaid : Prop := coalitionTableRow.holds Try.pinned (OpenSpec.ofChange coalitionTableSpec)

/-- ITS FALSE NEIGHBOUR: 'it returns false'. Refute it at one input. -/
def coalitionTableWrong : ChangeSpec := { name := "coalitionTable", fn := fun _ => fun
  | [d] => { results := [.lit (.bool false)], args := [d] }
  | _ => none }
def CoalitionTableWrongFalsely : Prop := coalitionTableRow.holds Try.pinned (OpenSpec.ofChange coalitionTableWrong)

/-- 'saleroomlaw26.CoalitionWithout': WHATEVER THE INPUT: true; the input reads as it did. -/
def coalitionWithoutSpec : ChangeSpec := { name := "coalitionWithout", fn := fun _ => fun
  | [d1, d2] => { results := [.lit (.bool true)], args := [d1, d2] }
  | _ => none }
def coalitionWithoutRow : OpenClaim := { program := "ytpmaehfiifinhaa", sum := "5437e26529ec7a5bc25d26571e1592eedb3c1fff0d06a556a018b36ce74f4eee", func := "saleroom/saleroomlaw26.CoalitionWithout", spec := "coalitionWithout", unfollowed := true, recurses := true, plainKeys := false, apart := false }
def CoalitionWithoutSaid : Prop := coalitionWithoutRow.holds Try.pinned (OpenSpec.ofChange coalitionWithoutSpec)

/-- ITS FALSE NEIGHBOUR: 'it returns false'. Refute it at one input. -/
def coalitionWithoutWrong : ChangeSpec := { name := "coalitionWithout", fn := fun _ => fun
  | [d1, d2] => { results := [.lit (.bool false)], args := [d1, d2] }
  | _ => none }
def CoalitionWithoutWrongFalsely : Prop := coalitionWithoutRow.holds Try.pinned (OpenSpec.ofChange coalitionWithoutWrong)

/- THE SECOND FORM. 'bulk': how many values and letters a reading holds, each counted each time it is reached (what is shared counts as often as it is met; a slice's spare places count too). A statement '..UptoSaid' is the law's where the arguments, and the package variables that the reading takes, are together of bulk at most 1048576: NARROWER than '..Said'. Prove '..Said' where nothing that the law and all that it calls make is longer than what came in: it says more and counts as full. Else prove '..UptoSaid'. A law counts once. -/
mutual
def uptoBulk {H : Type} : DataW H → Nat
  | .lit (.string bytes) => bytes.length + 1
  | .lit _ => 1
  | .nil => 1
  | .ptr d => uptoBulk d + 1
  | .slice elems spare => uptoBulkAll elems + uptoBulkAll spare + 1
  | .agg parts => uptoBulkAll parts + 1
  | .iface _ d => uptoBulk d + 1
  | .map entries => uptoBulkEntries entries + 1
  | .held _ => 1
def uptoBulkAll {H : Type} : List (DataW H) → Nat
  | [] => 0
  | d :: r => uptoBulk d + uptoBulkAll r
def uptoBulkEntries {H : Type} : List (Lit × DataW H) → Nat
  | [] => 0
  | x :: r => uptoBulkEntry x + uptoBulkEntries r
def uptoBulkEntry {H : Type} : Lit × DataW H → Nat
  | (.string bytes, d) => bytes.length + uptoBulk d + 1
  | (_, d) => uptoBulk d + 1
 end
def uptoSmall : (H : Type) → List (DataW H) → Bool := fun _ ds => decide (uptoBulkAll ds ≤ 1048576)
def OpenSpec.upto (s : _root_.Go.ChangeSpec) : _root_.Go.OpenSpec := { _root_.Go.OpenSpec.ofChange s with cond := some uptoSmall }

/-- 'saleroomlaw26.CoalitionWorth', WHERE WHAT IT READS IS OF BULK AT MOST 1048576: true; the input reads as it did. -/
def coalitionWorthUptoRow : OpenClaim := { program := "ytpmaehfiifinhaa", sum := "5437e26529ec7a5bc25d26571e1592eedb3c1fff0d06a556a018b36ce74f4eee", func := "saleroom/saleroomlaw26.CoalitionWorth", spec := "coalitionWorth", unfollowed := true, recurses := true, plainKeys := false, apart := false, narrowed := true }
def CoalitionWorthUptoSaid : Prop := coalitionWorthUptoRow.holds Try.pinned (OpenSpec.upto coalitionWorthSpec)

/-- 'saleroomlaw26.CoalitionGrows', WHERE WHAT IT READS IS OF BULK AT MOST 1048576: true; the input reads as it did. -/
def coalitionGrowsUptoRow : OpenClaim := { program := "ytpmaehfiifinhaa", sum := "5437e26529ec7a5bc25d26571e1592eedb3c1fff0d06a556a018b36ce74f4eee", func := "saleroom/saleroomlaw26.CoalitionGrows", spec := "coalitionGrows", unfollowed := true, recurses := true, plainKeys := false, apart := false, narrowed := true }
def CoalitionGrowsUptoSaid : Prop := coalitionGrowsUptoRow.holds Try.pinned (OpenSpec.upto coalitionGrowsSpec)

/-- 'saleroomlaw26.CoalitionSplits', WHERE WHAT IT READS IS OF BULK AT MOST 1048576: true; the input reads as it did. -/
def coalitionSplitsUptoRow : OpenClaim := { program := "ytpmaehfiifinhaa", sum := "5437e26529ec7a5bc25d26571e1592eedb3c1fff0d06a556a018b36ce74f4eee", func := "saleroom/saleroomlaw26.CoalitionSplits", spec := "coalitionSplits", unfollowed := true, recurses := true, plainKeys := false, apart := false, narrowed := true }
def CoalitionSplitsUptoSaid : Prop := coalitionSplitsUptoRow.holds Try.pinned (OpenSpec.upto coalitionSplitsSpec)

/-- 'saleroomlaw26.CoalitionTable', WHERE WHAT IT READS IS OF BULK AT MOST 1048576: true; the input reads as it did. -/
def coalitionTableUptoRow : OpenClaim := { program := "ytpmaehfiifinhaa", sum := "5437e26529ec7a5bc25d26571e1592eedb3c1fff0d06a556a018b36ce74f4eee", func := "saleroom/saleroomlaw26.CoalitionTable", spec := "coalitionTable", unfollowed := true, recurses := true, plainKeys := false, apart := false, narrowed := true }
def CoalitionTableUptoSaid : Prop := coalitionTableUptoRow.holds Try.pinned (OpenSpec.upto coalitionTableSpec)

/-- 'saleroomlaw26.CoalitionWithout', WHERE WHAT IT READS IS OF BULK AT MOST 1048576: true; the input reads as it did. -/
def coalitionWithoutUptoRow : OpenClaim := { program := "ytpmaehfiifinhaa", sum := "5437e26529ec7a5bc25d26571e1592eedb3c1fff0d06a556a018b36ce74f4eee", func := "saleroom/saleroomlaw26.CoalitionWithout", spec := "coalitionWithout", unfollowed := true, recurses := true, plainKeys := false, apart := false, narrowed := true }
def CoalitionWithoutUptoSaid : Prop := coalitionWithoutUptoRow.holds Try.pinned (OpenSpec.upto coalitionWithoutSpec)

end Rows
end Go.Proofs.Ytpmaehfiifinhaa
