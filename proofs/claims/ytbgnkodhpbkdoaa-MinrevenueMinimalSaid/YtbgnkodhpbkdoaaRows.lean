/-
  No cell of these rows narrows 'for every input' (looked for: loops, veiled, ifaces, maps, wideKeys, modest, calm, conditions, laid).
  DERIVED. THE GIVEN ROWS OF THIS SEAT. 5 by the template 'for every input the law returns true; each argument reads behind the call as it read before'; 0 by the template 'total and deterministic' (their statements: YtbgnkodhpbkdoaaTotals.lean).
  GIVEN WITH THE SEED: the statements are not yours to turn. If you find one false, say at which input.
  Laid BY PROGRAM, IN A SANDBOX (cutbox-rows.mjs): the forced cells as the released guide's own fill.sh prints them over the translation 14dccf72f6f694fb… (all of the seat's roots in one cut). By AI agents, Wed Nov 11 2026. No macro, syntax, notation, axiom, sorry.
-/
import Derived.Test.YtbgnkodhpbkdoaaChecked
import GoSem.Claim
import GoSem.ClaimJoined
import GoSem.ClaimMapViews
import Derived.JoinedTies
import Derived.KernelRfl
namespace Go.Proofs.Ytbgnkodhpbkdoaa
/- THE CELL 'sum', in the pinned program and in every row, IS THE sha256 OF THE DUMP (.gsa) THAT YtbgnkodhpbkdoaaProg.lean LOADS. Nothing in Lean hashes anything: it is a label: what it is worth is what the hold of that sum in a sandbox is worth. -/
noncomputable def Try.pinned : Pinned := { name := "ytbgnkodhpbkdoaa", sum := "14dccf72f6f694fba10a665acd8baf51ca851f8f7bdc49026a45d18e79430b33", checked := Try.checked }
namespace Rows
def none {H : Type} : Left H := { results := [], args := [] }

/-- 'saleroomlaw30.MinrevenueMinimal': WHATEVER THE INPUT: true; the input reads as it did. -/
def minrevenueMinimalSpec : ChangeSpec := { name := "minrevenueMinimal", fn := fun _ => fun
  | [d1, d2] => { results := [.lit (.bool true)], args := [d1, d2] }
  | _ => none }
def minrevenueMinimalRow : OpenClaim := { program := "ytbgnkodhpbkdoaa", sum := "14dccf72f6f694fba10a665acd8baf51ca851f8f7bdc49026a45d18e79430b33", func := "saleroom/saleroomlaw30.MinrevenueMinimal", spec := "minrevenueMinimal", unfollowed := true, recurses := true, apart := false }
def MinrevenueMinimalSaid : Prop := minrevenueMinimalRow.holds Try.pinned (OpenSpec.ofChange minrevenueMinimalSpec)

/-- ITS FALSE NEIGHBOUR: 'it returns false'. Refute it at one input. -/
def minrevenueMinimalWrong : ChangeSpec := { name := "minrevenueMinimal", fn := fun _ => fun
  | [d1, d2] => { results := [.lit (.bool false)], args := [d1, d2] }
  | _ => none }
def MinrevenueMinimalWrongFalsely : Prop := minrevenueMinimalRow.holds Try.pinned (OpenSpec.ofChange minrevenueMinimalWrong)

/-- 'saleroomlaw30.MinrevenueProves': WHATEVER THE INPUT: true; the input reads as it did. -/
def minrevenueProvesSpec : ChangeSpec := { name := "minrevenueProves", fn := fun _ => fun
  | [d1, d2] => { results := [.lit (.bool true)], args := [d1, d2] }
  | _ => none }
def minrevenueProvesRow : OpenClaim := { program := "ytbgnkodhpbkdoaa", sum := "14dccf72f6f694fba10a665acd8baf51ca851f8f7bdc49026a45d18e79430b33", func := "saleroom/saleroomlaw30.MinrevenueProves", spec := "minrevenueProves", unfollowed := true, recurses := true, apart := false }
def MinrevenueProvesSaid : Prop := minrevenueProvesRow.holds Try.pinned (OpenSpec.ofChange minrevenueProvesSpec)

/-- ITS FALSE NEIGHBOUR: 'it returns false'. Refute it at one input. -/
def minrevenueProvesWrong : ChangeSpec := { name := "minrevenueProves", fn := fun _ => fun
  | [d1, d2] => { results := [.lit (.bool false)], args := [d1, d2] }
  | _ => none }
def MinrevenueProvesWrongFalsely : Prop := minrevenueProvesRow.holds Try.pinned (OpenSpec.ofChange minrevenueProvesWrong)

/-- 'saleroomlaw30.MinrevenueChecks': WHATEVER THE INPUT: true; the input reads as it did. -/
def minrevenueChecksSpec : ChangeSpec := { name := "minrevenueChecks", fn := fun _ => fun
  | [d1, d2, d3] => { results := [.lit (.bool true)], args := [d1, d2, d3] }
  | _ => none }
def minrevenueChecksRow : OpenClaim := { program := "ytbgnkodhpbkdoaa", sum := "14dccf72f6f694fba10a665acd8baf51ca851f8f7bdc49026a45d18e79430b33", func := "saleroom/saleroomlaw30.MinrevenueChecks", spec := "minrevenueChecks", unfollowed := true, recurses := true, apart := false }
def MinrevenueChecksSaid : Prop := minrevenueChecksRow.holds Try.pinned (OpenSpec.ofChange minrevenueChecksSpec)

/-- ITS FALSE NEIGHBOUR: 'it returns false'. Refute it at one input. -/
def minrevenueChecksWrong : ChangeSpec := { name := "minrevenueChecks", fn := fun _ => fun
  | [d1, d2, d3] => { results := [.lit (.bool false)], args := [d1, d2, d3] }
  | _ => none }
def MinrevenueChecksWrongFalsely : Prop := minrevenueChecksRow.holds Try.pinned (OpenSpec.ofChange minrevenueChecksWrong)

/-- 'saleroomlaw30.MinrevenueBounds': WHATEVER THE INPUT: true; the input reads as it did. -/
def minrevenueBoundsSpec : ChangeSpec := { name := "minrevenueBounds", fn := fun _ => fun
  | [d1, d2, d3, d4] => { results := [.lit (.bool true)], args := [d1, d2, d3, d4] }
  | _ => none }
def minrevenueBoundsRow : OpenClaim := { program := "ytbgnkodhpbkdoaa", sum := "14dccf72f6f694fba10a665acd8baf51ca851f8f7bdc49026a45d18e79430b33", func := "saleroom/saleroomlaw30.MinrevenueBounds", spec := "minrevenueBounds", unfollowed := true, recurses := true, apart := false }
def MinrevenueBoundsSaid : Prop := minrevenueBoundsRow.holds Try.pinned (OpenSpec.ofChange minrevenueBoundsSpec)

/-- ITS FALSE NEIGHBOUR: 'it returns false'. Refute it at one input. -/
def minrevenueBoundsWrong : ChangeSpec := { name := "minrevenueBounds", fn := fun _ => fun
  | [d1, d2, d3, d4] => { results := [.lit (.bool false)], args := [d1, d2, d3, d4] }
  | _ => none }
def MinrevenueBoundsWrongFalsely : Prop := minrevenueBoundsRow.holds Try.pinned (OpenSpec.ofChange minrevenueBoundsWrong)

/-- 'saleroomlaw30.MinrevenueGrows': WHATEVER THE INPUT: true; the input reads as it did. -/
def minrevenueGrowsSpec : ChangeSpec := { name := "minrevenueGrows", fn := fun _ => fun
  | [d1, d2, d3] => { results := [.lit (.bool true)], args := [d1, d2, d3] }
  | _ => none }
def minrevenueGrowsRow : OpenClaim := { program := "ytbgnkodhpbkdoaa", sum := "14dccf72f6f694fba10a665acd8baf51ca851f8f7bdc49026a45d18e79430b33", func := "saleroom/saleroomlaw30.MinrevenueGrows", spec := "minrevenueGrows", unfollowed := true, recurses := true, apart := false }
def MinrevenueGrowsSaid : Prop := minrevenueGrowsRow.holds Try.pinned (OpenSpec.ofChange minrevenueGrowsSpec)

/-- ITS FALSE NEIGHBOUR: 'it returns false'. Refute it at one input. -/
def minrevenueGrowsWrong : ChangeSpec := { name := "minrevenueGrows", fn := fun _ => fun
  | [d1, d2, d3] => { results := [.lit (.bool false)], args := [d1, d2, d3] }
  | _ => none }
def MinrevenueGrowsWrongFalsely : Prop := minrevenueGrowsRow.holds Try.pinned (OpenSpec.ofChange minrevenueGrowsWrong)

/- THE SECOND FORM. 'bulk': how many values and letters a reading holds, each counted each time it is reached (what is shared counts as often as it is met; a slice's spare places count too). A statement '..UptoSaid' is the law's where the arguments, and the package variables that the reading takes, are together of bulk at most 1048576: NARROWER than '..Said'. Prove '..Said' where nothing that the law and all that it calls make is longer than what came in: it says more and counts as full. Else prove '..UptoSaid'. A law counts once. -/
mutual
def uptoBulk {H : Type} : DataW H → Nat
  | .lit (.string bytes) => bytes.length + 1
  | .lit _ => 1
  | .nil => 1
  | .ptr d => uptoBulk d + 1
  | .slice elems spare => uptoBulkAll elems + uptoBulkAll spare + 1
  | .agg parts => uptoBulkAll parts + 1
  | .iface _ d => uptoBulk d + 1
  | .map entries => uptoBulkEntries entries + 1
  | .held _ => 1
def uptoBulkAll {H : Type} : List (DataW H) → Nat
  | [] => 0
  | d :: r => uptoBulk d + uptoBulkAll r
def uptoBulkEntries {H : Type} : List (Lit × DataW H) → Nat
  | [] => 0
  | x :: r => uptoBulkEntry x + uptoBulkEntries r
def uptoBulkEntry {H : Type} : Lit × DataW H → Nat
  | (.string bytes, d) => bytes.length + uptoBulk d + 1
  | (_, d) => uptoBulk d + 1
 end
def uptoSmall : (H : Type) → List (DataW H) → Bool := fun _ ds => decide (uptoBulkAll ds ≤ 1048576)
def OpenSpec.upto (s : _root_.Go.ChangeSpec) : _root_.Go.OpenSpec := { _root_.Go.OpenSpec.ofChange s with cond := some uptoSmall }

/-- 'saleroomlaw30.MinrevenueMinimal', WHERE WHAT IT READS IS OF BULK AT MOST 1048576: true; the input reads as it did. -/
def minrevenueMinimalUptoRow : OpenClaim := { program := "ytbgnkodhpbkdoaa", sum := "14dccf72f6f694fba10a665acd8baf51ca851f8f7bdc49026a45d18e79430b33", func := "saleroom/saleroomlaw30.MinrevenueMinimal", spec := "minrevenueMinimal", unfollowed := true, recurses := true, apart := false, narrowed := true }
def MinrevenueMinimalUptoSaid : Prop := minrevenueMinimalUptoRow.holds Try.pinned (OpenSpec.upto minrevenueMinimalSpec)

/-- 'saleroomlaw30.MinrevenueProves', WHERE WHAT IT READS IS OF BULK AT MOST 1048576: true; the input reads as it did. -/
def minrevenueProvesUptoRow : OpenClaim := { program := "ytbgnkodhpbkdoaa", sum := "14dccf72f6f694fba10a665acd8baf51ca851f8f7bdc49026a45d18e79430b33", func := "saleroom/saleroomlaw30.MinrevenueProves", spec := "minrevenueProves", unfollowed := true, recurses := true, apart := false, narrowed := true }
def MinrevenueProvesUptoSaid : Prop := minrevenueProvesUptoRow.holds Try.pinned (OpenSpec.upto minrevenueProvesSpec)

/-- 'saleroomlaw30.MinrevenueChecks', WHERE WHAT IT READS IS OF BULK AT MOST 1048576: true; the input reads as it did. -/
def minrevenueChecksUptoRow : OpenClaim := { program := "ytbgnkodhpbkdoaa", sum := "14dccf72f6f694fba10a665acd8baf51ca851f8f7bdc49026a45d18e79430b33", func := "saleroom/saleroomlaw30.MinrevenueChecks", spec := "minrevenueChecks", unfollowed := true, recurses := true, apart := false, narrowed := true }
def MinrevenueChecksUptoSaid : Prop := minrevenueChecksUptoRow.holds Try.pinned (OpenSpec.upto minrevenueChecksSpec)

/-- 'saleroomlaw30.MinrevenueBounds', WHERE WHAT IT READS IS OF BULK AT MOST 1048576: true; the input reads as it did. -/
def minrevenueBoundsUptoRow : OpenClaim := { program := "ytbgnkodhpbkdoaa", sum := "14dccf72f6f694fba10a665acd8baf51ca851f8f7bdc49026a45d18e79430b33", func := "saleroom/saleroomlaw30.MinrevenueBounds", spec := "minrevenueBounds", unfollowed := true, recurses := true, apart := false, narrowed := true }
def MinrevenueBoundsUptoSaid : Prop := minrevenueBoundsUptoRow.holds Try.pinned (OpenSpec.upto minrevenueBoundsSpec)

/-- 'saleroomlaw30.MinrevenueGrows', WHERE WHAT IT READS IS OF BULK AT MOST 1048576: true; the input reads as it did. -/
def minrevenueGrowsUptoRow : OpenClaim := { program := "ytbgnkodhpbkdoaa", sum := "14dccf72f6f694fba10a665acd8baf51ca851f8f7bdc49026a45d18e79430b33", func := "saleroom/saleroomlaw30.MinrevenueGrows", spec := "minrevenueGrows", unfollowed := true, recurses := true, apart := false, narrowed := true }
def MinrevenueGrowsUptoSaid : Prop := minrevenueGrowsUptoRow.holds Try.pinned (OpenSpec.upto minrevenueGrowsSpec)

end Rows
end Go.Proofs.Ytbgnkodhpbkdoaa
