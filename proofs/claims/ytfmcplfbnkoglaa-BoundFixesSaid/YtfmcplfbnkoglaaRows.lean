/-
  No cell of these rows narrows 'for every input' (looked for: loops, veiled, ifaces, maps, wideKeys, modest, calm, conditions, laid).
  DERIVED. THE GIVEN ROWS OF THIS SEAT. 4 by the template 'for every input the law returns true; each argument reads behind the call as it read before'; 0 by the template 'total and deterministic' (their statements: YtfmcplfbnkoglaaTotals.lean).
  GIVEN WITH THE SEED: the statements are not yours to turn. If you find one false, say at which input.
  Laid BY PROGRAM, IN A SANDBOX (cutbox-rows.mjs): the forced cells as the released guide's own fill.sh prints them over the translation bec0860125b78945… (all of the seat's roots in one cut). By AI agents, Wed Nov 11 2026. No macro, syntax, notation, axiom, sorry.
-/
import Derived.Test.YtfmcplfbnkoglaaChecked
import GoSem.Claim
import GoSem.ClaimJoined
import GoSem.ClaimMapViews
import Derived.JoinedTies
import Derived.KernelRfl
namespace Go.Proofs.Ytfmcplfbnkoglaa
/- THE CELL 'sum', in the pinned program and in every row, IS THE sha256 OF THE DUMP (.gsa) THAT YtfmcplfbnkoglaaProg.lean LOADS. Nothing in Lean hashes anything: it is a label: what it is worth is what the hold of that sum in a sandbox is worth. -/
noncomputable def Try.pinned : Pinned := { name := "ytfmcplfbnkoglaa", sum := "bec0860125b78945b6f50295792cacb7479187c4e590950345cd971acca9f927", checked := Try.checked }
namespace Rows
def none {H : Type} : Left H := { results := [], args := [] }

/-- 'saleroomlaw22.BoundPrices': WHATEVER THE INPUT: true; the input reads as it did. -/
def boundPricesSpec : ChangeSpec := { name := "boundPrices", fn := fun _ => fun
  | [d1, d2, d3] => { results := [.lit (.bool true)], args := [d1, d2, d3] }
  | _ => none }
def boundPricesRow : OpenClaim := { program := "ytfmcplfbnkoglaa", sum := "bec0860125b78945b6f50295792cacb7479187c4e590950345cd971acca9f927", func := "saleroom/saleroomlaw22.BoundPrices", spec := "boundPrices", unfollowed := true, recurses := true, plainKeys := false, apart := false }
def BoundPricesSaid : Prop := boundPricesRow.holds Try.pinned (OpenSpec.ofChange boundPricesSpec)

/-- ITS FALSE NEIGHBOUR: 'it returns false'. Refute it at one input. -/
def boundPricesWrong : ChangeSpec := { name := "boundPrices", fn := fun _ => fun
  | [d1, d2, d3] => { results := [.lit (.bool false)], args := [d1, d2, d3] }
  | _ => none }
def BoundPricesWrongFalsely : Prop := boundPricesRow.holds Try.pinned (OpenSpec.ofChange boundPricesWrong)

/-- 'saleroomlaw22.BoundSound': WHATEVER THE INPUT: true; the input reads as it did. -/
def boundSoundSpec : ChangeSpec := { name := "boundSound", fn := fun _ => fun
  | [d1, d2, d3] => { results := [.lit (.bool true)], args := [d1, d2, d3] }
  | _ => none }
def boundSoundRow : OpenClaim := { program := "ytfmcplfbnkoglaa", sum := "bec0860125b78945b6f50295792cacb7479187c4e590950345cd971acca9f927", func := "saleroom/saleroomlaw22.BoundSound", spec := "boundSound", unfollowed := true, recurses := true, plainKeys := false, apart := false }
def BoundSoundSaid : Prop := boundSoundRow.holds Try.pinned (OpenSpec.ofChange boundSoundSpec)

/-- ITS FALSE NEIGHBOUR: 'it returns false'. Refute it at one input. -/
def boundSoundWrong : ChangeSpec := { name := "boundSound", fn := fun _ => fun
  | [d1, d2, d3] => { results := [.lit (.bool false)], args := [d1, d2, d3] }
  | _ => none }
def BoundSoundWrongFalsely : Prop := boundSoundRow.holds Try.pinned (OpenSpec.ofChange boundSoundWrong)

/-- 'saleroomlaw22.BoundFixes': WHATEVER THE INPUT: true; the input reads as it did. -/
def boundFixesSpec : ChangeSpec := { name := "boundFixes", fn := fun _ => fun
  | [d1, d2, d3, d4] => { results := [.lit (.bool true)], args := [d1, d2, d3, d4] }
  | _ => none }
def boundFixesRow : OpenClaim := { program := "ytfmcplfbnkoglaa", sum := "bec0860125b78945b6f50295792cacb7479187c4e590950345cd971acca9f927", func := "saleroom/saleroomlaw22.BoundFixes", spec := "boundFixes", unfollowed := true, recurses := true, plainKeys := false, apart := false }
def BoundFixesSaid : Prop := boundFixesRow.holds Try.pinned (OpenSpec.ofChange boundFixesSpec)

/-- ITS FALSE NEIGHBOUR: 'it returns false'. Refute it at one input. -/
def boundFixesWrong : ChangeSpec := { name := "boundFixes", fn := fun _ => fun
  | [d1, d2, d3, d4] => { results := [.lit (.bool false)], args := [d1, d2, d3, d4] }
  | _ => none }
def BoundFixesWrongFalsely : Prop := boundFixesRow.holds Try.pinned (OpenSpec.ofChange boundFixesWrong)

/-- 'saleroomlaw22.BoundBranches': WHATEVER THE INPUT: true; the input reads as it did. -/
def boundBranchesSpec : ChangeSpec := { name := "boundBranches", fn := fun _ => fun
  | [d] => { results := [.lit (.bool true)], args := [d] }
  | _ => none }
def boundBranchesRow : OpenClaim := { program := "ytfmcplfbnkoglaa", sum := "bec0860125b78945b6f50295792cacb7479187c4e590950345cd971acca9f927", func := "saleroom/saleroomlaw22.BoundBranches", spec := "boundBranches", unfollowed := true, recurses := true, plainKeys := false, apart := false }
def BoundBranchesSaid : Prop := boundBranchesRow.holds Try.pinned (OpenSpec.ofChange boundBranchesSpec)

/-- ITS FALSE NEIGHBOUR: 'it returns false'. Refute it at one input. -/
def boundBranchesWrong : ChangeSpec := { name := "boundBranches", fn := fun _ => fun
  | [d] => { results := [.lit (.bool false)], args := [d] }
  | _ => none }
def BoundBranchesWrongFalsely : Prop := boundBranchesRow.holds Try.pinned (OpenSpec.ofChange boundBranchesWrong)

/- THE SECOND FORM. 'bulk': how many values and letters a reading holds, each counted each time it is reached (what is shared counts as often as it is met; a slice's spare places count too). A statement '..UptoSaid' is the law's where the arguments, and the package variables that the reading takes, are together of bulk at most 1048576: NARROWER than '..Said'. Prove '..Said' where nothing that the law and all that it calls make is longer than what came in: it says more and counts as full. Else prove '..UptoSaid'. A law counts once. -/
mutual
def uptoBulk {H : Type} : DataW H → Nat
  | .lit (.string bytes) => bytes.length + 1
  | .lit _ => 1
  | .nil => 1
  | .ptr d => uptoBulk d + 1
  | .slice elems spare => uptoBulkAll elems + uptoBulkAll spare + 1
  | .agg parts => uptoBulkAll parts + 1
  | .iface _ d => uptoBulk d + 1
  | .map entries => uptoBulkEntries entries + 1
  | .held _ => 1
def uptoBulkAll {H : Type} : List (DataW H) → Nat
  | [] => 0
  | d :: r => uptoBulk d + uptoBulkAll r
def uptoBulkEntries {H : Type} : List (Lit × DataW H) → Nat
  | [] => 0
  | x :: r => uptoBulkEntry x + uptoBulkEntries r
def uptoBulkEntry {H : Type} : Lit × DataW H → Nat
  | (.string bytes, d) => bytes.length + uptoBulk d + 1
  | (_, d) => uptoBulk d + 1
 end
def uptoSmall : (H : Type) → List (DataW H) → Bool := fun _ ds => decide (uptoBulkAll ds ≤ 1048576)
def OpenSpec.upto (s : _root_.Go.ChangeSpec) : _root_.Go.OpenSpec := { _root_.Go.OpenSpec.ofChange s with cond := some uptoSmall }

/-- 'saleroomlaw22.BoundPrices', WHERE WHAT IT READS IS OF BULK AT MOST 1048576: true; the input reads as it did. -/
def boundPricesUptoRow : OpenClaim := { program := "ytfmcplfbnkoglaa", sum := "bec0860125b78945b6f50295792cacb7479187c4e590950345cd971acca9f927", func := "saleroom/saleroomlaw22.BoundPrices", spec := "boundPrices", unfollowed := true, recurses := true, plainKeys := false, apart := false, narrowed := true }
def BoundPricesUptoSaid : Prop := boundPricesUptoRow.holds Try.pinned (OpenSpec.upto boundPricesSpec)

/-- 'saleroomlaw22.BoundSound', WHERE WHAT IT READS IS OF BULK AT MOST 1048576: true; the input reads as it did. -/
def boundSoundUptoRow : OpenClaim := { program := "ytfmcplfbnkoglaa", sum := "bec0860125b78945b6f50295792cacb7479187c4e590950345cd971acca9f927", func := "saleroom/saleroomlaw22.BoundSound", spec := "boundSound", unfollowed := true, recurses := true, plainKeys := false, apart := false, narrowed := true }
def BoundSoundUptoSaid : Prop := boundSoundUptoRow.holds Try.pinned (OpenSpec.upto boundSoundSpec)

/-- 'saleroomlaw22.BoundFixes', WHERE WHAT IT READS IS OF BULK AT MOST 1048576: true; the input reads as it did. -/
def boundFixesUptoRow : OpenClaim := { program := "ytfmcplfbnkoglaa", sum := "bec0860125b78945b6f50295792cacb7479187c4e590950345cd971acca9f927", func := "saleroom/saleroomlaw22.BoundFixes", spec := "boundFixes", unfollowed := true, recurses := true, plainKeys := false, apart := false, narrowed := true }
def BoundFixesUptoSaid : Prop := boundFixesUptoRow.holds Try.pinned (OpenSpec.upto boundFixesSpec)

/-- 'saleroomlaw22.BoundBranches', WHERE WHAT IT READS IS OF BULK AT MOST 1048576: true; the input reads as it did. -/
def boundBranchesUptoRow : OpenClaim := { program := "ytfmcplfbnkoglaa", sum := "bec0860125b78945b6f50295792cacb7479187c4e590950345cd971acca9f927", func := "saleroom/saleroomlaw22.BoundBranches", spec := "boundBranches", unfollowed := true, recurses := true, plainKeys := false, apart := false, narrowed := true }
def BoundBranchesUptoSaid : Prop := boundBranchesUptoRow.holds Try.pinned (OpenSpec.upto boundBranchesSpec)

end Rows
end Go.Proofs.Ytfmcplfbnkoglaa
