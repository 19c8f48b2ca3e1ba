/-
  No cell of these rows narrows 'for every input' (looked for: loops, veiled, ifaces, maps, wideKeys, modest, calm, conditions, laid).
  DERIVED. THE GIVEN ROWS OF THIS SEAT. 8 by the template 'for every input the law returns true; each argument reads behind the call as it read before'; 0 by the template 'total and deterministic' (their statements: YtbmhibiljjnfiaaTotals.lean).
  GIVEN WITH THE SEED: the statements are not yours to turn. If you find one false, say at which input.
  Laid BY PROGRAM, IN A SANDBOX (cutbox-rows.mjs): the forced cells as the released guide's own fill.sh prints them over the translation 53e7910922b1388c… (all of the seat's roots in one cut). By AI agents, Wed Nov 11 2026. No macro, syntax, notation, axiom, sorry.
-/
import Derived.Test.YtbmhibiljjnfiaaChecked
import GoSem.Claim
import GoSem.ClaimJoined
import GoSem.ClaimMapViews
import Derived.JoinedTies
import Derived.KernelRfl
namespace Go.Proofs.Ytbmhibiljjnfiaa
/- THE CELL 'sum', in the pinned program and in every row, IS THE sha256 OF THE DUMP (.gsa) THAT YtbmhibiljjnfiaaProg.lean LOADS. Nothing in Lean hashes anything: it is a label: what it is worth is what the hold of that sum in a sandbox is worth. -/
noncomputable def Try.pinned : Pinned := { name := "ytbmhibiljjnfiaa", sum := "53e7910922b1388c0818fbb32cae15d4a9719b65e8ea3820d47deca9853cbea0", checked := Try.checked }
namespace Rows
def none {H : Type} : Left H := { results := [], args := [] }

/-- 'saleroomlaw20.ProblemChecks': WHATEVER THE INPUT: true; the input reads as it did. -/
def problemChecksSpec : ChangeSpec := { name := "problemChecks", fn := fun _ => fun
  | [d] => { results := [.lit (.bool true)], args := [d] }
  | _ => none }
def problemChecksRow : OpenClaim := { program := "ytbmhibiljjnfiaa", sum := "53e7910922b1388c0818fbb32cae15d4a9719b65e8ea3820d47deca9853cbea0", func := "saleroom/saleroomlaw20.ProblemChecks", spec := "problemChecks", unfollowed := true, recurses := true, plainKeys := false, apart := false }
def ProblemChecksSaid : Prop := problemChecksRow.holds Try.pinned (OpenSpec.ofChange problemChecksSpec)

/-- ITS FALSE NEIGHBOUR: 'it returns false'. Refute it at one input. -/
def problemChecksWrong : ChangeSpec := { name := "problemChecks", fn := fun _ => fun
  | [d] => { results := [.lit (.bool false)], args := [d] }
  | _ => none }
def ProblemChecksWrongFalsely : Prop := problemChecksRow.holds Try.pinned (OpenSpec.ofChange problemChecksWrong)

/-- 'saleroomlaw20.ProblemBuilds': WHATEVER THE INPUT: true; the input reads as it did. -/
def problemBuildsSpec : ChangeSpec := { name := "problemBuilds", fn := fun _ => fun
  | [d1, d2] => { results := [.lit (.bool true)], args := [d1, d2] }
  | _ => none }
def problemBuildsRow : OpenClaim := { program := "ytbmhibiljjnfiaa", sum := "53e7910922b1388c0818fbb32cae15d4a9719b65e8ea3820d47deca9853cbea0", func := "saleroom/saleroomlaw20.ProblemBuilds", spec := "problemBuilds", unfollowed := true, recurses := true, plainKeys := false, apart := false }
def ProblemBuildsSaid : Prop := problemBuildsRow.holds Try.pinned (OpenSpec.ofChange problemBuildsSpec)

/-- ITS FALSE NEIGHBOUR: 'it returns false'. Refute it at one input. -/
def problemBuildsWrong : ChangeSpec := { name := "problemBuilds", fn := fun _ => fun
  | [d1, d2] => { results := [.lit (.bool false)], args := [d1, d2] }
  | _ => none }
def ProblemBuildsWrongFalsely : Prop := problemBuildsRow.holds Try.pinned (OpenSpec.ofChange problemBuildsWrong)

/-- 'saleroomlaw20.ProblemRows': WHATEVER THE INPUT: true; the input reads as it did. -/
def problemRowsSpec : ChangeSpec := { name := "problemRows", fn := fun _ => fun
  | [d1, d2] => { results := [.lit (.bool true)], args := [d1, d2] }
  | _ => none }
def problemRowsRow : OpenClaim := { program := "ytbmhibiljjnfiaa", sum := "53e7910922b1388c0818fbb32cae15d4a9719b65e8ea3820d47deca9853cbea0", func := "saleroom/saleroomlaw20.ProblemRows", spec := "problemRows", unfollowed := true, recurses := true, plainKeys := false, apart := false }
def ProblemRowsSaid : Prop := problemRowsRow.holds Try.pinned (OpenSpec.ofChange problemRowsSpec)

/-- ITS FALSE NEIGHBOUR: 'it returns false'. Refute it at one input. -/
def problemRowsWrong : ChangeSpec := { name := "problemRows", fn := fun _ => fun
  | [d1, d2] => { results := [.lit (.bool false)], args := [d1, d2] }
  | _ => none }
def ProblemRowsWrongFalsely : Prop := problemRowsRow.holds Try.pinned (OpenSpec.ofChange problemRowsWrong)

/-- 'saleroomlaw20.ProblemRelaxed': WHATEVER THE INPUT: true; the input reads as it did. -/
def problemRelaxedSpec : ChangeSpec := { name := "problemRelaxed", fn := fun _ => fun
  | [d1, d2] => { results := [.lit (.bool true)], args := [d1, d2] }
  | _ => none }
def problemRelaxedRow : OpenClaim := { program := "ytbmhibiljjnfiaa", sum := "53e7910922b1388c0818fbb32cae15d4a9719b65e8ea3820d47deca9853cbea0", func := "saleroom/saleroomlaw20.ProblemRelaxed", spec := "problemRelaxed", unfollowed := true, recurses := true, plainKeys := false, apart := false }
def ProblemRelaxedSaid : Prop := problemRelaxedRow.holds Try.pinned (OpenSpec.ofChange problemRelaxedSpec)

/-- ITS FALSE NEIGHBOUR: 'it returns false'. Refute it at one input. -/
def problemRelaxedWrong : ChangeSpec := { name := "problemRelaxed", fn := fun _ => fun
  | [d1, d2] => { results := [.lit (.bool false)], args := [d1, d2] }
  | _ => none }
def ProblemRelaxedWrongFalsely : Prop := problemRelaxedRow.holds Try.pinned (OpenSpec.ofChange problemRelaxedWrong)

/-- 'saleroomlaw20.ProblemWithout': WHATEVER THE INPUT: true; the input reads as it did. -/
def problemWithoutSpec : ChangeSpec := { name := "problemWithout", fn := fun _ => fun
  | [d1, d2, d3] => { results := [.lit (.bool true)], args := [d1, d2, d3] }
  | _ => none }
def problemWithoutRow : OpenClaim := { program := "ytbmhibiljjnfiaa", sum := "53e7910922b1388c0818fbb32cae15d4a9719b65e8ea3820d47deca9853cbea0", func := "saleroom/saleroomlaw20.ProblemWithout", spec := "problemWithout", unfollowed := true, recurses := true, plainKeys := false, apart := false }
def ProblemWithoutSaid : Prop := problemWithoutRow.holds Try.pinned (OpenSpec.ofChange problemWithoutSpec)

/-- ITS FALSE NEIGHBOUR: 'it returns false'. Refute it at one input. -/
def problemWithoutWrong : ChangeSpec := { name := "problemWithout", fn := fun _ => fun
  | [d1, d2, d3] => { results := [.lit (.bool false)], args := [d1, d2, d3] }
  | _ => none }
def ProblemWithoutWrongFalsely : Prop := problemWithoutRow.holds Try.pinned (OpenSpec.ofChange problemWithoutWrong)

/-- 'saleroomlaw20.ProblemCompares': WHATEVER THE INPUT: true; the input reads as it did. -/
def problemComparesSpec : ChangeSpec := { name := "problemCompares", fn := fun _ => fun
  | [d1, d2, d3] => { results := [.lit (.bool true)], args := [d1, d2, d3] }
  | _ => none }
def problemComparesRow : OpenClaim := { program := "ytbmhibiljjnfiaa", sum := "53e7910922b1388c0818fbb32cae15d4a9719b65e8ea3820d47deca9853cbea0", func := "saleroom/saleroomlaw20.ProblemCompares", spec := "problemCompares", unfollowed := true, recurses := true, plainKeys := false, apart := false }
def ProblemComparesSaid : Prop := problemComparesRow.holds Try.pinned (OpenSpec.ofChange problemComparesSpec)

/-- ITS FALSE NEIGHBOUR: 'it returns false'. Refute it at one input. -/
def problemComparesWrong : ChangeSpec := { name := "problemCompares", fn := fun _ => fun
  | [d1, d2, d3] => { results := [.lit (.bool false)], args := [d1, d2, d3] }
  | _ => none }
def ProblemComparesWrongFalsely : Prop := problemComparesRow.holds Try.pinned (OpenSpec.ofChange problemComparesWrong)

/-- 'saleroomlaw20.ProblemRelaxes': WHATEVER THE INPUT: true; the input reads as it did. -/
def problemRelaxesSpec : ChangeSpec := { name := "problemRelaxes", fn := fun _ => fun
  | [d1, d2] => { results := [.lit (.bool true)], args := [d1, d2] }
  | _ => none }
def problemRelaxesRow : OpenClaim := { program := "ytbmhibiljjnfiaa", sum := "53e7910922b1388c0818fbb32cae15d4a9719b65e8ea3820d47deca9853cbea0", func := "saleroom/saleroomlaw20.ProblemRelaxes", spec := "problemRelaxes", unfollowed := true, recurses := true, plainKeys := false, apart := false }
def ProblemRelaxesSaid : Prop := problemRelaxesRow.holds Try.pinned (OpenSpec.ofChange problemRelaxesSpec)

/-- ITS FALSE NEIGHBOUR: 'it returns false'. Refute it at one input. -/
def problemRelaxesWrong : ChangeSpec := { name := "problemRelaxes", fn := fun _ => fun
  | [d1, d2] => { results := [.lit (.bool false)], args := [d1, d2] }
  | _ => none }
def ProblemRelaxesWrongFalsely : Prop := problemRelaxesRow.holds Try.pinned (OpenSpec.ofChange problemRelaxesWrong)

/-- 'saleroomlaw20.ProblemSells': WHATEVER THE INPUT: true; the input reads as it did. -/
def problemSellsSpec : ChangeSpec := { name := "problemSells", fn := fun _ => fun
  | [d1, d2, d3] => { results := [.lit (.bool true)], args := [d1, d2, d3] }
  | _ => none }
def problemSellsRow : OpenClaim := { program := "ytbmhibiljjnfiaa", sum := "53e7910922b1388c0818fbb32cae15d4a9719b65e8ea3820d47deca9853cbea0", func := "saleroom/saleroomlaw20.ProblemSells", spec := "problemSells", unfollowed := true, recurses := true, plainKeys := false, apart := false }
def ProblemSellsSaid : Prop := problemSellsRow.holds Try.pinned (OpenSpec.ofChange problemSellsSpec)

/-- ITS FALSE NEIGHBOUR: 'it returns false'. Refute it at one input. -/
def problemSellsWrong : ChangeSpec := { name := "problemSells", fn := fun _ => fun
  | [d1, d2, d3] => { results := [.lit (.bool false)], args := [d1, d2, d3] }
  | _ => none }
def ProblemSellsWrongFalsely : Prop := problemSellsRow.holds Try.pinned (OpenSpec.ofChange problemSellsWrong)

/- THE SECOND FORM. 'bulk': how many values and letters a reading holds, each counted each time it is reached (what is shared counts as often as it is met; a slice's spare places count too). A statement '..UptoSaid' is the law's where the arguments, and the package variables that the reading takes, are together of bulk at most 1048576: NARROWER than '..Said'. Prove '..Said' where nothing that the law and all that it calls make is longer than what came in: it says more and counts as full. Else prove '..UptoSaid'. A law counts once. -/
mutual
def uptoBulk {H : Type} : DataW H → Nat
  | .lit (.string bytes) => bytes.length + 1
  | .lit _ => 1
  | .nil => 1
  | .ptr d => uptoBulk d + 1
  | .slice elems spare => uptoBulkAll elems + uptoBulkAll spare + 1
  | .agg parts => uptoBulkAll parts + 1
  | .iface _ d => uptoBulk d + 1
  | .map entries => uptoBulkEntries entries + 1
  | .held _ => 1
def uptoBulkAll {H : Type} : List (DataW H) → Nat
  | [] => 0
  | d :: r => uptoBulk d + uptoBulkAll r
def uptoBulkEntries {H : Type} : List (Lit × DataW H) → Nat
  | [] => 0
  | x :: r => uptoBulkEntry x + uptoBulkEntries r
def uptoBulkEntry {H : Type} : Lit × DataW H → Nat
  | (.string bytes, d) => bytes.length + uptoBulk d + 1
  | (_, d) => uptoBulk d + 1
 end
def uptoSmall : (H : Type) → List (DataW H) → Bool := fun _ ds => decide (uptoBulkAll ds ≤ 1048576)
def OpenSpec.upto (s : _root_.Go.ChangeSpec) : _root_.Go.OpenSpec := { _root_.Go.OpenSpec.ofChange s with cond := some uptoSmall }

/-- 'saleroomlaw20.ProblemChecks', WHERE WHAT IT READS IS OF BULK AT MOST 1048576: true; the input reads as it did. -/
def problemChecksUptoRow : OpenClaim := { program := "ytbmhibiljjnfiaa", sum := "53e7910922b1388c0818fbb32cae15d4a9719b65e8ea3820d47deca9853cbea0", func := "saleroom/saleroomlaw20.ProblemChecks", spec := "problemChecks", unfollowed := true, recurses := true, plainKeys := false, apart := false, narrowed := true }
def ProblemChecksUptoSaid : Prop := problemChecksUptoRow.holds Try.pinned (OpenSpec.upto problemChecksSpec)

/-- 'saleroomlaw20.ProblemBuilds', WHERE WHAT IT READS IS OF BULK AT MOST 1048576: true; the input reads as it did. -/
def problemBuildsUptoRow : OpenClaim := { program := "ytbmhibiljjnfiaa", sum := "53e7910922b1388c0818fbb32cae15d4a9719b65e8ea3820d47deca9853cbea0", func := "saleroom/saleroomlaw20.ProblemBuilds", spec := "problemBuilds", unfollowed := true, recurses := true, plainKeys := false, apart := false, narrowed := true }
def ProblemBuildsUptoSaid : Prop := problemBuildsUptoRow.holds Try.pinned (OpenSpec.upto problemBuildsSpec)

/-- 'saleroomlaw20.ProblemRows', WHERE WHAT IT READS IS OF BULK AT MOST 1048576: true; the input reads as it did. -/
def problemRowsUptoRow : OpenClaim := { program := "ytbmhibiljjnfiaa", sum := "53e7910922b1388c0818fbb32cae15d4a9719b65e8ea3820d47deca9853cbea0", func := "saleroom/saleroomlaw20.ProblemRows", spec := "problemRows", unfollowed := true, recurses := true, plainKeys := false, apart := false, narrowed := true }
def ProblemRowsUptoSaid : Prop := problemRowsUptoRow.holds Try.pinned (OpenSpec.upto problemRowsSpec)

/-- 'saleroomlaw20.ProblemRelaxed', WHERE WHAT IT READS IS OF BULK AT MOST 1048576: true; the input reads as it did. -/
def problemRelaxedUptoRow : OpenClaim := { program := "ytbmhibiljjnfiaa", sum := "53e7910922b1388c0818fbb32cae15d4a9719b65e8ea3820d47deca9853cbea0", func := "saleroom/saleroomlaw20.ProblemRelaxed", spec := "problemRelaxed", unfollowed := true, recurses := true, plainKeys := false, apart := false, narrowed := true }
def ProblemRelaxedUptoSaid : Prop := problemRelaxedUptoRow.holds Try.pinned (OpenSpec.upto problemRelaxedSpec)

/-- 'saleroomlaw20.ProblemWithout', WHERE WHAT IT READS IS OF BULK AT MOST 1048576: true; the input reads as it did. -/
def problemWithoutUptoRow : OpenClaim := { program := "ytbmhibiljjnfiaa", sum := "53e7910922b1388c0818fbb32cae15d4a9719b65e8ea3820d47deca9853cbea0", func := "saleroom/saleroomlaw20.ProblemWithout", spec := "problemWithout", unfollowed := true, recurses := true, plainKeys := false, apart := false, narrowed := true }
def ProblemWithoutUptoSaid : Prop := problemWithoutUptoRow.holds Try.pinned (OpenSpec.upto problemWithoutSpec)

/-- 'saleroomlaw20.ProblemCompares', WHERE WHAT IT READS IS OF BULK AT MOST 1048576: true; the input reads as it did. -/
def problemComparesUptoRow : OpenClaim := { program := "ytbmhibiljjnfiaa", sum := "53e7910922b1388c0818fbb32cae15d4a9719b65e8ea3820d47deca9853cbea0", func := "saleroom/saleroomlaw20.ProblemCompares", spec := "problemCompares", unfollowed := true, recurses := true, plainKeys := false, apart := false, narrowed := true }
def ProblemComparesUptoSaid : Prop := problemComparesUptoRow.holds Try.pinned (OpenSpec.upto problemComparesSpec)

/-- 'saleroomlaw20.ProblemRelaxes', WHERE WHAT IT READS IS OF BULK AT MOST 1048576: true; the input reads as it did. -/
def problemRelaxesUptoRow : OpenClaim := { program := "ytbmhibiljjnfiaa", sum := "53e7910922b1388c0818fbb32cae15d4a9719b65e8ea3820d47deca9853cbea0", func := "saleroom/saleroomlaw20.ProblemRelaxes", spec := "problemRelaxes", unfollowed := true, recurses := true, plainKeys := false, apart := false, narrowed := true }
def ProblemRelaxesUptoSaid : Prop := problemRelaxesUptoRow.holds Try.pinned (OpenSpec.upto problemRelaxesSpec)

/-- 'saleroomlaw20.ProblemSells', WHERE WHAT IT READS IS OF BULK AT MOST 1048576: true; the input reads as it did. -/
def problemSellsUptoRow : OpenClaim := { program := "ytbmhibiljjnfiaa", sum := "53e7910922b1388c0818fbb32cae15d4a9719b65e8ea3820d47deca9853cbea0", func := "saleroom/saleroomlaw20.ProblemSells", spec := "problemSells", unfollowed := true, recurses := true, plainKeys := false, apart := false, narrowed := true }
def ProblemSellsUptoSaid : Prop := problemSellsUptoRow.holds Try.pinned (OpenSpec.upto problemSellsSpec)

end Rows
end Go.Proofs.Ytbmhibiljjnfiaa
