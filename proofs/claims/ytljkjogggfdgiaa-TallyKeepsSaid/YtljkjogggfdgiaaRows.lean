/-
  No cell of these rows narrows 'for every input' (looked for: loops, veiled, ifaces, maps, wideKeys, modest, calm, conditions, laid).
  DERIVED. THE GIVEN ROWS OF THIS SEAT. 5 by the template 'for every input the law returns true; each argument reads behind the call as it read before'; 0 by the template 'total and deterministic' (their statements: YtljkjogggfdgiaaTotals.lean).
  GIVEN WITH THE SEED: the statements are not yours to turn. If you find one false, say at which input.
  Laid BY PROGRAM, IN A SANDBOX (cutbox-rows.mjs): the forced cells as the released guide's own fill.sh prints them over the translation 3a01f23c5ea3094e… (all of the seat's roots in one cut). By AI agents, Wed Nov 11 2026. No macro, syntax, notation, axiom, sorry.
-/
import Derived.Test.YtljkjogggfdgiaaChecked
import GoSem.Claim
import GoSem.ClaimJoined
import GoSem.ClaimMapViews
import Derived.JoinedTies
import Derived.KernelRfl
namespace Go.Proofs.Ytljkjogggfdgiaa
/- THE CELL 'sum', in the pinned program and in every row, IS THE sha256 OF THE DUMP (.gsa) THAT YtljkjogggfdgiaaProg.lean LOADS. Nothing in Lean hashes anything: it is a label: what it is worth is what the hold of that sum in a sandbox is worth. -/
noncomputable def Try.pinned : Pinned := { name := "ytljkjogggfdgiaa", sum := "3a01f23c5ea3094e208728f3951bbdeddfdb418b4946ddc2f9cb4f804662488e", checked := Try.checked }
namespace Rows
def none {H : Type} : Left H := { results := [], args := [] }

/-- 'saleroomlaw35.TallySums': WHATEVER THE INPUT: true; the input reads as it did. -/
def tallySumsSpec : ChangeSpec := { name := "tallySums", fn := fun _ => fun
  | [d1, d2] => { results := [.lit (.bool true)], args := [d1, d2] }
  | _ => none }
def tallySumsRow : OpenClaim := { program := "ytljkjogggfdgiaa", sum := "3a01f23c5ea3094e208728f3951bbdeddfdb418b4946ddc2f9cb4f804662488e", func := "saleroom/saleroomlaw35.TallySums", spec := "tallySums", apart := false }
def TallySumsSaid : Prop := tallySumsRow.holds Try.pinned (OpenSpec.ofChange tallySumsSpec)

/-- ITS FALSE NEIGHBOUR: 'it returns false'. Refute it at one input. -/
def tallySumsWrong : ChangeSpec := { name := "tallySums", fn := fun _ => fun
  | [d1, d2] => { results := [.lit (.bool false)], args := [d1, d2] }
  | _ => none }
def TallySumsWrongFalsely : Prop := tallySumsRow.holds Try.pinned (OpenSpec.ofChange tallySumsWrong)

/-- 'saleroomlaw35.TallyChanges': WHATEVER THE INPUT: true; the input reads as it did. -/
def tallyChangesSpec : ChangeSpec := { name := "tallyChanges", fn := fun _ => fun
  | [d1, d2] => { results := [.lit (.bool true)], args := [d1, d2] }
  | _ => none }
def tallyChangesRow : OpenClaim := { program := "ytljkjogggfdgiaa", sum := "3a01f23c5ea3094e208728f3951bbdeddfdb418b4946ddc2f9cb4f804662488e", func := "saleroom/saleroomlaw35.TallyChanges", spec := "tallyChanges", apart := false }
def TallyChangesSaid : Prop := tallyChangesRow.holds Try.pinned (OpenSpec.ofChange tallyChangesSpec)

/-- ITS FALSE NEIGHBOUR: 'it returns false'. Refute it at one input. -/
def tallyChangesWrong : ChangeSpec := { name := "tallyChanges", fn := fun _ => fun
  | [d1, d2] => { results := [.lit (.bool false)], args := [d1, d2] }
  | _ => none }
def TallyChangesWrongFalsely : Prop := tallyChangesRow.holds Try.pinned (OpenSpec.ofChange tallyChangesWrong)

/-- 'saleroomlaw35.TallyBalances': WHATEVER THE INPUT: true; the input reads as it did. -/
def tallyBalancesSpec : ChangeSpec := { name := "tallyBalances", fn := fun _ => fun
  | [d1, d2] => { results := [.lit (.bool true)], args := [d1, d2] }
  | _ => none }
def tallyBalancesRow : OpenClaim := { program := "ytljkjogggfdgiaa", sum := "3a01f23c5ea3094e208728f3951bbdeddfdb418b4946ddc2f9cb4f804662488e", func := "saleroom/saleroomlaw35.TallyBalances", spec := "tallyBalances", apart := false }
def TallyBalancesSaid : Prop := tallyBalancesRow.holds Try.pinned (OpenSpec.ofChange tallyBalancesSpec)

/-- ITS FALSE NEIGHBOUR: 'it returns false'. Refute it at one input. -/
def tallyBalancesWrong : ChangeSpec := { name := "tallyBalances", fn := fun _ => fun
  | [d1, d2] => { results := [.lit (.bool false)], args := [d1, d2] }
  | _ => none }
def TallyBalancesWrongFalsely : Prop := tallyBalancesRow.holds Try.pinned (OpenSpec.ofChange tallyBalancesWrong)

/-- 'saleroomlaw35.TallyOrder': WHATEVER THE INPUT: true; the input reads as it did. -/
def tallyOrderSpec : ChangeSpec := { name := "tallyOrder", fn := fun _ => fun
  | [d1, d2] => { results := [.lit (.bool true)], args := [d1, d2] }
  | _ => none }
def tallyOrderRow : OpenClaim := { program := "ytljkjogggfdgiaa", sum := "3a01f23c5ea3094e208728f3951bbdeddfdb418b4946ddc2f9cb4f804662488e", func := "saleroom/saleroomlaw35.TallyOrder", spec := "tallyOrder", apart := false }
def TallyOrderSaid : Prop := tallyOrderRow.holds Try.pinned (OpenSpec.ofChange tallyOrderSpec)

/-- ITS FALSE NEIGHBOUR: 'it returns false'. Refute it at one input. -/
def tallyOrderWrong : ChangeSpec := { name := "tallyOrder", fn := fun _ => fun
  | [d1, d2] => { results := [.lit (.bool false)], args := [d1, d2] }
  | _ => none }
def TallyOrderWrongFalsely : Prop := tallyOrderRow.holds Try.pinned (OpenSpec.ofChange tallyOrderWrong)

/-- 'saleroomlaw35.TallyKeeps': WHATEVER THE INPUT: true; the input reads as it did. -/
def tallyKeepsSpec : ChangeSpec := { name := "tallyKeeps", fn := fun _ => fun
  | [d1, d2] => { results := [.lit (.bool true)], args := [d1, d2] }
  | _ => none }
def tallyKeepsRow : OpenClaim := { program := "ytljkjogggfdgiaa", sum := "3a01f23c5ea3094e208728f3951bbdeddfdb418b4946ddc2f9cb4f804662488e", func := "saleroom/saleroomlaw35.TallyKeeps", spec := "tallyKeeps", apart := false }
def TallyKeepsSaid : Prop := tallyKeepsRow.holds Try.pinned (OpenSpec.ofChange tallyKeepsSpec)

/-- ITS FALSE NEIGHBOUR: 'it returns false'. Refute it at one input. -/
def tallyKeepsWrong : ChangeSpec := { name := "tallyKeeps", fn := fun _ => fun
  | [d1, d2] => { results := [.lit (.bool false)], args := [d1, d2] }
  | _ => none }
def TallyKeepsWrongFalsely : Prop := tallyKeepsRow.holds Try.pinned (OpenSpec.ofChange tallyKeepsWrong)

/- THE SECOND FORM. 'bulk': how many values and letters a reading holds, each counted each time it is reached (what is shared counts as often as it is met; a slice's spare places count too). A statement '..UptoSaid' is the law's where the arguments, and the package variables that the reading takes, are together of bulk at most 1048576: NARROWER than '..Said'. Prove '..Said' where nothing that the law and all that it calls make is longer than what came in: it says more and counts as full. Else prove '..UptoSaid'. A law counts once. -/
mutual
def uptoBulk {H : Type} : DataW H → Nat
  | .lit (.string bytes) => bytes.length + 1
  | .lit _ => 1
  | .nil => 1
  | .ptr d => uptoBulk d + 1
  | .slice elems spare => uptoBulkAll elems + uptoBulkAll spare + 1
  | .agg parts => uptoBulkAll parts + 1
  | .iface _ d => uptoBulk d + 1
  | .map entries => uptoBulkEntries entries + 1
  | .held _ => 1
def uptoBulkAll {H : Type} : List (DataW H) → Nat
  | [] => 0
  | d :: r => uptoBulk d + uptoBulkAll r
def uptoBulkEntries {H : Type} : List (Lit × DataW H) → Nat
  | [] => 0
  | x :: r => uptoBulkEntry x + uptoBulkEntries r
def uptoBulkEntry {H : Type} : Lit × DataW H → Nat
  | (.string bytes, d) => bytes.length + uptoBulk d + 1
  | (_, d) => uptoBulk d + 1
 end
def uptoSmall : (H : Type) → List (DataW H) → Bool := fun _ ds => decide (uptoBulkAll ds ≤ 1048576)
def OpenSpec.upto (s : _root_.Go.ChangeSpec) : _root_.Go.OpenSpec := { _root_.Go.OpenSpec.ofChange s with cond := some uptoSmall }

/-- 'saleroomlaw35.TallySums', WHERE WHAT IT READS IS OF BULK AT MOST 1048576: true; the input reads as it did. -/
def tallySumsUptoRow : OpenClaim := { program := "ytljkjogggfdgiaa", sum := "3a01f23c5ea3094e208728f3951bbdeddfdb418b4946ddc2f9cb4f804662488e", func := "saleroom/saleroomlaw35.TallySums", spec := "tallySums", apart := false, narrowed := true }
def TallySumsUptoSaid : Prop := tallySumsUptoRow.holds Try.pinned (OpenSpec.upto tallySumsSpec)

/-- 'saleroomlaw35.TallyChanges', WHERE WHAT IT READS IS OF BULK AT MOST 1048576: true; the input reads as it did. -/
def tallyChangesUptoRow : OpenClaim := { program := "ytljkjogggfdgiaa", sum := "3a01f23c5ea3094e208728f3951bbdeddfdb418b4946ddc2f9cb4f804662488e", func := "saleroom/saleroomlaw35.TallyChanges", spec := "tallyChanges", apart := false, narrowed := true }
def TallyChangesUptoSaid : Prop := tallyChangesUptoRow.holds Try.pinned (OpenSpec.upto tallyChangesSpec)

/-- 'saleroomlaw35.TallyBalances', WHERE WHAT IT READS IS OF BULK AT MOST 1048576: true; the input reads as it did. -/
def tallyBalancesUptoRow : OpenClaim := { program := "ytljkjogggfdgiaa", sum := "3a01f23c5ea3094e208728f3951bbdeddfdb418b4946ddc2f9cb4f804662488e", func := "saleroom/saleroomlaw35.TallyBalances", spec := "tallyBalances", apart := false, narrowed := true }
def TallyBalancesUptoSaid : Prop := tallyBalancesUptoRow.holds Try.pinned (OpenSpec.upto tallyBalancesSpec)

/-- 'saleroomlaw35.TallyOrder', WHERE WHAT IT READS IS OF BULK AT MOST 1048576: true; the input reads as it did. -/
def tallyOrderUptoRow : OpenClaim := { program := "ytljkjogggfdgiaa", sum := "3a01f23c5ea3094e208728f3951bbdeddfdb418b4946ddc2f9cb4f804662488e", func := "saleroom/saleroomlaw35.TallyOrder", spec := "tallyOrder", apart := false, narrowed := true }
def TallyOrderUptoSaid : Prop := tallyOrderUptoRow.holds Try.pinned (OpenSpec.upto tallyOrderSpec)

/-- 'saleroomlaw35.TallyKeeps', WHERE WHAT IT READS IS OF BULK AT MOST 1048576: true; the input reads as it did. -/
def tallyKeepsUptoRow : OpenClaim := { program := "ytljkjogggfdgiaa", sum := "3a01f23c5ea3094e208728f3951bbdeddfdb418b4946ddc2f9cb4f804662488e", func := "saleroom/saleroomlaw35.TallyKeeps", spec := "tallyKeeps", apart := false, narrowed := true }
def TallyKeepsUptoSaid : Prop := tallyKeepsUptoRow.holds Try.pinned (OpenSpec.upto tallyKeepsSpec)

end Rows
end Go.Proofs.Ytljkjogggfdgiaa
