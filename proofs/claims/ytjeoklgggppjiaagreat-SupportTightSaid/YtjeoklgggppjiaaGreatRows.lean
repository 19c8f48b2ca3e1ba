/-
  No cell of these rows narrows 'for every input' (looked for: loops, veiled, ifaces, maps, wideKeys, modest, calm, conditions, laid).
  DERIVED. THE GIVEN ROWS OF THIS SEAT. 6 by the template 'for every input the law returns true; each argument reads behind the call as it read before'; 0 by the template 'total and deterministic' (their statements: YtjeoklgggppjiaaGreatTotals.lean).
  GIVEN WITH THE SEED: the statements are not yours to turn. If you find one false, say at which input.
  Laid BY PROGRAM, IN A SANDBOX (cutbox-rows.mjs): the forced cells as the released guide's own fill.sh prints them over the translation b825e26d5b930633… (all of the seat's roots in one cut). By AI agents, Wed Nov 11 2026. No macro, syntax, notation, axiom, sorry.
-/
import Derived.Test.YtjeoklgggppjiaaGreatChecked
import GoSem.Claim
import GoSem.ClaimJoined
import GoSem.ClaimMapViews
import Derived.JoinedTies
import Derived.KernelRfl
namespace Go.Proofs.YtjeoklgggppjiaaGreat
/- THE CELL 'sum', in the pinned program and in every row, IS THE sha256 OF THE DUMP (.gsa) THAT YtjeoklgggppjiaaGreatProg.lean LOADS. Nothing in Lean hashes anything: it is a label: what it is worth is what the hold of that sum in a sandbox is worth. -/
noncomputable def Tryz.pinned : Pinned := { name := "ytjeoklgggppjiaagreat", sum := "b825e26d5b930633ec5fadbfbcaa31244247875a7e54da08b74e33bc52ff229c", checked := Tryz.checked }
namespace Rows
def none {H : Type} : Left H := { results := [], args := [] }

/-- 'saleroomlaw53.SupportProgram': WHATEVER THE INPUT: true; the input reads as it did. -/
def supportProgramSpec : ChangeSpec := { name := "supportProgram", fn := fun _ => fun
  | [d1, d2] => { results := [.lit (.bool true)], args := [d1, d2] }
  | _ => none }
def supportProgramRow : OpenClaim := { program := "ytjeoklgggppjiaagreat", sum := "b825e26d5b930633ec5fadbfbcaa31244247875a7e54da08b74e33bc52ff229c", func := "saleroom/saleroomlaw53.SupportProgram", spec := "supportProgram", unfollowed := true, recurses := true, plainKeys := false, apart := false }
def SupportProgramSaid : Prop := supportProgramRow.holds Tryz.pinned (OpenSpec.ofChange supportProgramSpec)

/-- ITS FALSE NEIGHBOUR: 'it returns false'. Refute it at one input. -/
def supportProgramWrong : ChangeSpec := { name := "supportProgram", fn := fun _ => fun
  | [d1, d2] => { results := [.lit (.bool false)], args := [d1, d2] }
  | _ => none }
def SupportProgramWrongFalsely : Prop := supportProgramRow.holds Tryz.pinned (OpenSpec.ofChange supportProgramWrong)

/-- 'saleroomlaw53.SupportErrors': WHATEVER THE INPUT: true; the input reads as it did. -/
def supportErrorsSpec : ChangeSpec := { name := "supportErrors", fn := fun _ => fun
  | [d1, d2] => { results := [.lit (.bool true)], args := [d1, d2] }
  | _ => none }
def supportErrorsRow : OpenClaim := { program := "ytjeoklgggppjiaagreat", sum := "b825e26d5b930633ec5fadbfbcaa31244247875a7e54da08b74e33bc52ff229c", func := "saleroom/saleroomlaw53.SupportErrors", spec := "supportErrors", unfollowed := true, recurses := true, plainKeys := false, apart := false }
def SupportErrorsSaid : Prop := supportErrorsRow.holds Tryz.pinned (OpenSpec.ofChange supportErrorsSpec)

/-- ITS FALSE NEIGHBOUR: 'it returns false'. Refute it at one input. -/
def supportErrorsWrong : ChangeSpec := { name := "supportErrors", fn := fun _ => fun
  | [d1, d2] => { results := [.lit (.bool false)], args := [d1, d2] }
  | _ => none }
def SupportErrorsWrongFalsely : Prop := supportErrorsRow.holds Tryz.pinned (OpenSpec.ofChange supportErrorsWrong)

/-- 'saleroomlaw53.SupportChecks': WHATEVER THE INPUT: true; the input reads as it did. -/
def supportChecksSpec : ChangeSpec := { name := "supportChecks", fn := fun _ => fun
  | [d1, d2, d3, d4] => { results := [.lit (.bool true)], args := [d1, d2, d3, d4] }
  | _ => none }
def supportChecksRow : OpenClaim := { program := "ytjeoklgggppjiaagreat", sum := "b825e26d5b930633ec5fadbfbcaa31244247875a7e54da08b74e33bc52ff229c", func := "saleroom/saleroomlaw53.SupportChecks", spec := "supportChecks", unfollowed := true, recurses := true, plainKeys := false, apart := false }
def SupportChecksSaid : Prop := supportChecksRow.holds Tryz.pinned (OpenSpec.ofChange supportChecksSpec)

/-- ITS FALSE NEIGHBOUR: 'it returns false'. Refute it at one input. -/
def supportChecksWrong : ChangeSpec := { name := "supportChecks", fn := fun _ => fun
  | [d1, d2, d3, d4] => { results := [.lit (.bool false)], args := [d1, d2, d3, d4] }
  | _ => none }
def SupportChecksWrongFalsely : Prop := supportChecksRow.holds Tryz.pinned (OpenSpec.ofChange supportChecksWrong)

/-- 'saleroomlaw53.SupportExplains': WHATEVER THE INPUT: true; the input reads as it did. -/
def supportExplainsSpec : ChangeSpec := { name := "supportExplains", fn := fun _ => fun
  | [d1, d2] => { results := [.lit (.bool true)], args := [d1, d2] }
  | _ => none }
def supportExplainsRow : OpenClaim := { program := "ytjeoklgggppjiaagreat", sum := "b825e26d5b930633ec5fadbfbcaa31244247875a7e54da08b74e33bc52ff229c", func := "saleroom/saleroomlaw53.SupportExplains", spec := "supportExplains", unfollowed := true, recurses := true, plainKeys := false, apart := false }
def SupportExplainsSaid : Prop := supportExplainsRow.holds Tryz.pinned (OpenSpec.ofChange supportExplainsSpec)

/-- ITS FALSE NEIGHBOUR: 'it returns false'. Refute it at one input. -/
def supportExplainsWrong : ChangeSpec := { name := "supportExplains", fn := fun _ => fun
  | [d1, d2] => { results := [.lit (.bool false)], args := [d1, d2] }
  | _ => none }
def SupportExplainsWrongFalsely : Prop := supportExplainsRow.holds Tryz.pinned (OpenSpec.ofChange supportExplainsWrong)

/-- 'saleroomlaw53.SupportCosts': WHATEVER THE INPUT: true; the input reads as it did. -/
def supportCostsSpec : ChangeSpec := { name := "supportCosts", fn := fun _ => fun
  | [d1, d2, d3, d4, d5] => { results := [.lit (.bool true)], args := [d1, d2, d3, d4, d5] }
  | _ => none }
def supportCostsRow : OpenClaim := { program := "ytjeoklgggppjiaagreat", sum := "b825e26d5b930633ec5fadbfbcaa31244247875a7e54da08b74e33bc52ff229c", func := "saleroom/saleroomlaw53.SupportCosts", spec := "supportCosts", unfollowed := true, recurses := true, plainKeys := false, apart := false }
def SupportCostsSaid : Prop := supportCostsRow.holds Tryz.pinned (OpenSpec.ofChange supportCostsSpec)

/-- ITS FALSE NEIGHBOUR: 'it returns false'. Refute it at one input. -/
def supportCostsWrong : ChangeSpec := { name := "supportCosts", fn := fun _ => fun
  | [d1, d2, d3, d4, d5] => { results := [.lit (.bool false)], args := [d1, d2, d3, d4, d5] }
  | _ => none }
def SupportCostsWrongFalsely : Prop := supportCostsRow.holds Tryz.pinned (OpenSpec.ofChange supportCostsWrong)

/-- 'saleroomlaw53.SupportTight': WHATEVER THE INPUT: true; the input reads as it did. -/
def supportTightSpec : ChangeSpec := { name := "supportTight", fn := fun _ => fun
  | [d] => { results := [.lit (.bool true)], args := [d] }
  | _ => none }
def supportTightRow : OpenClaim := { program := "ytjeoklgggppjiaagreat", sum := "b825e26d5b930633ec5fadbfbcaa31244247875a7e54da08b74e33bc52ff229c", func := "saleroom/saleroomlaw53.SupportTight", spec := "supportTight", unfollowed := true, recurses := true, plainKeys := false, apart := false }
def SupportTightSaid : Prop := supportTightRow.holds Tryz.pinned (OpenSpec.ofChange supportTightSpec)

/-- ITS FALSE NEIGHBOUR: 'it returns false'. Refute it at one input. -/
def supportTightWrong : ChangeSpec := { name := "supportTight", fn := fun _ => fun
  | [d] => { results := [.lit (.bool false)], args := [d] }
  | _ => none }
def SupportTightWrongFalsely : Prop := supportTightRow.holds Tryz.pinned (OpenSpec.ofChange supportTightWrong)

/- THE SECOND FORM. 'bulk': how many values and letters a reading holds, each counted each time it is reached (what is shared counts as often as it is met; a slice's spare places count too). A statement '..UptoSaid' is the law's where the arguments, and the package variables that the reading takes, are together of bulk at most 1048576: NARROWER than '..Said'. Prove '..Said' where nothing that the law and all that it calls make is longer than what came in: it says more and counts as full. Else prove '..UptoSaid'. A law counts once. -/
mutual
def uptoBulk {H : Type} : DataW H → Nat
  | .lit (.string bytes) => bytes.length + 1
  | .lit _ => 1
  | .nil => 1
  | .ptr d => uptoBulk d + 1
  | .slice elems spare => uptoBulkAll elems + uptoBulkAll spare + 1
  | .agg parts => uptoBulkAll parts + 1
  | .iface _ d => uptoBulk d + 1
  | .map entries => uptoBulkEntries entries + 1
  | .held _ => 1
def uptoBulkAll {H : Type} : List (DataW H) → Nat
  | [] => 0
  | d :: r => uptoBulk d + uptoBulkAll r
def uptoBulkEntries {H : Type} : List (Lit × DataW H) → Nat
  | [] => 0
  | x :: r => uptoBulkEntry x + uptoBulkEntries r
def uptoBulkEntry {H : Type} : Lit × DataW H → Nat
  | (.string bytes, d) => bytes.length + uptoBulk d + 1
  | (_, d) => uptoBulk d + 1
 end
def uptoSmall : (H : Type) → List (DataW H) → Bool := fun _ ds => decide (uptoBulkAll ds ≤ 1048576)
def OpenSpec.upto (s : _root_.Go.ChangeSpec) : _root_.Go.OpenSpec := { _root_.Go.OpenSpec.ofChange s with cond := some uptoSmall }

/-- 'saleroomlaw53.SupportProgram', WHERE WHAT IT READS IS OF BULK AT MOST 1048576: true; the input reads as it did. -/
def supportProgramUptoRow : OpenClaim := { program := "ytjeoklgggppjiaagreat", sum := "b825e26d5b930633ec5fadbfbcaa31244247875a7e54da08b74e33bc52ff229c", func := "saleroom/saleroomlaw53.SupportProgram", spec := "supportProgram", unfollowed := true, recurses := true, plainKeys := false, apart := false, narrowed := true }
def SupportProgramUptoSaid : Prop := supportProgramUptoRow.holds Tryz.pinned (OpenSpec.upto supportProgramSpec)

/-- 'saleroomlaw53.SupportErrors', WHERE WHAT IT READS IS OF BULK AT MOST 1048576: true; the input reads as it did. -/
def supportErrorsUptoRow : OpenClaim := { program := "ytjeoklgggppjiaagreat", sum := "b825e26d5b930633ec5fadbfbcaa31244247875a7e54da08b74e33bc52ff229c", func := "saleroom/saleroomlaw53.SupportErrors", spec := "supportErrors", unfollowed := true, recurses := true, plainKeys := false, apart := false, narrowed := true }
def SupportErrorsUptoSaid : Prop := supportErrorsUptoRow.holds Tryz.pinned (OpenSpec.upto supportErrorsSpec)

/-- 'saleroomlaw53.SupportChecks', WHERE WHAT IT READS IS OF BULK AT MOST 1048576: true; the input reads as it did. -/
def supportChecksUptoRow : OpenClaim := { program := "ytjeoklgggppjiaagreat", sum := "b825e26d5b930633ec5fadbfbcaa31244247875a7e54da08b74e33bc52ff229c", func := "saleroom/saleroomlaw53.SupportChecks", spec := "supportChecks", unfollowed := true, recurses := true, plainKeys := false, apart := false, narrowed := true }
def SupportChecksUptoSaid : Prop := supportChecksUptoRow.holds Tryz.pinned (OpenSpec.upto supportChecksSpec)

/-- 'saleroomlaw53.SupportExplains', WHERE WHAT IT READS IS OF BULK AT MOST 1048576: true; the input reads as it did. -/
def supportExplainsUptoRow : OpenClaim := { program := "ytjeoklgggppjiaagreat", sum := "b825e26d5b930633ec5fadbfbcaa31244247875a7e54da08b74e33bc52ff229c", func := "saleroom/saleroomlaw53.SupportExplains", spec := "supportExplains", unfollowed := true, recurses := true, plainKeys := false, apart := false, narrowed := true }
def SupportExplainsUptoSaid : Prop := supportExplainsUptoRow.holds Tryz.pinned (OpenSpec.upto supportExplainsSpec)

/-- 'saleroomlaw53.SupportCosts', WHERE WHAT IT READS IS OF BULK AT MOST 1048576: true; the input reads as it did. -/
def supportCostsUptoRow : OpenClaim := { program := "ytjeoklgggppjiaagreat", sum := "b825e26d5b930633ec5fadbfbcaa31244247875a7e54da08b74e33bc52ff229c", func := "saleroom/saleroomlaw53.SupportCosts", spec := "supportCosts", unfollowed := true, recurses := true, plainKeys := false, apart := false, narrowed := true }
def SupportCostsUptoSaid : Prop := supportCostsUptoRow.holds Tryz.pinned (OpenSpec.upto supportCostsSpec)

/-- 'saleroomlaw53.SupportTight', WHERE WHAT IT READS IS OF BULK AT MOST 1048576: true; the input reads as it did. -/
def supportTightUptoRow : OpenClaim := { program := "ytjeoklgggppjiaagreat", sum := "b825e26d5b930633ec5fadbfbcaa31244247875a7e54da08b74e33bc52ff229c", func := "saleroom/saleroomlaw53.SupportTight", spec := "supportTight", unfollowed := true, recurses := true, plainKeys := false, apart := false, narrowed := true }
def SupportTightUptoSaid : Prop := supportTightUptoRow.holds Tryz.pinned (OpenSpec.upto supportTightSpec)

end Rows
end Go.Proofs.YtjeoklgggppjiaaGreat
