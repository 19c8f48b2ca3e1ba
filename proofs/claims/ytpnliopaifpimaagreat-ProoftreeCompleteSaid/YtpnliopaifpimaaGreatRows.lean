/-
  No cell of these rows narrows 'for every input' (looked for: loops, veiled, ifaces, maps, wideKeys, modest, calm, conditions, laid).
  DERIVED. THE GIVEN ROWS OF THIS SEAT. 7 by the template 'for every input the law returns true; each argument reads behind the call as it read before'; 0 by the template 'total and deterministic' (their statements: YtpnliopaifpimaaGreatTotals.lean).
  GIVEN WITH THE SEED: the statements are not yours to turn. If you find one false, say at which input.
  Laid BY PROGRAM, IN A SANDBOX (cutbox-rows.mjs): the forced cells as the released guide's own fill.sh prints them over the translation 85209594225c6db2… (all of the seat's roots in one cut). By AI agents, Wed Nov 11 2026. No macro, syntax, notation, axiom, sorry.
-/
import Derived.Test.YtpnliopaifpimaaGreatChecked
import GoSem.Claim
import GoSem.ClaimJoined
import GoSem.ClaimMapViews
import Derived.JoinedTies
import Derived.KernelRfl
namespace Go.Proofs.YtpnliopaifpimaaGreat
/- THE CELL 'sum', in the pinned program and in every row, IS THE sha256 OF THE DUMP (.gsa) THAT YtpnliopaifpimaaGreatProg.lean LOADS. Nothing in Lean hashes anything: it is a label: what it is worth is what the hold of that sum in a sandbox is worth. -/
noncomputable def Tryz.pinned : Pinned := { name := "ytpnliopaifpimaagreat", sum := "85209594225c6db2aa2063ceaa23ec4f6177007bfe2fd58bf691ebc6aebb17bb", checked := Tryz.checked }
namespace Rows
def none {H : Type} : Left H := { results := [], args := [] }

/-- 'saleroomlaw24.ProoftreeChecks': WHATEVER THE INPUT: true; the input reads as it did. -/
def prooftreeChecksSpec : ChangeSpec := { name := "prooftreeChecks", fn := fun _ => fun
  | [d1, d2, d3] => { results := [.lit (.bool true)], args := [d1, d2, d3] }
  | _ => none }
def prooftreeChecksRow : OpenClaim := { program := "ytpnliopaifpimaagreat", sum := "85209594225c6db2aa2063ceaa23ec4f6177007bfe2fd58bf691ebc6aebb17bb", func := "saleroom/saleroomlaw24.ProoftreeChecks", spec := "prooftreeChecks", unfollowed := true, recurses := true, plainKeys := false, apart := false }
def ProoftreeChecksSaid : Prop := prooftreeChecksRow.holds Tryz.pinned (OpenSpec.ofChange prooftreeChecksSpec)

/-- ITS FALSE NEIGHBOUR: 'it returns false'. Refute it at one input. -/
def prooftreeChecksWrong : ChangeSpec := { name := "prooftreeChecks", fn := fun _ => fun
  | [d1, d2, d3] => { results := [.lit (.bool false)], args := [d1, d2, d3] }
  | _ => none }
def ProoftreeChecksWrongFalsely : Prop := prooftreeChecksRow.holds Tryz.pinned (OpenSpec.ofChange prooftreeChecksWrong)

/-- 'saleroomlaw24.ProoftreeSound': WHATEVER THE INPUT: true; the input reads as it did. -/
def prooftreeSoundSpec : ChangeSpec := { name := "prooftreeSound", fn := fun _ => fun
  | [d1, d2, d3] => { results := [.lit (.bool true)], args := [d1, d2, d3] }
  | _ => none }
def prooftreeSoundRow : OpenClaim := { program := "ytpnliopaifpimaagreat", sum := "85209594225c6db2aa2063ceaa23ec4f6177007bfe2fd58bf691ebc6aebb17bb", func := "saleroom/saleroomlaw24.ProoftreeSound", spec := "prooftreeSound", unfollowed := true, recurses := true, plainKeys := false, apart := false }
def ProoftreeSoundSaid : Prop := prooftreeSoundRow.holds Tryz.pinned (OpenSpec.ofChange prooftreeSoundSpec)

/-- ITS FALSE NEIGHBOUR: 'it returns false'. Refute it at one input. -/
def prooftreeSoundWrong : ChangeSpec := { name := "prooftreeSound", fn := fun _ => fun
  | [d1, d2, d3] => { results := [.lit (.bool false)], args := [d1, d2, d3] }
  | _ => none }
def ProoftreeSoundWrongFalsely : Prop := prooftreeSoundRow.holds Tryz.pinned (OpenSpec.ofChange prooftreeSoundWrong)

/-- 'saleroomlaw24.ProoftreeGrows': WHATEVER THE INPUT: true; the input reads as it did. -/
def prooftreeGrowsSpec : ChangeSpec := { name := "prooftreeGrows", fn := fun _ => fun
  | [d1, d2, d3, d4] => { results := [.lit (.bool true)], args := [d1, d2, d3, d4] }
  | _ => none }
def prooftreeGrowsRow : OpenClaim := { program := "ytpnliopaifpimaagreat", sum := "85209594225c6db2aa2063ceaa23ec4f6177007bfe2fd58bf691ebc6aebb17bb", func := "saleroom/saleroomlaw24.ProoftreeGrows", spec := "prooftreeGrows", unfollowed := true, recurses := true, plainKeys := false, apart := false }
def ProoftreeGrowsSaid : Prop := prooftreeGrowsRow.holds Tryz.pinned (OpenSpec.ofChange prooftreeGrowsSpec)

/-- ITS FALSE NEIGHBOUR: 'it returns false'. Refute it at one input. -/
def prooftreeGrowsWrong : ChangeSpec := { name := "prooftreeGrows", fn := fun _ => fun
  | [d1, d2, d3, d4] => { results := [.lit (.bool false)], args := [d1, d2, d3, d4] }
  | _ => none }
def ProoftreeGrowsWrongFalsely : Prop := prooftreeGrowsRow.holds Tryz.pinned (OpenSpec.ofChange prooftreeGrowsWrong)

/-- 'saleroomlaw24.ProoftreeShapes': WHATEVER THE INPUT: true; the input reads as it did. -/
def prooftreeShapesSpec : ChangeSpec := { name := "prooftreeShapes", fn := fun _ => fun
  | [d] => { results := [.lit (.bool true)], args := [d] }
  | _ => none }
def prooftreeShapesRow : OpenClaim := { program := "ytpnliopaifpimaagreat", sum := "85209594225c6db2aa2063ceaa23ec4f6177007bfe2fd58bf691ebc6aebb17bb", func := "saleroom/saleroomlaw24.ProoftreeShapes", spec := "prooftreeShapes", unfollowed := true, recurses := true, plainKeys := false, apart := false }
def ProoftreeShapesSaid : Prop := prooftreeShapesRow.holds Tryz.pinned (OpenSpec.ofChange prooftreeShapesSpec)

/-- ITS FALSE NEIGHBOUR: 'it returns false'. Refute it at one input. -/
def prooftreeShapesWrong : ChangeSpec := { name := "prooftreeShapes", fn := fun _ => fun
  | [d] => { results := [.lit (.bool false)], args := [d] }
  | _ => none }
def ProoftreeShapesWrongFalsely : Prop := prooftreeShapesRow.holds Tryz.pinned (OpenSpec.ofChange prooftreeShapesWrong)

/-- 'saleroomlaw24.ProoftreeEncodes': WHATEVER THE INPUT: true; the input reads as it did. -/
def prooftreeEncodesSpec : ChangeSpec := { name := "prooftreeEncodes", fn := fun _ => fun
  | [d] => { results := [.lit (.bool true)], args := [d] }
  | _ => none }
def prooftreeEncodesRow : OpenClaim := { program := "ytpnliopaifpimaagreat", sum := "85209594225c6db2aa2063ceaa23ec4f6177007bfe2fd58bf691ebc6aebb17bb", func := "saleroom/saleroomlaw24.ProoftreeEncodes", spec := "prooftreeEncodes", unfollowed := true, recurses := true, plainKeys := false, apart := false }
def ProoftreeEncodesSaid : Prop := prooftreeEncodesRow.holds Tryz.pinned (OpenSpec.ofChange prooftreeEncodesSpec)

/-- ITS FALSE NEIGHBOUR: 'it returns false'. Refute it at one input. -/
def prooftreeEncodesWrong : ChangeSpec := { name := "prooftreeEncodes", fn := fun _ => fun
  | [d] => { results := [.lit (.bool false)], args := [d] }
  | _ => none }
def ProoftreeEncodesWrongFalsely : Prop := prooftreeEncodesRow.holds Tryz.pinned (OpenSpec.ofChange prooftreeEncodesWrong)

/-- 'saleroomlaw24.ProoftreeDecodes': WHATEVER THE INPUT: true; the input reads as it did. -/
def prooftreeDecodesSpec : ChangeSpec := { name := "prooftreeDecodes", fn := fun _ => fun
  | [d] => { results := [.lit (.bool true)], args := [d] }
  | _ => none }
def prooftreeDecodesRow : OpenClaim := { program := "ytpnliopaifpimaagreat", sum := "85209594225c6db2aa2063ceaa23ec4f6177007bfe2fd58bf691ebc6aebb17bb", func := "saleroom/saleroomlaw24.ProoftreeDecodes", spec := "prooftreeDecodes", unfollowed := true, recurses := true, plainKeys := false, apart := false }
def ProoftreeDecodesSaid : Prop := prooftreeDecodesRow.holds Tryz.pinned (OpenSpec.ofChange prooftreeDecodesSpec)

/-- ITS FALSE NEIGHBOUR: 'it returns false'. Refute it at one input. -/
def prooftreeDecodesWrong : ChangeSpec := { name := "prooftreeDecodes", fn := fun _ => fun
  | [d] => { results := [.lit (.bool false)], args := [d] }
  | _ => none }
def ProoftreeDecodesWrongFalsely : Prop := prooftreeDecodesRow.holds Tryz.pinned (OpenSpec.ofChange prooftreeDecodesWrong)

/-- 'saleroomlaw24.ProoftreeComplete': WHATEVER THE INPUT: true; the input reads as it did. -/
def prooftreeCompleteSpec : ChangeSpec := { name := "prooftreeComplete", fn := fun _ => fun
  | [d1, d2] => { results := [.lit (.bool true)], args := [d1, d2] }
  | _ => none }
def prooftreeCompleteRow : OpenClaim := { program := "ytpnliopaifpimaagreat", sum := "85209594225c6db2aa2063ceaa23ec4f6177007bfe2fd58bf691ebc6aebb17bb", func := "saleroom/saleroomlaw24.ProoftreeComplete", spec := "prooftreeComplete", unfollowed := true, recurses := true, plainKeys := false, apart := false }
def ProoftreeCompleteSaid : Prop := prooftreeCompleteRow.holds Tryz.pinned (OpenSpec.ofChange prooftreeCompleteSpec)

/-- ITS FALSE NEIGHBOUR: 'it returns false'. Refute it at one input. -/
def prooftreeCompleteWrong : ChangeSpec := { name := "prooftreeComplete", fn := fun _ => fun
  | [d1, d2] => { results := [.lit (.bool false)], args := [d1, d2] }
  | _ => none }
def ProoftreeCompleteWrongFalsely : Prop := prooftreeCompleteRow.holds Tryz.pinned (OpenSpec.ofChange prooftreeCompleteWrong)

/- THE SECOND FORM. 'bulk': how many values and letters a reading holds, each counted each time it is reached (what is shared counts as often as it is met; a slice's spare places count too). A statement '..UptoSaid' is the law's where the arguments, and the package variables that the reading takes, are together of bulk at most 1048576: NARROWER than '..Said'. Prove '..Said' where nothing that the law and all that it calls make is longer than what came in: it says more and counts as full. Else prove '..UptoSaid'. A law counts once. -/
mutual
def uptoBulk {H : Type} : DataW H → Nat
  | .lit (.string bytes) => bytes.length + 1
  | .lit _ => 1
  | .nil => 1
  | .ptr d => uptoBulk d + 1
  | .slice elems spare => uptoBulkAll elems + uptoBulkAll spare + 1
  | .agg parts => uptoBulkAll parts + 1
  | .iface _ d => uptoBulk d + 1
  | .map entries => uptoBulkEntries entries + 1
  | .held _ => 1
def uptoBulkAll {H : Type} : List (DataW H) → Nat
  | [] => 0
  | d :: r => uptoBulk d + uptoBulkAll r
def uptoBulkEntries {H : Type} : List (Lit × DataW H) → Nat
  | [] => 0
  | x :: r => uptoBulkEntry x + uptoBulkEntries r
def uptoBulkEntry {H : Type} : Lit × DataW H → Nat
  | (.string bytes, d) => bytes.length + uptoBulk d + 1
  | (_, d) => uptoBulk d + 1
 end
def uptoSmall : (H : Type) → List (DataW H) → Bool := fun _ ds => decide (uptoBulkAll ds ≤ 1048576)
def OpenSpec.upto (s : _root_.Go.ChangeSpec) : _root_.Go.OpenSpec := { _root_.Go.OpenSpec.ofChange s with cond := some uptoSmall }

/-- 'saleroomlaw24.ProoftreeChecks', WHERE WHAT IT READS IS OF BULK AT MOST 1048576: true; the input reads as it did. -/
def prooftreeChecksUptoRow : OpenClaim := { program := "ytpnliopaifpimaagreat", sum := "85209594225c6db2aa2063ceaa23ec4f6177007bfe2fd58bf691ebc6aebb17bb", func := "saleroom/saleroomlaw24.ProoftreeChecks", spec := "prooftreeChecks", unfollowed := true, recurses := true, plainKeys := false, apart := false, narrowed := true }
def ProoftreeChecksUptoSaid : Prop := prooftreeChecksUptoRow.holds Tryz.pinned (OpenSpec.upto prooftreeChecksSpec)

/-- 'saleroomlaw24.ProoftreeSound', WHERE WHAT IT READS IS OF BULK AT MOST 1048576: true; the input reads as it did. -/
def prooftreeSoundUptoRow : OpenClaim := { program := "ytpnliopaifpimaagreat", sum := "85209594225c6db2aa2063ceaa23ec4f6177007bfe2fd58bf691ebc6aebb17bb", func := "saleroom/saleroomlaw24.ProoftreeSound", spec := "prooftreeSound", unfollowed := true, recurses := true, plainKeys := false, apart := false, narrowed := true }
def ProoftreeSoundUptoSaid : Prop := prooftreeSoundUptoRow.holds Tryz.pinned (OpenSpec.upto prooftreeSoundSpec)

/-- 'saleroomlaw24.ProoftreeGrows', WHERE WHAT IT READS IS OF BULK AT MOST 1048576: true; the input reads as it did. -/
def prooftreeGrowsUptoRow : OpenClaim := { program := "ytpnliopaifpimaagreat", sum := "85209594225c6db2aa2063ceaa23ec4f6177007bfe2fd58bf691ebc6aebb17bb", func := "saleroom/saleroomlaw24.ProoftreeGrows", spec := "prooftreeGrows", unfollowed := true, recurses := true, plainKeys := false, apart := false, narrowed := true }
def ProoftreeGrowsUptoSaid : Prop := prooftreeGrowsUptoRow.holds Tryz.pinned (OpenSpec.upto prooftreeGrowsSpec)

/-- 'saleroomlaw24.ProoftreeShapes', WHERE WHAT IT READS IS OF BULK AT MOST 1048576: true; the input reads as it did. -/
def prooftreeShapesUptoRow : OpenClaim := { program := "ytpnliopaifpimaagreat", sum := "85209594225c6db2aa2063ceaa23ec4f6177007bfe2fd58bf691ebc6aebb17bb", func := "saleroom/saleroomlaw24.ProoftreeShapes", spec := "prooftreeShapes", unfollowed := true, recurses := true, plainKeys := false, apart := false, narrowed := true }
def ProoftreeShapesUptoSaid : Prop := prooftreeShapesUptoRow.holds Tryz.pinned (OpenSpec.upto prooftreeShapesSpec)

/-- 'saleroomlaw24.ProoftreeEncodes', WHERE WHAT IT READS IS OF BULK AT MOST 1048576: true; the input reads as it did. -/
def prooftreeEncodesUptoRow : OpenClaim := { program := "ytpnliopaifpimaagreat", sum := "85209594225c6db2aa2063ceaa23ec4f6177007bfe2fd58bf691ebc6aebb17bb", func := "saleroom/saleroomlaw24.ProoftreeEncodes", spec := "prooftreeEncodes", unfollowed := true, recurses := true, plainKeys := false, apart := false, narrowed := true }
def ProoftreeEncodesUptoSaid : Prop := prooftreeEncodesUptoRow.holds Tryz.pinned (OpenSpec.upto prooftreeEncodesSpec)

/-- 'saleroomlaw24.ProoftreeDecodes', WHERE WHAT IT READS IS OF BULK AT MOST 1048576: true; the input reads as it did. -/
def prooftreeDecodesUptoRow : OpenClaim := { program := "ytpnliopaifpimaagreat", sum := "85209594225c6db2aa2063ceaa23ec4f6177007bfe2fd58bf691ebc6aebb17bb", func := "saleroom/saleroomlaw24.ProoftreeDecodes", spec := "prooftreeDecodes", unfollowed := true, recurses := true, plainKeys := false, apart := false, narrowed := true }
def ProoftreeDecodesUptoSaid : Prop := prooftreeDecodesUptoRow.holds Tryz.pinned (OpenSpec.upto prooftreeDecodesSpec)

/-- 'saleroomlaw24.ProoftreeComplete', WHERE WHAT IT READS IS OF BULK AT MOST 1048576: true; the input reads as it did. -/
def prooftreeCompleteUptoRow : OpenClaim := { program := "ytpnliopaifpimaagreat", sum := "85209594225c6db2aa2063ceaa23ec4f6177007bfe2fd58bf691ebc6aebb17bb", func := "saleroom/saleroomlaw24.ProoftreeComplete", spec := "prooftreeComplete", unfollowed := true, recurses := true, plainKeys := false, apart := false, narrowed := true }
def ProoftreeCompleteUptoSaid : Prop := prooftreeCompleteUptoRow.holds Tryz.pinned (OpenSpec.upto prooftreeCompleteSpec)

end Rows
end Go.Proofs.YtpnliopaifpimaaGreat
