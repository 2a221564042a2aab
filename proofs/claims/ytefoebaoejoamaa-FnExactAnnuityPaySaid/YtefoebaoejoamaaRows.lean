/-
  No cell of these rows narrows 'for every input' (looked for: loops, veiled, ifaces, maps, wideKeys, modest, calm, conditions, laid).
  DERIVED. THE GIVEN ROWS OF THIS SEAT. 12 by the template 'for every input the law returns true; each argument reads behind the call as it read before'; 0 by the template 'total and deterministic' (their statements: YtefoebaoejoamaaTotals.lean).
  GIVEN WITH THE SEED: the statements are not yours to turn. If you find one false, say at which input.
  Laid BY PROGRAM, IN A SANDBOX (cutbox-rows.mjs): the forced cells as the released guide's own fill.sh prints them over the translation 9dd2300b51216a1d… (all of the seat's roots in one cut). By AI agents, Wed Nov 11 2026. No macro, syntax, notation, axiom, sorry.
-/
import Derived.Test.YtefoebaoejoamaaChecked
import GoSem.Claim
import GoSem.ClaimJoined
import GoSem.ClaimMapViews
import Derived.JoinedTies
import Derived.KernelRfl
namespace Go.Proofs.Ytefoebaoejoamaa
/- THE CELL 'sum', in the pinned program and in every row, IS THE sha256 OF THE DUMP (.gsa) THAT YtefoebaoejoamaaProg.lean LOADS. Nothing in Lean hashes anything: it is a label: what it is worth is what the hold of that sum in a sandbox is worth. -/
noncomputable def Try.pinned : Pinned := { name := "ytefoebaoejoamaa", sum := "9dd2300b51216a1db2a48b128dafe78d83bed9a1c4a77a5b8f19cc031477a7ed", checked := Try.checked }
namespace Rows
def none {H : Type} : Left H := { results := [], args := [] }

/-- 'laws.FnExactIsLifeTable': WHATEVER THE INPUT: true; the input reads as it did. -/
def fnExactIsLifeTableSpec : ChangeSpec := { name := "fnExactIsLifeTable", fn := fun _ => fun
  | [d] => { results := [.lit (.bool true)], args := [d] }
  | _ => none }
def fnExactIsLifeTableRow : OpenClaim := { program := "ytefoebaoejoamaa", sum := "9dd2300b51216a1db2a48b128dafe78d83bed9a1c4a77a5b8f19cc031477a7ed", func := "loop.example/g01393/laws.FnExactIsLifeTable", spec := "fnExactIsLifeTable", apart := false }
def FnExactIsLifeTableSaid : Prop := fnExactIsLifeTableRow.holds Try.pinned (OpenSpec.ofChange fnExactIsLifeTableSpec)

/-- ITS FALSE NEIGHBOUR: 'it returns false'. Refute it at one input. -/
def fnExactIsLifeTableWrong : ChangeSpec := { name := "fnExactIsLifeTable", fn := fun _ => fun
  | [d] => { results := [.lit (.bool false)], args := [d] }
  | _ => none }
def FnExactIsLifeTableWrongFalsely : Prop := fnExactIsLifeTableRow.holds Try.pinned (OpenSpec.ofChange fnExactIsLifeTableWrong)

/-- 'laws.FnExactReserveRow': WHATEVER THE INPUT: true; the input reads as it did. -/
def fnExactReserveRowSpec : ChangeSpec := { name := "fnExactReserveRow", fn := fun _ => fun
  | [d1, d2] => { results := [.lit (.bool true)], args := [d1, d2] }
  | _ => none }
def fnExactReserveRowRow : OpenClaim := { program := "ytefoebaoejoamaa", sum := "9dd2300b51216a1db2a48b128dafe78d83bed9a1c4a77a5b8f19cc031477a7ed", func := "loop.example/g01393/laws.FnExactReserveRow", spec := "fnExactReserveRow", apart := false }
def FnExactReserveRowSaid : Prop := fnExactReserveRowRow.holds Try.pinned (OpenSpec.ofChange fnExactReserveRowSpec)

/-- ITS FALSE NEIGHBOUR: 'it returns false'. Refute it at one input. -/
def fnExactReserveRowWrong : ChangeSpec := { name := "fnExactReserveRow", fn := fun _ => fun
  | [d1, d2] => { results := [.lit (.bool false)], args := [d1, d2] }
  | _ => none }
def FnExactReserveRowWrongFalsely : Prop := fnExactReserveRowRow.holds Try.pinned (OpenSpec.ofChange fnExactReserveRowWrong)

/-- 'laws.FnExactAliveShares': WHATEVER THE INPUT: true; the input reads as it did. -/
def fnExactAliveSharesSpec : ChangeSpec := { name := "fnExactAliveShares", fn := fun _ => fun
  | [d] => { results := [.lit (.bool true)], args := [d] }
  | _ => none }
def fnExactAliveSharesRow : OpenClaim := { program := "ytefoebaoejoamaa", sum := "9dd2300b51216a1db2a48b128dafe78d83bed9a1c4a77a5b8f19cc031477a7ed", func := "loop.example/g01393/laws.FnExactAliveShares", spec := "fnExactAliveShares", apart := false }
def FnExactAliveSharesSaid : Prop := fnExactAliveSharesRow.holds Try.pinned (OpenSpec.ofChange fnExactAliveSharesSpec)

/-- ITS FALSE NEIGHBOUR: 'it returns false'. Refute it at one input. -/
def fnExactAliveSharesWrong : ChangeSpec := { name := "fnExactAliveShares", fn := fun _ => fun
  | [d] => { results := [.lit (.bool false)], args := [d] }
  | _ => none }
def FnExactAliveSharesWrongFalsely : Prop := fnExactAliveSharesRow.holds Try.pinned (OpenSpec.ofChange fnExactAliveSharesWrong)

/-- 'laws.FnExactYearsToLive': WHATEVER THE INPUT: true; the input reads as it did. -/
def fnExactYearsToLiveSpec : ChangeSpec := { name := "fnExactYearsToLive", fn := fun _ => fun
  | [d] => { results := [.lit (.bool true)], args := [d] }
  | _ => none }
def fnExactYearsToLiveRow : OpenClaim := { program := "ytefoebaoejoamaa", sum := "9dd2300b51216a1db2a48b128dafe78d83bed9a1c4a77a5b8f19cc031477a7ed", func := "loop.example/g01393/laws.FnExactYearsToLive", spec := "fnExactYearsToLive", inPlace := ["math.Float64bits", "math.Float64frombits"], apart := false }
def FnExactYearsToLiveSaid : Prop := fnExactYearsToLiveRow.holds Try.pinned (OpenSpec.ofChange fnExactYearsToLiveSpec)

/-- ITS FALSE NEIGHBOUR: 'it returns false'. Refute it at one input. -/
def fnExactYearsToLiveWrong : ChangeSpec := { name := "fnExactYearsToLive", fn := fun _ => fun
  | [d] => { results := [.lit (.bool false)], args := [d] }
  | _ => none }
def FnExactYearsToLiveWrongFalsely : Prop := fnExactYearsToLiveRow.holds Try.pinned (OpenSpec.ofChange fnExactYearsToLiveWrong)

/-- 'laws.FnExactValueOfFlows': WHATEVER THE INPUT: true; the input reads as it did. -/
def fnExactValueOfFlowsSpec : ChangeSpec := { name := "fnExactValueOfFlows", fn := fun _ => fun
  | [d1, d2] => { results := [.lit (.bool true)], args := [d1, d2] }
  | _ => none }
def fnExactValueOfFlowsRow : OpenClaim := { program := "ytefoebaoejoamaa", sum := "9dd2300b51216a1db2a48b128dafe78d83bed9a1c4a77a5b8f19cc031477a7ed", func := "loop.example/g01393/laws.FnExactValueOfFlows", spec := "fnExactValueOfFlows", inPlace := ["math.Float64bits", "math.Float64frombits"], unfollowed := true, recurses := true, apart := false }
def FnExactValueOfFlowsSaid : Prop := fnExactValueOfFlowsRow.holds Try.pinned (OpenSpec.ofChange fnExactValueOfFlowsSpec)

/-- ITS FALSE NEIGHBOUR: 'it returns false'. Refute it at one input. -/
def fnExactValueOfFlowsWrong : ChangeSpec := { name := "fnExactValueOfFlows", fn := fun _ => fun
  | [d1, d2] => { results := [.lit (.bool false)], args := [d1, d2] }
  | _ => none }
def FnExactValueOfFlowsWrongFalsely : Prop := fnExactValueOfFlowsRow.holds Try.pinned (OpenSpec.ofChange fnExactValueOfFlowsWrong)

/-- 'laws.FnExactAnnuityValue': WHATEVER THE INPUT: true; the input reads as it did. -/
def fnExactAnnuityValueSpec : ChangeSpec := { name := "fnExactAnnuityValue", fn := fun _ => fun
  | [d1, d2] => { results := [.lit (.bool true)], args := [d1, d2] }
  | _ => none }
def fnExactAnnuityValueRow : OpenClaim := { program := "ytefoebaoejoamaa", sum := "9dd2300b51216a1db2a48b128dafe78d83bed9a1c4a77a5b8f19cc031477a7ed", func := "loop.example/g01393/laws.FnExactAnnuityValue", spec := "fnExactAnnuityValue", inPlace := ["math.Float64bits", "math.Float64frombits"], apart := false }
def FnExactAnnuityValueSaid : Prop := fnExactAnnuityValueRow.holds Try.pinned (OpenSpec.ofChange fnExactAnnuityValueSpec)

/-- ITS FALSE NEIGHBOUR: 'it returns false'. Refute it at one input. -/
def fnExactAnnuityValueWrong : ChangeSpec := { name := "fnExactAnnuityValue", fn := fun _ => fun
  | [d1, d2] => { results := [.lit (.bool false)], args := [d1, d2] }
  | _ => none }
def FnExactAnnuityValueWrongFalsely : Prop := fnExactAnnuityValueRow.holds Try.pinned (OpenSpec.ofChange fnExactAnnuityValueWrong)

/-- 'laws.FnExactLaterValue': WHATEVER THE INPUT: true; the input reads as it did. -/
def fnExactLaterValueSpec : ChangeSpec := { name := "fnExactLaterValue", fn := fun _ => fun
  | [d1, d2, d3] => { results := [.lit (.bool true)], args := [d1, d2, d3] }
  | _ => none }
def fnExactLaterValueRow : OpenClaim := { program := "ytefoebaoejoamaa", sum := "9dd2300b51216a1db2a48b128dafe78d83bed9a1c4a77a5b8f19cc031477a7ed", func := "loop.example/g01393/laws.FnExactLaterValue", spec := "fnExactLaterValue", inPlace := ["math.Float64bits", "math.Float64frombits"], apart := false }
def FnExactLaterValueSaid : Prop := fnExactLaterValueRow.holds Try.pinned (OpenSpec.ofChange fnExactLaterValueSpec)

/-- ITS FALSE NEIGHBOUR: 'it returns false'. Refute it at one input. -/
def fnExactLaterValueWrong : ChangeSpec := { name := "fnExactLaterValue", fn := fun _ => fun
  | [d1, d2, d3] => { results := [.lit (.bool false)], args := [d1, d2, d3] }
  | _ => none }
def FnExactLaterValueWrongFalsely : Prop := fnExactLaterValueRow.holds Try.pinned (OpenSpec.ofChange fnExactLaterValueWrong)

/-- 'laws.FnExactInnerRate': WHATEVER THE INPUT: true; the input reads as it did. -/
def fnExactInnerRateSpec : ChangeSpec := { name := "fnExactInnerRate", fn := fun _ => fun
  | [d1, d2] => { results := [.lit (.bool true)], args := [d1, d2] }
  | _ => none }
def fnExactInnerRateRow : OpenClaim := { program := "ytefoebaoejoamaa", sum := "9dd2300b51216a1db2a48b128dafe78d83bed9a1c4a77a5b8f19cc031477a7ed", func := "loop.example/g01393/laws.FnExactInnerRate", spec := "fnExactInnerRate", inPlace := ["math.Float64bits", "math.Float64frombits"], unfollowed := true, recurses := true, apart := false }
def FnExactInnerRateSaid : Prop := fnExactInnerRateRow.holds Try.pinned (OpenSpec.ofChange fnExactInnerRateSpec)

/-- ITS FALSE NEIGHBOUR: 'it returns false'. Refute it at one input. -/
def fnExactInnerRateWrong : ChangeSpec := { name := "fnExactInnerRate", fn := fun _ => fun
  | [d1, d2] => { results := [.lit (.bool false)], args := [d1, d2] }
  | _ => none }
def FnExactInnerRateWrongFalsely : Prop := fnExactInnerRateRow.holds Try.pinned (OpenSpec.ofChange fnExactInnerRateWrong)

/-- 'laws.FnExactJointValue': WHATEVER THE INPUT: true; the input reads as it did. -/
def fnExactJointValueSpec : ChangeSpec := { name := "fnExactJointValue", fn := fun _ => fun
  | [d1, d2, d3, d4] => { results := [.lit (.bool true)], args := [d1, d2, d3, d4] }
  | _ => none }
def fnExactJointValueRow : OpenClaim := { program := "ytefoebaoejoamaa", sum := "9dd2300b51216a1db2a48b128dafe78d83bed9a1c4a77a5b8f19cc031477a7ed", func := "loop.example/g01393/laws.FnExactJointValue", spec := "fnExactJointValue", inPlace := ["math.Float64bits", "math.Float64frombits"], apart := false }
def FnExactJointValueSaid : Prop := fnExactJointValueRow.holds Try.pinned (OpenSpec.ofChange fnExactJointValueSpec)

/-- ITS FALSE NEIGHBOUR: 'it returns false'. Refute it at one input. -/
def fnExactJointValueWrong : ChangeSpec := { name := "fnExactJointValue", fn := fun _ => fun
  | [d1, d2, d3, d4] => { results := [.lit (.bool false)], args := [d1, d2, d3, d4] }
  | _ => none }
def FnExactJointValueWrongFalsely : Prop := fnExactJointValueRow.holds Try.pinned (OpenSpec.ofChange fnExactJointValueWrong)

/-- 'laws.FnExactAnnuityPay': WHATEVER THE INPUT: true; the input reads as it did. -/
def fnExactAnnuityPaySpec : ChangeSpec := { name := "fnExactAnnuityPay", fn := fun _ => fun
  | [d1, d2, d3] => { results := [.lit (.bool true)], args := [d1, d2, d3] }
  | _ => none }
def fnExactAnnuityPayRow : OpenClaim := { program := "ytefoebaoejoamaa", sum := "9dd2300b51216a1db2a48b128dafe78d83bed9a1c4a77a5b8f19cc031477a7ed", func := "loop.example/g01393/laws.FnExactAnnuityPay", spec := "fnExactAnnuityPay", inPlace := ["math.Float64bits", "math.Float64frombits", "math.archFloor", "math.archTrunc"], apart := false }
def FnExactAnnuityPaySaid : Prop := fnExactAnnuityPayRow.holds Try.pinned (OpenSpec.ofChange fnExactAnnuityPaySpec)

/-- ITS FALSE NEIGHBOUR: 'it returns false'. Refute it at one input. -/
def fnExactAnnuityPayWrong : ChangeSpec := { name := "fnExactAnnuityPay", fn := fun _ => fun
  | [d1, d2, d3] => { results := [.lit (.bool false)], args := [d1, d2, d3] }
  | _ => none }
def FnExactAnnuityPayWrongFalsely : Prop := fnExactAnnuityPayRow.holds Try.pinned (OpenSpec.ofChange fnExactAnnuityPayWrong)

/-- 'laws.FnExactTimeReturn': WHATEVER THE INPUT: true; the input reads as it did. -/
def fnExactTimeReturnSpec : ChangeSpec := { name := "fnExactTimeReturn", fn := fun _ => fun
  | [d] => { results := [.lit (.bool true)], args := [d] }
  | _ => none }
def fnExactTimeReturnRow : OpenClaim := { program := "ytefoebaoejoamaa", sum := "9dd2300b51216a1db2a48b128dafe78d83bed9a1c4a77a5b8f19cc031477a7ed", func := "loop.example/g01393/laws.FnExactTimeReturn", spec := "fnExactTimeReturn", inPlace := ["math.Float64frombits", "math.Float64bits"], unfollowed := true, recurses := true, apart := false }
def FnExactTimeReturnSaid : Prop := fnExactTimeReturnRow.holds Try.pinned (OpenSpec.ofChange fnExactTimeReturnSpec)

/-- ITS FALSE NEIGHBOUR: 'it returns false'. Refute it at one input. -/
def fnExactTimeReturnWrong : ChangeSpec := { name := "fnExactTimeReturn", fn := fun _ => fun
  | [d] => { results := [.lit (.bool false)], args := [d] }
  | _ => none }
def FnExactTimeReturnWrongFalsely : Prop := fnExactTimeReturnRow.holds Try.pinned (OpenSpec.ofChange fnExactTimeReturnWrong)

/-- 'laws.FnExactDrawnReturns': WHATEVER THE INPUT: true; the input reads as it did. -/
def fnExactDrawnReturnsSpec : ChangeSpec := { name := "fnExactDrawnReturns", fn := fun _ => fun
  | [d1, d2, d3, d4] => { results := [.lit (.bool true)], args := [d1, d2, d3, d4] }
  | _ => none }
def fnExactDrawnReturnsRow : OpenClaim := { program := "ytefoebaoejoamaa", sum := "9dd2300b51216a1db2a48b128dafe78d83bed9a1c4a77a5b8f19cc031477a7ed", func := "loop.example/g01393/laws.FnExactDrawnReturns", spec := "fnExactDrawnReturns", inPlace := ["math.Float64bits", "math.Float64frombits"], unfollowed := true, recurses := true, apart := false }
def FnExactDrawnReturnsSaid : Prop := fnExactDrawnReturnsRow.holds Try.pinned (OpenSpec.ofChange fnExactDrawnReturnsSpec)

/-- ITS FALSE NEIGHBOUR: 'it returns false'. Refute it at one input. -/
def fnExactDrawnReturnsWrong : ChangeSpec := { name := "fnExactDrawnReturns", fn := fun _ => fun
  | [d1, d2, d3, d4] => { results := [.lit (.bool false)], args := [d1, d2, d3, d4] }
  | _ => none }
def FnExactDrawnReturnsWrongFalsely : Prop := fnExactDrawnReturnsRow.holds Try.pinned (OpenSpec.ofChange fnExactDrawnReturnsWrong)

/- THE SECOND FORM. 'bulk': how many values and letters a reading holds, each counted each time it is reached (what is shared counts as often as it is met; a slice's spare places count too). A statement '..UptoSaid' is the law's where the arguments, and the package variables that the reading takes, are together of bulk at most 1048576: NARROWER than '..Said'. Prove '..Said' where nothing that the law and all that it calls make is longer than what came in: it says more and counts as full. Else prove '..UptoSaid'. A law counts once. -/
mutual
def uptoBulk {H : Type} : DataW H → Nat
  | .lit (.string bytes) => bytes.length + 1
  | .lit _ => 1
  | .nil => 1
  | .ptr d => uptoBulk d + 1
  | .slice elems spare => uptoBulkAll elems + uptoBulkAll spare + 1
  | .agg parts => uptoBulkAll parts + 1
  | .iface _ d => uptoBulk d + 1
  | .map entries => uptoBulkEntries entries + 1
  | .held _ => 1
def uptoBulkAll {H : Type} : List (DataW H) → Nat
  | [] => 0
  | d :: r => uptoBulk d + uptoBulkAll r
def uptoBulkEntries {H : Type} : List (Lit × DataW H) → Nat
  | [] => 0
  | x :: r => uptoBulkEntry x + uptoBulkEntries r
def uptoBulkEntry {H : Type} : Lit × DataW H → Nat
  | (.string bytes, d) => bytes.length + uptoBulk d + 1
  | (_, d) => uptoBulk d + 1
 end
def uptoSmall : (H : Type) → List (DataW H) → Bool := fun _ ds => decide (uptoBulkAll ds ≤ 1048576)
def OpenSpec.upto (s : _root_.Go.ChangeSpec) : _root_.Go.OpenSpec := { _root_.Go.OpenSpec.ofChange s with cond := some uptoSmall }

/-- 'laws.FnExactIsLifeTable', WHERE WHAT IT READS IS OF BULK AT MOST 1048576: true; the input reads as it did. -/
def fnExactIsLifeTableUptoRow : OpenClaim := { program := "ytefoebaoejoamaa", sum := "9dd2300b51216a1db2a48b128dafe78d83bed9a1c4a77a5b8f19cc031477a7ed", func := "loop.example/g01393/laws.FnExactIsLifeTable", spec := "fnExactIsLifeTable", apart := false, narrowed := true }
def FnExactIsLifeTableUptoSaid : Prop := fnExactIsLifeTableUptoRow.holds Try.pinned (OpenSpec.upto fnExactIsLifeTableSpec)

/-- 'laws.FnExactReserveRow', WHERE WHAT IT READS IS OF BULK AT MOST 1048576: true; the input reads as it did. -/
def fnExactReserveRowUptoRow : OpenClaim := { program := "ytefoebaoejoamaa", sum := "9dd2300b51216a1db2a48b128dafe78d83bed9a1c4a77a5b8f19cc031477a7ed", func := "loop.example/g01393/laws.FnExactReserveRow", spec := "fnExactReserveRow", apart := false, narrowed := true }
def FnExactReserveRowUptoSaid : Prop := fnExactReserveRowUptoRow.holds Try.pinned (OpenSpec.upto fnExactReserveRowSpec)

/-- 'laws.FnExactAliveShares', WHERE WHAT IT READS IS OF BULK AT MOST 1048576: true; the input reads as it did. -/
def fnExactAliveSharesUptoRow : OpenClaim := { program := "ytefoebaoejoamaa", sum := "9dd2300b51216a1db2a48b128dafe78d83bed9a1c4a77a5b8f19cc031477a7ed", func := "loop.example/g01393/laws.FnExactAliveShares", spec := "fnExactAliveShares", apart := false, narrowed := true }
def FnExactAliveSharesUptoSaid : Prop := fnExactAliveSharesUptoRow.holds Try.pinned (OpenSpec.upto fnExactAliveSharesSpec)

/-- 'laws.FnExactYearsToLive', WHERE WHAT IT READS IS OF BULK AT MOST 1048576: true; the input reads as it did. -/
def fnExactYearsToLiveUptoRow : OpenClaim := { program := "ytefoebaoejoamaa", sum := "9dd2300b51216a1db2a48b128dafe78d83bed9a1c4a77a5b8f19cc031477a7ed", func := "loop.example/g01393/laws.FnExactYearsToLive", spec := "fnExactYearsToLive", inPlace := ["math.Float64bits", "math.Float64frombits"], apart := false, narrowed := true }
def FnExactYearsToLiveUptoSaid : Prop := fnExactYearsToLiveUptoRow.holds Try.pinned (OpenSpec.upto fnExactYearsToLiveSpec)

/-- 'laws.FnExactValueOfFlows', WHERE WHAT IT READS IS OF BULK AT MOST 1048576: true; the input reads as it did. -/
def fnExactValueOfFlowsUptoRow : OpenClaim := { program := "ytefoebaoejoamaa", sum := "9dd2300b51216a1db2a48b128dafe78d83bed9a1c4a77a5b8f19cc031477a7ed", func := "loop.example/g01393/laws.FnExactValueOfFlows", spec := "fnExactValueOfFlows", inPlace := ["math.Float64bits", "math.Float64frombits"], unfollowed := true, recurses := true, apart := false, narrowed := true }
def FnExactValueOfFlowsUptoSaid : Prop := fnExactValueOfFlowsUptoRow.holds Try.pinned (OpenSpec.upto fnExactValueOfFlowsSpec)

/-- 'laws.FnExactAnnuityValue', WHERE WHAT IT READS IS OF BULK AT MOST 1048576: true; the input reads as it did. -/
def fnExactAnnuityValueUptoRow : OpenClaim := { program := "ytefoebaoejoamaa", sum := "9dd2300b51216a1db2a48b128dafe78d83bed9a1c4a77a5b8f19cc031477a7ed", func := "loop.example/g01393/laws.FnExactAnnuityValue", spec := "fnExactAnnuityValue", inPlace := ["math.Float64bits", "math.Float64frombits"], apart := false, narrowed := true }
def FnExactAnnuityValueUptoSaid : Prop := fnExactAnnuityValueUptoRow.holds Try.pinned (OpenSpec.upto fnExactAnnuityValueSpec)

/-- 'laws.FnExactLaterValue', WHERE WHAT IT READS IS OF BULK AT MOST 1048576: true; the input reads as it did. -/
def fnExactLaterValueUptoRow : OpenClaim := { program := "ytefoebaoejoamaa", sum := "9dd2300b51216a1db2a48b128dafe78d83bed9a1c4a77a5b8f19cc031477a7ed", func := "loop.example/g01393/laws.FnExactLaterValue", spec := "fnExactLaterValue", inPlace := ["math.Float64bits", "math.Float64frombits"], apart := false, narrowed := true }
def FnExactLaterValueUptoSaid : Prop := fnExactLaterValueUptoRow.holds Try.pinned (OpenSpec.upto fnExactLaterValueSpec)

/-- 'laws.FnExactInnerRate', WHERE WHAT IT READS IS OF BULK AT MOST 1048576: true; the input reads as it did. -/
def fnExactInnerRateUptoRow : OpenClaim := { program := "ytefoebaoejoamaa", sum := "9dd2300b51216a1db2a48b128dafe78d83bed9a1c4a77a5b8f19cc031477a7ed", func := "loop.example/g01393/laws.FnExactInnerRate", spec := "fnExactInnerRate", inPlace := ["math.Float64bits", "math.Float64frombits"], unfollowed := true, recurses := true, apart := false, narrowed := true }
def FnExactInnerRateUptoSaid : Prop := fnExactInnerRateUptoRow.holds Try.pinned (OpenSpec.upto fnExactInnerRateSpec)

/-- 'laws.FnExactJointValue', WHERE WHAT IT READS IS OF BULK AT MOST 1048576: true; the input reads as it did. -/
def fnExactJointValueUptoRow : OpenClaim := { program := "ytefoebaoejoamaa", sum := "9dd2300b51216a1db2a48b128dafe78d83bed9a1c4a77a5b8f19cc031477a7ed", func := "loop.example/g01393/laws.FnExactJointValue", spec := "fnExactJointValue", inPlace := ["math.Float64bits", "math.Float64frombits"], apart := false, narrowed := true }
def FnExactJointValueUptoSaid : Prop := fnExactJointValueUptoRow.holds Try.pinned (OpenSpec.upto fnExactJointValueSpec)

/-- 'laws.FnExactAnnuityPay', WHERE WHAT IT READS IS OF BULK AT MOST 1048576: true; the input reads as it did. -/
def fnExactAnnuityPayUptoRow : OpenClaim := { program := "ytefoebaoejoamaa", sum := "9dd2300b51216a1db2a48b128dafe78d83bed9a1c4a77a5b8f19cc031477a7ed", func := "loop.example/g01393/laws.FnExactAnnuityPay", spec := "fnExactAnnuityPay", inPlace := ["math.Float64bits", "math.Float64frombits", "math.archFloor", "math.archTrunc"], apart := false, narrowed := true }
def FnExactAnnuityPayUptoSaid : Prop := fnExactAnnuityPayUptoRow.holds Try.pinned (OpenSpec.upto fnExactAnnuityPaySpec)

/-- 'laws.FnExactTimeReturn', WHERE WHAT IT READS IS OF BULK AT MOST 1048576: true; the input reads as it did. -/
def fnExactTimeReturnUptoRow : OpenClaim := { program := "ytefoebaoejoamaa", sum := "9dd2300b51216a1db2a48b128dafe78d83bed9a1c4a77a5b8f19cc031477a7ed", func := "loop.example/g01393/laws.FnExactTimeReturn", spec := "fnExactTimeReturn", inPlace := ["math.Float64frombits", "math.Float64bits"], unfollowed := true, recurses := true, apart := false, narrowed := true }
def FnExactTimeReturnUptoSaid : Prop := fnExactTimeReturnUptoRow.holds Try.pinned (OpenSpec.upto fnExactTimeReturnSpec)

/-- 'laws.FnExactDrawnReturns', WHERE WHAT IT READS IS OF BULK AT MOST 1048576: true; the input reads as it did. -/
def fnExactDrawnReturnsUptoRow : OpenClaim := { program := "ytefoebaoejoamaa", sum := "9dd2300b51216a1db2a48b128dafe78d83bed9a1c4a77a5b8f19cc031477a7ed", func := "loop.example/g01393/laws.FnExactDrawnReturns", spec := "fnExactDrawnReturns", inPlace := ["math.Float64bits", "math.Float64frombits"], unfollowed := true, recurses := true, apart := false, narrowed := true }
def FnExactDrawnReturnsUptoSaid : Prop := fnExactDrawnReturnsUptoRow.holds Try.pinned (OpenSpec.upto fnExactDrawnReturnsSpec)

end Rows
end Go.Proofs.Ytefoebaoejoamaa
