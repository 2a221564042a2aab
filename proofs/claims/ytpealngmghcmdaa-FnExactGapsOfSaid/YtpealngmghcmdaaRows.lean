/-
  No cell of these rows narrows 'for every input' (looked for: loops, veiled, ifaces, maps, wideKeys, modest, calm, conditions, laid).
  DERIVED. THE GIVEN ROWS OF THIS SEAT. 12 by the template 'for every input the law returns true; each argument reads behind the call as it read before'; 0 by the template 'total and deterministic' (their statements: YtpealngmghcmdaaTotals.lean).
  GIVEN WITH THE SEED: the statements are not yours to turn. If you find one false, say at which input.
  Laid BY PROGRAM, IN A SANDBOX (cutbox-rows.mjs): the forced cells as the released guide's own fill.sh prints them over the translation 45ecc57fe5e90765… (all of the seat's roots in one cut). By AI agents, Wed Nov 11 2026. No macro, syntax, notation, axiom, sorry.
-/
import Derived.Test.YtpealngmghcmdaaChecked
import GoSem.Claim
import GoSem.ClaimJoined
import GoSem.ClaimMapViews
import Derived.JoinedTies
import Derived.KernelRfl
namespace Go.Proofs.Ytpealngmghcmdaa
/- THE CELL 'sum', in the pinned program and in every row, IS THE sha256 OF THE DUMP (.gsa) THAT YtpealngmghcmdaaProg.lean LOADS. Nothing in Lean hashes anything: it is a label: what it is worth is what the hold of that sum in a sandbox is worth. -/
noncomputable def Try.pinned : Pinned := { name := "ytpealngmghcmdaa", sum := "45ecc57fe5e90765900e365c7bb88fd7caf13eb9cf2286d0dcb49ebb18deb320", checked := Try.checked }
namespace Rows
def none {H : Type} : Left H := { results := [], args := [] }

/-- 'laws.FnExactAgeFactor': WHATEVER THE INPUT: true; the input reads as it did. -/
def fnExactAgeFactorSpec : ChangeSpec := { name := "fnExactAgeFactor", fn := fun _ => fun
  | [d1, d2, d3, d4] => { results := [.lit (.bool true)], args := [d1, d2, d3, d4] }
  | _ => none }
def fnExactAgeFactorRow : OpenClaim := { program := "ytpealngmghcmdaa", sum := "45ecc57fe5e90765900e365c7bb88fd7caf13eb9cf2286d0dcb49ebb18deb320", func := "loop.example/g01393/laws.FnExactAgeFactor", spec := "fnExactAgeFactor", apart := false }
def FnExactAgeFactorSaid : Prop := fnExactAgeFactorRow.holds Try.pinned (OpenSpec.ofChange fnExactAgeFactorSpec)

/-- ITS FALSE NEIGHBOUR: 'it returns false'. Refute it at one input. -/
def fnExactAgeFactorWrong : ChangeSpec := { name := "fnExactAgeFactor", fn := fun _ => fun
  | [d1, d2, d3, d4] => { results := [.lit (.bool false)], args := [d1, d2, d3, d4] }
  | _ => none }
def FnExactAgeFactorWrongFalsely : Prop := fnExactAgeFactorRow.holds Try.pinned (OpenSpec.ofChange fnExactAgeFactorWrong)

/-- 'laws.FnExactSurvivorShare': WHATEVER THE INPUT: true; the input reads as it did. -/
def fnExactSurvivorShareSpec : ChangeSpec := { name := "fnExactSurvivorShare", fn := fun _ => fun
  | [d1, d2, d3, d4, d5] => { results := [.lit (.bool true)], args := [d1, d2, d3, d4, d5] }
  | _ => none }
def fnExactSurvivorShareRow : OpenClaim := { program := "ytpealngmghcmdaa", sum := "45ecc57fe5e90765900e365c7bb88fd7caf13eb9cf2286d0dcb49ebb18deb320", func := "loop.example/g01393/laws.FnExactSurvivorShare", spec := "fnExactSurvivorShare", apart := false }
def FnExactSurvivorShareSaid : Prop := fnExactSurvivorShareRow.holds Try.pinned (OpenSpec.ofChange fnExactSurvivorShareSpec)

/-- ITS FALSE NEIGHBOUR: 'it returns false'. Refute it at one input. -/
def fnExactSurvivorShareWrong : ChangeSpec := { name := "fnExactSurvivorShare", fn := fun _ => fun
  | [d1, d2, d3, d4, d5] => { results := [.lit (.bool false)], args := [d1, d2, d3, d4, d5] }
  | _ => none }
def FnExactSurvivorShareWrongFalsely : Prop := fnExactSurvivorShareRow.holds Try.pinned (OpenSpec.ofChange fnExactSurvivorShareWrong)

/-- 'laws.FnExactPointPension': WHATEVER THE INPUT: true; the input reads as it did. -/
def fnExactPointPensionSpec : ChangeSpec := { name := "fnExactPointPension", fn := fun _ => fun
  | [d1, d2, d3] => { results := [.lit (.bool true)], args := [d1, d2, d3] }
  | _ => none }
def fnExactPointPensionRow : OpenClaim := { program := "ytpealngmghcmdaa", sum := "45ecc57fe5e90765900e365c7bb88fd7caf13eb9cf2286d0dcb49ebb18deb320", func := "loop.example/g01393/laws.FnExactPointPension", spec := "fnExactPointPension", unfollowed := true, recurses := true, apart := false }
def FnExactPointPensionSaid : Prop := fnExactPointPensionRow.holds Try.pinned (OpenSpec.ofChange fnExactPointPensionSpec)

/-- ITS FALSE NEIGHBOUR: 'it returns false'. Refute it at one input. -/
def fnExactPointPensionWrong : ChangeSpec := { name := "fnExactPointPension", fn := fun _ => fun
  | [d1, d2, d3] => { results := [.lit (.bool false)], args := [d1, d2, d3] }
  | _ => none }
def FnExactPointPensionWrongFalsely : Prop := fnExactPointPensionRow.holds Try.pinned (OpenSpec.ofChange fnExactPointPensionWrong)

/-- 'laws.FnExactCountMonths': WHATEVER THE INPUT: true; the input reads as it did. -/
def fnExactCountMonthsSpec : ChangeSpec := { name := "fnExactCountMonths", fn := fun _ => fun
  | [d] => { results := [.lit (.bool true)], args := [d] }
  | _ => none }
def fnExactCountMonthsRow : OpenClaim := { program := "ytpealngmghcmdaa", sum := "45ecc57fe5e90765900e365c7bb88fd7caf13eb9cf2286d0dcb49ebb18deb320", func := "loop.example/g01393/laws.FnExactCountMonths", spec := "fnExactCountMonths", unfollowed := true, recurses := true, apart := false }
def FnExactCountMonthsSaid : Prop := fnExactCountMonthsRow.holds Try.pinned (OpenSpec.ofChange fnExactCountMonthsSpec)

/-- ITS FALSE NEIGHBOUR: 'it returns false'. Refute it at one input. -/
def fnExactCountMonthsWrong : ChangeSpec := { name := "fnExactCountMonths", fn := fun _ => fun
  | [d] => { results := [.lit (.bool false)], args := [d] }
  | _ => none }
def FnExactCountMonthsWrongFalsely : Prop := fnExactCountMonthsRow.holds Try.pinned (OpenSpec.ofChange fnExactCountMonthsWrong)

/-- 'laws.FnExactBestSpan': WHATEVER THE INPUT: true; the input reads as it did. -/
def fnExactBestSpanSpec : ChangeSpec := { name := "fnExactBestSpan", fn := fun _ => fun
  | [d1, d2] => { results := [.lit (.bool true)], args := [d1, d2] }
  | _ => none }
def fnExactBestSpanRow : OpenClaim := { program := "ytpealngmghcmdaa", sum := "45ecc57fe5e90765900e365c7bb88fd7caf13eb9cf2286d0dcb49ebb18deb320", func := "loop.example/g01393/laws.FnExactBestSpan", spec := "fnExactBestSpan", unfollowed := true, recurses := true, apart := false }
def FnExactBestSpanSaid : Prop := fnExactBestSpanRow.holds Try.pinned (OpenSpec.ofChange fnExactBestSpanSpec)

/-- ITS FALSE NEIGHBOUR: 'it returns false'. Refute it at one input. -/
def fnExactBestSpanWrong : ChangeSpec := { name := "fnExactBestSpan", fn := fun _ => fun
  | [d1, d2] => { results := [.lit (.bool false)], args := [d1, d2] }
  | _ => none }
def FnExactBestSpanWrongFalsely : Prop := fnExactBestSpanRow.holds Try.pinned (OpenSpec.ofChange fnExactBestSpanWrong)

/-- 'laws.FnExactSplitPoints': WHATEVER THE INPUT: true; the input reads as it did. -/
def fnExactSplitPointsSpec : ChangeSpec := { name := "fnExactSplitPoints", fn := fun _ => fun
  | [d1, d2, d3, d4] => { results := [.lit (.bool true)], args := [d1, d2, d3, d4] }
  | _ => none }
def fnExactSplitPointsRow : OpenClaim := { program := "ytpealngmghcmdaa", sum := "45ecc57fe5e90765900e365c7bb88fd7caf13eb9cf2286d0dcb49ebb18deb320", func := "loop.example/g01393/laws.FnExactSplitPoints", spec := "fnExactSplitPoints", unfollowed := true, recurses := true, apart := false }
def FnExactSplitPointsSaid : Prop := fnExactSplitPointsRow.holds Try.pinned (OpenSpec.ofChange fnExactSplitPointsSpec)

/-- ITS FALSE NEIGHBOUR: 'it returns false'. Refute it at one input. -/
def fnExactSplitPointsWrong : ChangeSpec := { name := "fnExactSplitPoints", fn := fun _ => fun
  | [d1, d2, d3, d4] => { results := [.lit (.bool false)], args := [d1, d2, d3, d4] }
  | _ => none }
def FnExactSplitPointsWrongFalsely : Prop := fnExactSplitPointsRow.holds Try.pinned (OpenSpec.ofChange fnExactSplitPointsWrong)

/-- 'laws.FnExactWaitEnd': WHATEVER THE INPUT: true; the input reads as it did. -/
def fnExactWaitEndSpec : ChangeSpec := { name := "fnExactWaitEnd", fn := fun _ => fun
  | [d1, d2] => { results := [.lit (.bool true)], args := [d1, d2] }
  | _ => none }
def fnExactWaitEndRow : OpenClaim := { program := "ytpealngmghcmdaa", sum := "45ecc57fe5e90765900e365c7bb88fd7caf13eb9cf2286d0dcb49ebb18deb320", func := "loop.example/g01393/laws.FnExactWaitEnd", spec := "fnExactWaitEnd", unfollowed := true, recurses := true, apart := false }
def FnExactWaitEndSaid : Prop := fnExactWaitEndRow.holds Try.pinned (OpenSpec.ofChange fnExactWaitEndSpec)

/-- ITS FALSE NEIGHBOUR: 'it returns false'. Refute it at one input. -/
def fnExactWaitEndWrong : ChangeSpec := { name := "fnExactWaitEnd", fn := fun _ => fun
  | [d1, d2] => { results := [.lit (.bool false)], args := [d1, d2] }
  | _ => none }
def FnExactWaitEndWrongFalsely : Prop := fnExactWaitEndRow.holds Try.pinned (OpenSpec.ofChange fnExactWaitEndWrong)

/-- 'laws.FnExactPointsOf': WHATEVER THE INPUT: true; the input reads as it did. -/
def fnExactPointsOfSpec : ChangeSpec := { name := "fnExactPointsOf", fn := fun _ => fun
  | [d1, d2, d3] => { results := [.lit (.bool true)], args := [d1, d2, d3] }
  | _ => none }
def fnExactPointsOfRow : OpenClaim := { program := "ytpealngmghcmdaa", sum := "45ecc57fe5e90765900e365c7bb88fd7caf13eb9cf2286d0dcb49ebb18deb320", func := "loop.example/g01393/laws.FnExactPointsOf", spec := "fnExactPointsOf", unfollowed := true, recurses := true, apart := false }
def FnExactPointsOfSaid : Prop := fnExactPointsOfRow.holds Try.pinned (OpenSpec.ofChange fnExactPointsOfSpec)

/-- ITS FALSE NEIGHBOUR: 'it returns false'. Refute it at one input. -/
def fnExactPointsOfWrong : ChangeSpec := { name := "fnExactPointsOf", fn := fun _ => fun
  | [d1, d2, d3] => { results := [.lit (.bool false)], args := [d1, d2, d3] }
  | _ => none }
def FnExactPointsOfWrongFalsely : Prop := fnExactPointsOfRow.holds Try.pinned (OpenSpec.ofChange fnExactPointsOfWrong)

/-- 'laws.FnExactIndexPays': WHATEVER THE INPUT: true; the input reads as it did. -/
def fnExactIndexPaysSpec : ChangeSpec := { name := "fnExactIndexPays", fn := fun _ => fun
  | [d1, d2] => { results := [.lit (.bool true)], args := [d1, d2] }
  | _ => none }
def fnExactIndexPaysRow : OpenClaim := { program := "ytpealngmghcmdaa", sum := "45ecc57fe5e90765900e365c7bb88fd7caf13eb9cf2286d0dcb49ebb18deb320", func := "loop.example/g01393/laws.FnExactIndexPays", spec := "fnExactIndexPays", unfollowed := true, recurses := true, apart := false }
def FnExactIndexPaysSaid : Prop := fnExactIndexPaysRow.holds Try.pinned (OpenSpec.ofChange fnExactIndexPaysSpec)

/-- ITS FALSE NEIGHBOUR: 'it returns false'. Refute it at one input. -/
def fnExactIndexPaysWrong : ChangeSpec := { name := "fnExactIndexPays", fn := fun _ => fun
  | [d1, d2] => { results := [.lit (.bool false)], args := [d1, d2] }
  | _ => none }
def FnExactIndexPaysWrongFalsely : Prop := fnExactIndexPaysRow.holds Try.pinned (OpenSpec.ofChange fnExactIndexPaysWrong)

/-- 'laws.FnExactGapsOf': WHATEVER THE INPUT: true; the input reads as it did. -/
def fnExactGapsOfSpec : ChangeSpec := { name := "fnExactGapsOf", fn := fun _ => fun
  | [d] => { results := [.lit (.bool true)], args := [d] }
  | _ => none }
def fnExactGapsOfRow : OpenClaim := { program := "ytpealngmghcmdaa", sum := "45ecc57fe5e90765900e365c7bb88fd7caf13eb9cf2286d0dcb49ebb18deb320", func := "loop.example/g01393/laws.FnExactGapsOf", spec := "fnExactGapsOf", unfollowed := true, recurses := true, apart := false }
def FnExactGapsOfSaid : Prop := fnExactGapsOfRow.holds Try.pinned (OpenSpec.ofChange fnExactGapsOfSpec)

/-- ITS FALSE NEIGHBOUR: 'it returns false'. Refute it at one input. -/
def fnExactGapsOfWrong : ChangeSpec := { name := "fnExactGapsOf", fn := fun _ => fun
  | [d] => { results := [.lit (.bool false)], args := [d] }
  | _ => none }
def FnExactGapsOfWrongFalsely : Prop := fnExactGapsOfRow.holds Try.pinned (OpenSpec.ofChange fnExactGapsOfWrong)

/-- 'laws.FnExactFundRun': WHATEVER THE INPUT: true; the input reads as it did. -/
def fnExactFundRunSpec : ChangeSpec := { name := "fnExactFundRun", fn := fun _ => fun
  | [d1, d2, d3, d4] => { results := [.lit (.bool true)], args := [d1, d2, d3, d4] }
  | _ => none }
def fnExactFundRunRow : OpenClaim := { program := "ytpealngmghcmdaa", sum := "45ecc57fe5e90765900e365c7bb88fd7caf13eb9cf2286d0dcb49ebb18deb320", func := "loop.example/g01393/laws.FnExactFundRun", spec := "fnExactFundRun", unfollowed := true, recurses := true, apart := false }
def FnExactFundRunSaid : Prop := fnExactFundRunRow.holds Try.pinned (OpenSpec.ofChange fnExactFundRunSpec)

/-- ITS FALSE NEIGHBOUR: 'it returns false'. Refute it at one input. -/
def fnExactFundRunWrong : ChangeSpec := { name := "fnExactFundRun", fn := fun _ => fun
  | [d1, d2, d3, d4] => { results := [.lit (.bool false)], args := [d1, d2, d3, d4] }
  | _ => none }
def FnExactFundRunWrongFalsely : Prop := fnExactFundRunRow.holds Try.pinned (OpenSpec.ofChange fnExactFundRunWrong)

/-- 'laws.FnExactBestYears': WHATEVER THE INPUT: true; the input reads as it did. -/
def fnExactBestYearsSpec : ChangeSpec := { name := "fnExactBestYears", fn := fun _ => fun
  | [d1, d2] => { results := [.lit (.bool true)], args := [d1, d2] }
  | _ => none }
def fnExactBestYearsRow : OpenClaim := { program := "ytpealngmghcmdaa", sum := "45ecc57fe5e90765900e365c7bb88fd7caf13eb9cf2286d0dcb49ebb18deb320", func := "loop.example/g01393/laws.FnExactBestYears", spec := "fnExactBestYears", unfollowed := true, recurses := true, apart := false }
def FnExactBestYearsSaid : Prop := fnExactBestYearsRow.holds Try.pinned (OpenSpec.ofChange fnExactBestYearsSpec)

/-- ITS FALSE NEIGHBOUR: 'it returns false'. Refute it at one input. -/
def fnExactBestYearsWrong : ChangeSpec := { name := "fnExactBestYears", fn := fun _ => fun
  | [d1, d2] => { results := [.lit (.bool false)], args := [d1, d2] }
  | _ => none }
def FnExactBestYearsWrongFalsely : Prop := fnExactBestYearsRow.holds Try.pinned (OpenSpec.ofChange fnExactBestYearsWrong)

/- THE SECOND FORM. 'bulk': how many values and letters a reading holds, each counted each time it is reached (what is shared counts as often as it is met; a slice's spare places count too). A statement '..UptoSaid' is the law's where the arguments, and the package variables that the reading takes, are together of bulk at most 1048576: NARROWER than '..Said'. Prove '..Said' where nothing that the law and all that it calls make is longer than what came in: it says more and counts as full. Else prove '..UptoSaid'. A law counts once. -/
mutual
def uptoBulk {H : Type} : DataW H → Nat
  | .lit (.string bytes) => bytes.length + 1
  | .lit _ => 1
  | .nil => 1
  | .ptr d => uptoBulk d + 1
  | .slice elems spare => uptoBulkAll elems + uptoBulkAll spare + 1
  | .agg parts => uptoBulkAll parts + 1
  | .iface _ d => uptoBulk d + 1
  | .map entries => uptoBulkEntries entries + 1
  | .held _ => 1
def uptoBulkAll {H : Type} : List (DataW H) → Nat
  | [] => 0
  | d :: r => uptoBulk d + uptoBulkAll r
def uptoBulkEntries {H : Type} : List (Lit × DataW H) → Nat
  | [] => 0
  | x :: r => uptoBulkEntry x + uptoBulkEntries r
def uptoBulkEntry {H : Type} : Lit × DataW H → Nat
  | (.string bytes, d) => bytes.length + uptoBulk d + 1
  | (_, d) => uptoBulk d + 1
 end
def uptoSmall : (H : Type) → List (DataW H) → Bool := fun _ ds => decide (uptoBulkAll ds ≤ 1048576)
def OpenSpec.upto (s : _root_.Go.ChangeSpec) : _root_.Go.OpenSpec := { _root_.Go.OpenSpec.ofChange s with cond := some uptoSmall }

/-- 'laws.FnExactAgeFactor', WHERE WHAT IT READS IS OF BULK AT MOST 1048576: true; the input reads as it did. -/
def fnExactAgeFactorUptoRow : OpenClaim := { program := "ytpealngmghcmdaa", sum := "45ecc57fe5e90765900e365c7bb88fd7caf13eb9cf2286d0dcb49ebb18deb320", func := "loop.example/g01393/laws.FnExactAgeFactor", spec := "fnExactAgeFactor", apart := false, narrowed := true }
def FnExactAgeFactorUptoSaid : Prop := fnExactAgeFactorUptoRow.holds Try.pinned (OpenSpec.upto fnExactAgeFactorSpec)

/-- 'laws.FnExactSurvivorShare', WHERE WHAT IT READS IS OF BULK AT MOST 1048576: true; the input reads as it did. -/
def fnExactSurvivorShareUptoRow : OpenClaim := { program := "ytpealngmghcmdaa", sum := "45ecc57fe5e90765900e365c7bb88fd7caf13eb9cf2286d0dcb49ebb18deb320", func := "loop.example/g01393/laws.FnExactSurvivorShare", spec := "fnExactSurvivorShare", apart := false, narrowed := true }
def FnExactSurvivorShareUptoSaid : Prop := fnExactSurvivorShareUptoRow.holds Try.pinned (OpenSpec.upto fnExactSurvivorShareSpec)

/-- 'laws.FnExactPointPension', WHERE WHAT IT READS IS OF BULK AT MOST 1048576: true; the input reads as it did. -/
def fnExactPointPensionUptoRow : OpenClaim := { program := "ytpealngmghcmdaa", sum := "45ecc57fe5e90765900e365c7bb88fd7caf13eb9cf2286d0dcb49ebb18deb320", func := "loop.example/g01393/laws.FnExactPointPension", spec := "fnExactPointPension", unfollowed := true, recurses := true, apart := false, narrowed := true }
def FnExactPointPensionUptoSaid : Prop := fnExactPointPensionUptoRow.holds Try.pinned (OpenSpec.upto fnExactPointPensionSpec)

/-- 'laws.FnExactCountMonths', WHERE WHAT IT READS IS OF BULK AT MOST 1048576: true; the input reads as it did. -/
def fnExactCountMonthsUptoRow : OpenClaim := { program := "ytpealngmghcmdaa", sum := "45ecc57fe5e90765900e365c7bb88fd7caf13eb9cf2286d0dcb49ebb18deb320", func := "loop.example/g01393/laws.FnExactCountMonths", spec := "fnExactCountMonths", unfollowed := true, recurses := true, apart := false, narrowed := true }
def FnExactCountMonthsUptoSaid : Prop := fnExactCountMonthsUptoRow.holds Try.pinned (OpenSpec.upto fnExactCountMonthsSpec)

/-- 'laws.FnExactBestSpan', WHERE WHAT IT READS IS OF BULK AT MOST 1048576: true; the input reads as it did. -/
def fnExactBestSpanUptoRow : OpenClaim := { program := "ytpealngmghcmdaa", sum := "45ecc57fe5e90765900e365c7bb88fd7caf13eb9cf2286d0dcb49ebb18deb320", func := "loop.example/g01393/laws.FnExactBestSpan", spec := "fnExactBestSpan", unfollowed := true, recurses := true, apart := false, narrowed := true }
def FnExactBestSpanUptoSaid : Prop := fnExactBestSpanUptoRow.holds Try.pinned (OpenSpec.upto fnExactBestSpanSpec)

/-- 'laws.FnExactSplitPoints', WHERE WHAT IT READS IS OF BULK AT MOST 1048576: true; the input reads as it did. -/
def fnExactSplitPointsUptoRow : OpenClaim := { program := "ytpealngmghcmdaa", sum := "45ecc57fe5e90765900e365c7bb88fd7caf13eb9cf2286d0dcb49ebb18deb320", func := "loop.example/g01393/laws.FnExactSplitPoints", spec := "fnExactSplitPoints", unfollowed := true, recurses := true, apart := false, narrowed := true }
def FnExactSplitPointsUptoSaid : Prop := fnExactSplitPointsUptoRow.holds Try.pinned (OpenSpec.upto fnExactSplitPointsSpec)

/-- 'laws.FnExactWaitEnd', WHERE WHAT IT READS IS OF BULK AT MOST 1048576: true; the input reads as it did. -/
def fnExactWaitEndUptoRow : OpenClaim := { program := "ytpealngmghcmdaa", sum := "45ecc57fe5e90765900e365c7bb88fd7caf13eb9cf2286d0dcb49ebb18deb320", func := "loop.example/g01393/laws.FnExactWaitEnd", spec := "fnExactWaitEnd", unfollowed := true, recurses := true, apart := false, narrowed := true }
def FnExactWaitEndUptoSaid : Prop := fnExactWaitEndUptoRow.holds Try.pinned (OpenSpec.upto fnExactWaitEndSpec)

/-- 'laws.FnExactPointsOf', WHERE WHAT IT READS IS OF BULK AT MOST 1048576: true; the input reads as it did. -/
def fnExactPointsOfUptoRow : OpenClaim := { program := "ytpealngmghcmdaa", sum := "45ecc57fe5e90765900e365c7bb88fd7caf13eb9cf2286d0dcb49ebb18deb320", func := "loop.example/g01393/laws.FnExactPointsOf", spec := "fnExactPointsOf", unfollowed := true, recurses := true, apart := false, narrowed := true }
def FnExactPointsOfUptoSaid : Prop := fnExactPointsOfUptoRow.holds Try.pinned (OpenSpec.upto fnExactPointsOfSpec)

/-- 'laws.FnExactIndexPays', WHERE WHAT IT READS IS OF BULK AT MOST 1048576: true; the input reads as it did. -/
def fnExactIndexPaysUptoRow : OpenClaim := { program := "ytpealngmghcmdaa", sum := "45ecc57fe5e90765900e365c7bb88fd7caf13eb9cf2286d0dcb49ebb18deb320", func := "loop.example/g01393/laws.FnExactIndexPays", spec := "fnExactIndexPays", unfollowed := true, recurses := true, apart := false, narrowed := true }
def FnExactIndexPaysUptoSaid : Prop := fnExactIndexPaysUptoRow.holds Try.pinned (OpenSpec.upto fnExactIndexPaysSpec)

/-- 'laws.FnExactGapsOf', WHERE WHAT IT READS IS OF BULK AT MOST 1048576: true; the input reads as it did. -/
def fnExactGapsOfUptoRow : OpenClaim := { program := "ytpealngmghcmdaa", sum := "45ecc57fe5e90765900e365c7bb88fd7caf13eb9cf2286d0dcb49ebb18deb320", func := "loop.example/g01393/laws.FnExactGapsOf", spec := "fnExactGapsOf", unfollowed := true, recurses := true, apart := false, narrowed := true }
def FnExactGapsOfUptoSaid : Prop := fnExactGapsOfUptoRow.holds Try.pinned (OpenSpec.upto fnExactGapsOfSpec)

/-- 'laws.FnExactFundRun', WHERE WHAT IT READS IS OF BULK AT MOST 1048576: true; the input reads as it did. -/
def fnExactFundRunUptoRow : OpenClaim := { program := "ytpealngmghcmdaa", sum := "45ecc57fe5e90765900e365c7bb88fd7caf13eb9cf2286d0dcb49ebb18deb320", func := "loop.example/g01393/laws.FnExactFundRun", spec := "fnExactFundRun", unfollowed := true, recurses := true, apart := false, narrowed := true }
def FnExactFundRunUptoSaid : Prop := fnExactFundRunUptoRow.holds Try.pinned (OpenSpec.upto fnExactFundRunSpec)

/-- 'laws.FnExactBestYears', WHERE WHAT IT READS IS OF BULK AT MOST 1048576: true; the input reads as it did. -/
def fnExactBestYearsUptoRow : OpenClaim := { program := "ytpealngmghcmdaa", sum := "45ecc57fe5e90765900e365c7bb88fd7caf13eb9cf2286d0dcb49ebb18deb320", func := "loop.example/g01393/laws.FnExactBestYears", spec := "fnExactBestYears", unfollowed := true, recurses := true, apart := false, narrowed := true }
def FnExactBestYearsUptoSaid : Prop := fnExactBestYearsUptoRow.holds Try.pinned (OpenSpec.upto fnExactBestYearsSpec)

end Rows
end Go.Proofs.Ytpealngmghcmdaa
