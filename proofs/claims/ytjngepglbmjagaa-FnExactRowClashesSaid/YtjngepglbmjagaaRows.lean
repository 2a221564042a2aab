/-
  No cell of these rows narrows 'for every input' (looked for: loops, veiled, ifaces, maps, wideKeys, modest, calm, conditions, laid).
  DERIVED. THE GIVEN ROWS OF THIS SEAT. 11 by the template 'for every input the law returns true; each argument reads behind the call as it read before'; 0 by the template 'total and deterministic' (their statements: YtjngepglbmjagaaTotals.lean).
  GIVEN WITH THE SEED: the statements are not yours to turn. If you find one false, say at which input.
  Laid BY PROGRAM, IN A SANDBOX (cutbox-rows.mjs): the forced cells as the released guide's own fill.sh prints them over the translation 9e53d521a83d9c80… (all of the seat's roots in one cut). By AI agents, Wed Nov 11 2026. No macro, syntax, notation, axiom, sorry.
-/
import Derived.Test.YtjngepglbmjagaaChecked
import GoSem.Claim
import GoSem.ClaimJoined
import GoSem.ClaimMapViews
import Derived.JoinedTies
import Derived.KernelRfl
namespace Go.Proofs.Ytjngepglbmjagaa
/- THE CELL 'sum', in the pinned program and in every row, IS THE sha256 OF THE DUMP (.gsa) THAT YtjngepglbmjagaaProg.lean LOADS. Nothing in Lean hashes anything: it is a label: what it is worth is what the hold of that sum in a sandbox is worth. -/
noncomputable def Try.pinned : Pinned := { name := "ytjngepglbmjagaa", sum := "9e53d521a83d9c806dcd54698472e4b3b97061363f4804df53bb31dd42ecd91c", checked := Try.checked }
namespace Rows
def none {H : Type} : Left H := { results := [], args := [] }

/-- 'laws.FnExactAreIncomes': WHATEVER THE INPUT: true; the input reads as it did. -/
def fnExactAreIncomesSpec : ChangeSpec := { name := "fnExactAreIncomes", fn := fun _ => fun
  | [d] => { results := [.lit (.bool true)], args := [d] }
  | _ => none }
def fnExactAreIncomesRow : OpenClaim := { program := "ytjngepglbmjagaa", sum := "9e53d521a83d9c806dcd54698472e4b3b97061363f4804df53bb31dd42ecd91c", func := "loop.example/g01393/laws.FnExactAreIncomes", spec := "fnExactAreIncomes", unfollowed := true, recurses := true, apart := false }
def FnExactAreIncomesSaid : Prop := fnExactAreIncomesRow.holds Try.pinned (OpenSpec.ofChange fnExactAreIncomesSpec)

/-- ITS FALSE NEIGHBOUR: 'it returns false'. Refute it at one input. -/
def fnExactAreIncomesWrong : ChangeSpec := { name := "fnExactAreIncomes", fn := fun _ => fun
  | [d] => { results := [.lit (.bool false)], args := [d] }
  | _ => none }
def FnExactAreIncomesWrongFalsely : Prop := fnExactAreIncomesRow.holds Try.pinned (OpenSpec.ofChange fnExactAreIncomesWrong)

/-- 'laws.FnExactPoorOf': WHATEVER THE INPUT: true; the input reads as it did. -/
def fnExactPoorOfSpec : ChangeSpec := { name := "fnExactPoorOf", fn := fun _ => fun
  | [d1, d2] => { results := [.lit (.bool true)], args := [d1, d2] }
  | _ => none }
def fnExactPoorOfRow : OpenClaim := { program := "ytjngepglbmjagaa", sum := "9e53d521a83d9c806dcd54698472e4b3b97061363f4804df53bb31dd42ecd91c", func := "loop.example/g01393/laws.FnExactPoorOf", spec := "fnExactPoorOf", unfollowed := true, recurses := true, apart := false }
def FnExactPoorOfSaid : Prop := fnExactPoorOfRow.holds Try.pinned (OpenSpec.ofChange fnExactPoorOfSpec)

/-- ITS FALSE NEIGHBOUR: 'it returns false'. Refute it at one input. -/
def fnExactPoorOfWrong : ChangeSpec := { name := "fnExactPoorOf", fn := fun _ => fun
  | [d1, d2] => { results := [.lit (.bool false)], args := [d1, d2] }
  | _ => none }
def FnExactPoorOfWrongFalsely : Prop := fnExactPoorOfRow.holds Try.pinned (OpenSpec.ofChange fnExactPoorOfWrong)

/-- 'laws.FnExactChangedRanks': WHATEVER THE INPUT: true; the input reads as it did. -/
def fnExactChangedRanksSpec : ChangeSpec := { name := "fnExactChangedRanks", fn := fun _ => fun
  | [d1, d2] => { results := [.lit (.bool true)], args := [d1, d2] }
  | _ => none }
def fnExactChangedRanksRow : OpenClaim := { program := "ytjngepglbmjagaa", sum := "9e53d521a83d9c806dcd54698472e4b3b97061363f4804df53bb31dd42ecd91c", func := "loop.example/g01393/laws.FnExactChangedRanks", spec := "fnExactChangedRanks", unfollowed := true, recurses := true, apart := false }
def FnExactChangedRanksSaid : Prop := fnExactChangedRanksRow.holds Try.pinned (OpenSpec.ofChange fnExactChangedRanksSpec)

/-- ITS FALSE NEIGHBOUR: 'it returns false'. Refute it at one input. -/
def fnExactChangedRanksWrong : ChangeSpec := { name := "fnExactChangedRanks", fn := fun _ => fun
  | [d1, d2] => { results := [.lit (.bool false)], args := [d1, d2] }
  | _ => none }
def FnExactChangedRanksWrongFalsely : Prop := fnExactChangedRanksRow.holds Try.pinned (OpenSpec.ofChange fnExactChangedRanksWrong)

/-- 'laws.FnExactUnevenOf': WHATEVER THE INPUT: true; the input reads as it did. -/
def fnExactUnevenOfSpec : ChangeSpec := { name := "fnExactUnevenOf", fn := fun _ => fun
  | [d] => { results := [.lit (.bool true)], args := [d] }
  | _ => none }
def fnExactUnevenOfRow : OpenClaim := { program := "ytjngepglbmjagaa", sum := "9e53d521a83d9c806dcd54698472e4b3b97061363f4804df53bb31dd42ecd91c", func := "loop.example/g01393/laws.FnExactUnevenOf", spec := "fnExactUnevenOf", unfollowed := true, recurses := true, apart := false }
def FnExactUnevenOfSaid : Prop := fnExactUnevenOfRow.holds Try.pinned (OpenSpec.ofChange fnExactUnevenOfSpec)

/-- ITS FALSE NEIGHBOUR: 'it returns false'. Refute it at one input. -/
def fnExactUnevenOfWrong : ChangeSpec := { name := "fnExactUnevenOf", fn := fun _ => fun
  | [d] => { results := [.lit (.bool false)], args := [d] }
  | _ => none }
def FnExactUnevenOfWrongFalsely : Prop := fnExactUnevenOfRow.holds Try.pinned (OpenSpec.ofChange fnExactUnevenOfWrong)

/-- 'laws.FnExactSafeDraw': WHATEVER THE INPUT: true; the input reads as it did. -/
def fnExactSafeDrawSpec : ChangeSpec := { name := "fnExactSafeDraw", fn := fun _ => fun
  | [d1, d2] => { results := [.lit (.bool true)], args := [d1, d2] }
  | _ => none }
def fnExactSafeDrawRow : OpenClaim := { program := "ytjngepglbmjagaa", sum := "9e53d521a83d9c806dcd54698472e4b3b97061363f4804df53bb31dd42ecd91c", func := "loop.example/g01393/laws.FnExactSafeDraw", spec := "fnExactSafeDraw", unfollowed := true, recurses := true, apart := false }
def FnExactSafeDrawSaid : Prop := fnExactSafeDrawRow.holds Try.pinned (OpenSpec.ofChange fnExactSafeDrawSpec)

/-- ITS FALSE NEIGHBOUR: 'it returns false'. Refute it at one input. -/
def fnExactSafeDrawWrong : ChangeSpec := { name := "fnExactSafeDraw", fn := fun _ => fun
  | [d1, d2] => { results := [.lit (.bool false)], args := [d1, d2] }
  | _ => none }
def FnExactSafeDrawWrongFalsely : Prop := fnExactSafeDrawRow.holds Try.pinned (OpenSpec.ofChange fnExactSafeDrawWrong)

/-- 'laws.FnExactDrawDown': WHATEVER THE INPUT: true; the input reads as it did. -/
def fnExactDrawDownSpec : ChangeSpec := { name := "fnExactDrawDown", fn := fun _ => fun
  | [d1, d2, d3] => { results := [.lit (.bool true)], args := [d1, d2, d3] }
  | _ => none }
def fnExactDrawDownRow : OpenClaim := { program := "ytjngepglbmjagaa", sum := "9e53d521a83d9c806dcd54698472e4b3b97061363f4804df53bb31dd42ecd91c", func := "loop.example/g01393/laws.FnExactDrawDown", spec := "fnExactDrawDown", unfollowed := true, recurses := true, apart := false }
def FnExactDrawDownSaid : Prop := fnExactDrawDownRow.holds Try.pinned (OpenSpec.ofChange fnExactDrawDownSpec)

/-- ITS FALSE NEIGHBOUR: 'it returns false'. Refute it at one input. -/
def fnExactDrawDownWrong : ChangeSpec := { name := "fnExactDrawDown", fn := fun _ => fun
  | [d1, d2, d3] => { results := [.lit (.bool false)], args := [d1, d2, d3] }
  | _ => none }
def FnExactDrawDownWrongFalsely : Prop := fnExactDrawDownRow.holds Try.pinned (OpenSpec.ofChange fnExactDrawDownWrong)

/-- 'laws.FnExactRowAnswer': WHATEVER THE INPUT: true; the input reads as it did. -/
def fnExactRowAnswerSpec : ChangeSpec := { name := "fnExactRowAnswer", fn := fun _ => fun
  | [d1, d2, d3] => { results := [.lit (.bool true)], args := [d1, d2, d3] }
  | _ => none }
def fnExactRowAnswerRow : OpenClaim := { program := "ytjngepglbmjagaa", sum := "9e53d521a83d9c806dcd54698472e4b3b97061363f4804df53bb31dd42ecd91c", func := "loop.example/g01393/laws.FnExactRowAnswer", spec := "fnExactRowAnswer", unfollowed := true, recurses := true, apart := false }
def FnExactRowAnswerSaid : Prop := fnExactRowAnswerRow.holds Try.pinned (OpenSpec.ofChange fnExactRowAnswerSpec)

/-- ITS FALSE NEIGHBOUR: 'it returns false'. Refute it at one input. -/
def fnExactRowAnswerWrong : ChangeSpec := { name := "fnExactRowAnswer", fn := fun _ => fun
  | [d1, d2, d3] => { results := [.lit (.bool false)], args := [d1, d2, d3] }
  | _ => none }
def FnExactRowAnswerWrongFalsely : Prop := fnExactRowAnswerRow.holds Try.pinned (OpenSpec.ofChange fnExactRowAnswerWrong)

/-- 'laws.FnExactRowGaps': WHATEVER THE INPUT: true; the input reads as it did. -/
def fnExactRowGapsSpec : ChangeSpec := { name := "fnExactRowGaps", fn := fun _ => fun
  | [d1, d2] => { results := [.lit (.bool true)], args := [d1, d2] }
  | _ => none }
def fnExactRowGapsRow : OpenClaim := { program := "ytjngepglbmjagaa", sum := "9e53d521a83d9c806dcd54698472e4b3b97061363f4804df53bb31dd42ecd91c", func := "loop.example/g01393/laws.FnExactRowGaps", spec := "fnExactRowGaps", unfollowed := true, recurses := true, apart := false }
def FnExactRowGapsSaid : Prop := fnExactRowGapsRow.holds Try.pinned (OpenSpec.ofChange fnExactRowGapsSpec)

/-- ITS FALSE NEIGHBOUR: 'it returns false'. Refute it at one input. -/
def fnExactRowGapsWrong : ChangeSpec := { name := "fnExactRowGaps", fn := fun _ => fun
  | [d1, d2] => { results := [.lit (.bool false)], args := [d1, d2] }
  | _ => none }
def FnExactRowGapsWrongFalsely : Prop := fnExactRowGapsRow.holds Try.pinned (OpenSpec.ofChange fnExactRowGapsWrong)

/-- 'laws.FnExactRowClashes': WHATEVER THE INPUT: true; the input reads as it did. -/
def fnExactRowClashesSpec : ChangeSpec := { name := "fnExactRowClashes", fn := fun _ => fun
  | [d1, d2] => { results := [.lit (.bool true)], args := [d1, d2] }
  | _ => none }
def fnExactRowClashesRow : OpenClaim := { program := "ytjngepglbmjagaa", sum := "9e53d521a83d9c806dcd54698472e4b3b97061363f4804df53bb31dd42ecd91c", func := "loop.example/g01393/laws.FnExactRowClashes", spec := "fnExactRowClashes", unfollowed := true, recurses := true, apart := false }
def FnExactRowClashesSaid : Prop := fnExactRowClashesRow.holds Try.pinned (OpenSpec.ofChange fnExactRowClashesSpec)

/-- ITS FALSE NEIGHBOUR: 'it returns false'. Refute it at one input. -/
def fnExactRowClashesWrong : ChangeSpec := { name := "fnExactRowClashes", fn := fun _ => fun
  | [d1, d2] => { results := [.lit (.bool false)], args := [d1, d2] }
  | _ => none }
def FnExactRowClashesWrongFalsely : Prop := fnExactRowClashesRow.holds Try.pinned (OpenSpec.ofChange fnExactRowClashesWrong)

/-- 'laws.FnExactRowCounts': WHATEVER THE INPUT: true; the input reads as it did. -/
def fnExactRowCountsSpec : ChangeSpec := { name := "fnExactRowCounts", fn := fun _ => fun
  | [d1, d2] => { results := [.lit (.bool true)], args := [d1, d2] }
  | _ => none }
def fnExactRowCountsRow : OpenClaim := { program := "ytjngepglbmjagaa", sum := "9e53d521a83d9c806dcd54698472e4b3b97061363f4804df53bb31dd42ecd91c", func := "loop.example/g01393/laws.FnExactRowCounts", spec := "fnExactRowCounts", unfollowed := true, recurses := true, apart := false }
def FnExactRowCountsSaid : Prop := fnExactRowCountsRow.holds Try.pinned (OpenSpec.ofChange fnExactRowCountsSpec)

/-- ITS FALSE NEIGHBOUR: 'it returns false'. Refute it at one input. -/
def fnExactRowCountsWrong : ChangeSpec := { name := "fnExactRowCounts", fn := fun _ => fun
  | [d1, d2] => { results := [.lit (.bool false)], args := [d1, d2] }
  | _ => none }
def FnExactRowCountsWrongFalsely : Prop := fnExactRowCountsRow.holds Try.pinned (OpenSpec.ofChange fnExactRowCountsWrong)

/-- 'laws.FnExactFirstRows': WHATEVER THE INPUT: true; the input reads as it did. -/
def fnExactFirstRowsSpec : ChangeSpec := { name := "fnExactFirstRows", fn := fun _ => fun
  | [d1, d2] => { results := [.lit (.bool true)], args := [d1, d2] }
  | _ => none }
def fnExactFirstRowsRow : OpenClaim := { program := "ytjngepglbmjagaa", sum := "9e53d521a83d9c806dcd54698472e4b3b97061363f4804df53bb31dd42ecd91c", func := "loop.example/g01393/laws.FnExactFirstRows", spec := "fnExactFirstRows", unfollowed := true, recurses := true, apart := false }
def FnExactFirstRowsSaid : Prop := fnExactFirstRowsRow.holds Try.pinned (OpenSpec.ofChange fnExactFirstRowsSpec)

/-- ITS FALSE NEIGHBOUR: 'it returns false'. Refute it at one input. -/
def fnExactFirstRowsWrong : ChangeSpec := { name := "fnExactFirstRows", fn := fun _ => fun
  | [d1, d2] => { results := [.lit (.bool false)], args := [d1, d2] }
  | _ => none }
def FnExactFirstRowsWrongFalsely : Prop := fnExactFirstRowsRow.holds Try.pinned (OpenSpec.ofChange fnExactFirstRowsWrong)

/- THE SECOND FORM. 'bulk': how many values and letters a reading holds, each counted each time it is reached (what is shared counts as often as it is met; a slice's spare places count too). A statement '..UptoSaid' is the law's where the arguments, and the package variables that the reading takes, are together of bulk at most 1048576: NARROWER than '..Said'. Prove '..Said' where nothing that the law and all that it calls make is longer than what came in: it says more and counts as full. Else prove '..UptoSaid'. A law counts once. -/
mutual
def uptoBulk {H : Type} : DataW H → Nat
  | .lit (.string bytes) => bytes.length + 1
  | .lit _ => 1
  | .nil => 1
  | .ptr d => uptoBulk d + 1
  | .slice elems spare => uptoBulkAll elems + uptoBulkAll spare + 1
  | .agg parts => uptoBulkAll parts + 1
  | .iface _ d => uptoBulk d + 1
  | .map entries => uptoBulkEntries entries + 1
  | .held _ => 1
def uptoBulkAll {H : Type} : List (DataW H) → Nat
  | [] => 0
  | d :: r => uptoBulk d + uptoBulkAll r
def uptoBulkEntries {H : Type} : List (Lit × DataW H) → Nat
  | [] => 0
  | x :: r => uptoBulkEntry x + uptoBulkEntries r
def uptoBulkEntry {H : Type} : Lit × DataW H → Nat
  | (.string bytes, d) => bytes.length + uptoBulk d + 1
  | (_, d) => uptoBulk d + 1
 end
def uptoSmall : (H : Type) → List (DataW H) → Bool := fun _ ds => decide (uptoBulkAll ds ≤ 1048576)
def OpenSpec.upto (s : _root_.Go.ChangeSpec) : _root_.Go.OpenSpec := { _root_.Go.OpenSpec.ofChange s with cond := some uptoSmall }

/-- 'laws.FnExactAreIncomes', WHERE WHAT IT READS IS OF BULK AT MOST 1048576: true; the input reads as it did. -/
def fnExactAreIncomesUptoRow : OpenClaim := { program := "ytjngepglbmjagaa", sum := "9e53d521a83d9c806dcd54698472e4b3b97061363f4804df53bb31dd42ecd91c", func := "loop.example/g01393/laws.FnExactAreIncomes", spec := "fnExactAreIncomes", unfollowed := true, recurses := true, apart := false, narrowed := true }
def FnExactAreIncomesUptoSaid : Prop := fnExactAreIncomesUptoRow.holds Try.pinned (OpenSpec.upto fnExactAreIncomesSpec)

/-- 'laws.FnExactPoorOf', WHERE WHAT IT READS IS OF BULK AT MOST 1048576: true; the input reads as it did. -/
def fnExactPoorOfUptoRow : OpenClaim := { program := "ytjngepglbmjagaa", sum := "9e53d521a83d9c806dcd54698472e4b3b97061363f4804df53bb31dd42ecd91c", func := "loop.example/g01393/laws.FnExactPoorOf", spec := "fnExactPoorOf", unfollowed := true, recurses := true, apart := false, narrowed := true }
def FnExactPoorOfUptoSaid : Prop := fnExactPoorOfUptoRow.holds Try.pinned (OpenSpec.upto fnExactPoorOfSpec)

/-- 'laws.FnExactChangedRanks', WHERE WHAT IT READS IS OF BULK AT MOST 1048576: true; the input reads as it did. -/
def fnExactChangedRanksUptoRow : OpenClaim := { program := "ytjngepglbmjagaa", sum := "9e53d521a83d9c806dcd54698472e4b3b97061363f4804df53bb31dd42ecd91c", func := "loop.example/g01393/laws.FnExactChangedRanks", spec := "fnExactChangedRanks", unfollowed := true, recurses := true, apart := false, narrowed := true }
def FnExactChangedRanksUptoSaid : Prop := fnExactChangedRanksUptoRow.holds Try.pinned (OpenSpec.upto fnExactChangedRanksSpec)

/-- 'laws.FnExactUnevenOf', WHERE WHAT IT READS IS OF BULK AT MOST 1048576: true; the input reads as it did. -/
def fnExactUnevenOfUptoRow : OpenClaim := { program := "ytjngepglbmjagaa", sum := "9e53d521a83d9c806dcd54698472e4b3b97061363f4804df53bb31dd42ecd91c", func := "loop.example/g01393/laws.FnExactUnevenOf", spec := "fnExactUnevenOf", unfollowed := true, recurses := true, apart := false, narrowed := true }
def FnExactUnevenOfUptoSaid : Prop := fnExactUnevenOfUptoRow.holds Try.pinned (OpenSpec.upto fnExactUnevenOfSpec)

/-- 'laws.FnExactSafeDraw', WHERE WHAT IT READS IS OF BULK AT MOST 1048576: true; the input reads as it did. -/
def fnExactSafeDrawUptoRow : OpenClaim := { program := "ytjngepglbmjagaa", sum := "9e53d521a83d9c806dcd54698472e4b3b97061363f4804df53bb31dd42ecd91c", func := "loop.example/g01393/laws.FnExactSafeDraw", spec := "fnExactSafeDraw", unfollowed := true, recurses := true, apart := false, narrowed := true }
def FnExactSafeDrawUptoSaid : Prop := fnExactSafeDrawUptoRow.holds Try.pinned (OpenSpec.upto fnExactSafeDrawSpec)

/-- 'laws.FnExactDrawDown', WHERE WHAT IT READS IS OF BULK AT MOST 1048576: true; the input reads as it did. -/
def fnExactDrawDownUptoRow : OpenClaim := { program := "ytjngepglbmjagaa", sum := "9e53d521a83d9c806dcd54698472e4b3b97061363f4804df53bb31dd42ecd91c", func := "loop.example/g01393/laws.FnExactDrawDown", spec := "fnExactDrawDown", unfollowed := true, recurses := true, apart := false, narrowed := true }
def FnExactDrawDownUptoSaid : Prop := fnExactDrawDownUptoRow.holds Try.pinned (OpenSpec.upto fnExactDrawDownSpec)

/-- 'laws.FnExactRowAnswer', WHERE WHAT IT READS IS OF BULK AT MOST 1048576: true; the input reads as it did. -/
def fnExactRowAnswerUptoRow : OpenClaim := { program := "ytjngepglbmjagaa", sum := "9e53d521a83d9c806dcd54698472e4b3b97061363f4804df53bb31dd42ecd91c", func := "loop.example/g01393/laws.FnExactRowAnswer", spec := "fnExactRowAnswer", unfollowed := true, recurses := true, apart := false, narrowed := true }
def FnExactRowAnswerUptoSaid : Prop := fnExactRowAnswerUptoRow.holds Try.pinned (OpenSpec.upto fnExactRowAnswerSpec)

/-- 'laws.FnExactRowGaps', WHERE WHAT IT READS IS OF BULK AT MOST 1048576: true; the input reads as it did. -/
def fnExactRowGapsUptoRow : OpenClaim := { program := "ytjngepglbmjagaa", sum := "9e53d521a83d9c806dcd54698472e4b3b97061363f4804df53bb31dd42ecd91c", func := "loop.example/g01393/laws.FnExactRowGaps", spec := "fnExactRowGaps", unfollowed := true, recurses := true, apart := false, narrowed := true }
def FnExactRowGapsUptoSaid : Prop := fnExactRowGapsUptoRow.holds Try.pinned (OpenSpec.upto fnExactRowGapsSpec)

/-- 'laws.FnExactRowClashes', WHERE WHAT IT READS IS OF BULK AT MOST 1048576: true; the input reads as it did. -/
def fnExactRowClashesUptoRow : OpenClaim := { program := "ytjngepglbmjagaa", sum := "9e53d521a83d9c806dcd54698472e4b3b97061363f4804df53bb31dd42ecd91c", func := "loop.example/g01393/laws.FnExactRowClashes", spec := "fnExactRowClashes", unfollowed := true, recurses := true, apart := false, narrowed := true }
def FnExactRowClashesUptoSaid : Prop := fnExactRowClashesUptoRow.holds Try.pinned (OpenSpec.upto fnExactRowClashesSpec)

/-- 'laws.FnExactRowCounts', WHERE WHAT IT READS IS OF BULK AT MOST 1048576: true; the input reads as it did. -/
def fnExactRowCountsUptoRow : OpenClaim := { program := "ytjngepglbmjagaa", sum := "9e53d521a83d9c806dcd54698472e4b3b97061363f4804df53bb31dd42ecd91c", func := "loop.example/g01393/laws.FnExactRowCounts", spec := "fnExactRowCounts", unfollowed := true, recurses := true, apart := false, narrowed := true }
def FnExactRowCountsUptoSaid : Prop := fnExactRowCountsUptoRow.holds Try.pinned (OpenSpec.upto fnExactRowCountsSpec)

/-- 'laws.FnExactFirstRows', WHERE WHAT IT READS IS OF BULK AT MOST 1048576: true; the input reads as it did. -/
def fnExactFirstRowsUptoRow : OpenClaim := { program := "ytjngepglbmjagaa", sum := "9e53d521a83d9c806dcd54698472e4b3b97061363f4804df53bb31dd42ecd91c", func := "loop.example/g01393/laws.FnExactFirstRows", spec := "fnExactFirstRows", unfollowed := true, recurses := true, apart := false, narrowed := true }
def FnExactFirstRowsUptoSaid : Prop := fnExactFirstRowsUptoRow.holds Try.pinned (OpenSpec.upto fnExactFirstRowsSpec)

end Rows
end Go.Proofs.Ytjngepglbmjagaa
