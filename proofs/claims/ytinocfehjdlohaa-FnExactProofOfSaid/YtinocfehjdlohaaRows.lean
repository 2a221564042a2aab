/-
  No cell of these rows narrows 'for every input' (looked for: loops, veiled, ifaces, maps, wideKeys, modest, calm, conditions, laid).
  DERIVED. THE GIVEN ROWS OF THIS SEAT. 7 by the template 'for every input the law returns true; each argument reads behind the call as it read before'; 0 by the template 'total and deterministic' (their statements: YtinocfehjdlohaaTotals.lean).
  GIVEN WITH THE SEED: the statements are not yours to turn. If you find one false, say at which input.
  Laid BY PROGRAM, IN A SANDBOX (cutbox-rows.mjs): the forced cells as the released guide's own fill.sh prints them over the translation 7b8b328bae9a673b… (all of the seat's roots in one cut). By AI agents, Wed Nov 11 2026. No macro, syntax, notation, axiom, sorry.
-/
import Derived.Test.YtinocfehjdlohaaChecked
import GoSem.Claim
import GoSem.ClaimJoined
import GoSem.ClaimMapViews
import Derived.JoinedTies
import Derived.KernelRfl
namespace Go.Proofs.Ytinocfehjdlohaa
/- THE CELL 'sum', in the pinned program and in every row, IS THE sha256 OF THE DUMP (.gsa) THAT YtinocfehjdlohaaProg.lean LOADS. Nothing in Lean hashes anything: it is a label: what it is worth is what the hold of that sum in a sandbox is worth. -/
noncomputable def Try.pinned : Pinned := { name := "ytinocfehjdlohaa", sum := "7b8b328bae9a673b5794b71e815bb71e723a5390e92251ba95c0d9134eddbf6f", checked := Try.checked }
namespace Rows
def none {H : Type} : Left H := { results := [], args := [] }

/-- 'laws.FnExactNeedsOf': WHATEVER THE INPUT: true; the input reads as it did. -/
def fnExactNeedsOfSpec : ChangeSpec := { name := "fnExactNeedsOf", fn := fun _ => fun
  | [d1, d2, d3] => { results := [.lit (.bool true)], args := [d1, d2, d3] }
  | _ => none }
def fnExactNeedsOfRow : OpenClaim := { program := "ytinocfehjdlohaa", sum := "7b8b328bae9a673b5794b71e815bb71e723a5390e92251ba95c0d9134eddbf6f", func := "loop.example/g01393/laws.FnExactNeedsOf", spec := "fnExactNeedsOf", unfollowed := true, recurses := true, apart := false }
def FnExactNeedsOfSaid : Prop := fnExactNeedsOfRow.holds Try.pinned (OpenSpec.ofChange fnExactNeedsOfSpec)

/-- ITS FALSE NEIGHBOUR: 'it returns false'. Refute it at one input. -/
def fnExactNeedsOfWrong : ChangeSpec := { name := "fnExactNeedsOf", fn := fun _ => fun
  | [d1, d2, d3] => { results := [.lit (.bool false)], args := [d1, d2, d3] }
  | _ => none }
def FnExactNeedsOfWrongFalsely : Prop := fnExactNeedsOfRow.holds Try.pinned (OpenSpec.ofChange fnExactNeedsOfWrong)

/-- 'laws.FnExactChangeDays': WHATEVER THE INPUT: true; the input reads as it did. -/
def fnExactChangeDaysSpec : ChangeSpec := { name := "fnExactChangeDays", fn := fun _ => fun
  | [d] => { results := [.lit (.bool true)], args := [d] }
  | _ => none }
def fnExactChangeDaysRow : OpenClaim := { program := "ytinocfehjdlohaa", sum := "7b8b328bae9a673b5794b71e815bb71e723a5390e92251ba95c0d9134eddbf6f", func := "loop.example/g01393/laws.FnExactChangeDays", spec := "fnExactChangeDays", unfollowed := true, recurses := true, apart := false }
def FnExactChangeDaysSaid : Prop := fnExactChangeDaysRow.holds Try.pinned (OpenSpec.ofChange fnExactChangeDaysSpec)

/-- ITS FALSE NEIGHBOUR: 'it returns false'. Refute it at one input. -/
def fnExactChangeDaysWrong : ChangeSpec := { name := "fnExactChangeDays", fn := fun _ => fun
  | [d] => { results := [.lit (.bool false)], args := [d] }
  | _ => none }
def FnExactChangeDaysWrongFalsely : Prop := fnExactChangeDaysRow.holds Try.pinned (OpenSpec.ofChange fnExactChangeDaysWrong)

/-- 'laws.FnExactDaysProved': WHATEVER THE INPUT: true; the input reads as it did. -/
def fnExactDaysProvedSpec : ChangeSpec := { name := "fnExactDaysProved", fn := fun _ => fun
  | [d1, d2, d3, d4, d5] => { results := [.lit (.bool true)], args := [d1, d2, d3, d4, d5] }
  | _ => none }
def fnExactDaysProvedRow : OpenClaim := { program := "ytinocfehjdlohaa", sum := "7b8b328bae9a673b5794b71e815bb71e723a5390e92251ba95c0d9134eddbf6f", func := "loop.example/g01393/laws.FnExactDaysProved", spec := "fnExactDaysProved", unfollowed := true, recurses := true, apart := false }
def FnExactDaysProvedSaid : Prop := fnExactDaysProvedRow.holds Try.pinned (OpenSpec.ofChange fnExactDaysProvedSpec)

/-- ITS FALSE NEIGHBOUR: 'it returns false'. Refute it at one input. -/
def fnExactDaysProvedWrong : ChangeSpec := { name := "fnExactDaysProved", fn := fun _ => fun
  | [d1, d2, d3, d4, d5] => { results := [.lit (.bool false)], args := [d1, d2, d3, d4, d5] }
  | _ => none }
def FnExactDaysProvedWrongFalsely : Prop := fnExactDaysProvedRow.holds Try.pinned (OpenSpec.ofChange fnExactDaysProvedWrong)

/-- 'laws.FnExactIsProof': WHATEVER THE INPUT: true; the input reads as it did. -/
def fnExactIsProofSpec : ChangeSpec := { name := "fnExactIsProof", fn := fun _ => fun
  | [d1, d2, d3, d4, d5] => { results := [.lit (.bool true)], args := [d1, d2, d3, d4, d5] }
  | _ => none }
def fnExactIsProofRow : OpenClaim := { program := "ytinocfehjdlohaa", sum := "7b8b328bae9a673b5794b71e815bb71e723a5390e92251ba95c0d9134eddbf6f", func := "loop.example/g01393/laws.FnExactIsProof", spec := "fnExactIsProof", unfollowed := true, recurses := true, apart := false }
def FnExactIsProofSaid : Prop := fnExactIsProofRow.holds Try.pinned (OpenSpec.ofChange fnExactIsProofSpec)

/-- ITS FALSE NEIGHBOUR: 'it returns false'. Refute it at one input. -/
def fnExactIsProofWrong : ChangeSpec := { name := "fnExactIsProof", fn := fun _ => fun
  | [d1, d2, d3, d4, d5] => { results := [.lit (.bool false)], args := [d1, d2, d3, d4, d5] }
  | _ => none }
def FnExactIsProofWrongFalsely : Prop := fnExactIsProofRow.holds Try.pinned (OpenSpec.ofChange fnExactIsProofWrong)

/-- 'laws.FnExactAnswersOf': WHATEVER THE INPUT: true; the input reads as it did. -/
def fnExactAnswersOfSpec : ChangeSpec := { name := "fnExactAnswersOf", fn := fun _ => fun
  | [d1, d2, d3] => { results := [.lit (.bool true)], args := [d1, d2, d3] }
  | _ => none }
def fnExactAnswersOfRow : OpenClaim := { program := "ytinocfehjdlohaa", sum := "7b8b328bae9a673b5794b71e815bb71e723a5390e92251ba95c0d9134eddbf6f", func := "loop.example/g01393/laws.FnExactAnswersOf", spec := "fnExactAnswersOf", unfollowed := true, recurses := true, apart := false }
def FnExactAnswersOfSaid : Prop := fnExactAnswersOfRow.holds Try.pinned (OpenSpec.ofChange fnExactAnswersOfSpec)

/-- ITS FALSE NEIGHBOUR: 'it returns false'. Refute it at one input. -/
def fnExactAnswersOfWrong : ChangeSpec := { name := "fnExactAnswersOf", fn := fun _ => fun
  | [d1, d2, d3] => { results := [.lit (.bool false)], args := [d1, d2, d3] }
  | _ => none }
def FnExactAnswersOfWrongFalsely : Prop := fnExactAnswersOfRow.holds Try.pinned (OpenSpec.ofChange fnExactAnswersOfWrong)

/-- 'laws.FnExactOpenOf': WHATEVER THE INPUT: true; the input reads as it did. -/
def fnExactOpenOfSpec : ChangeSpec := { name := "fnExactOpenOf", fn := fun _ => fun
  | [d1, d2, d3] => { results := [.lit (.bool true)], args := [d1, d2, d3] }
  | _ => none }
def fnExactOpenOfRow : OpenClaim := { program := "ytinocfehjdlohaa", sum := "7b8b328bae9a673b5794b71e815bb71e723a5390e92251ba95c0d9134eddbf6f", func := "loop.example/g01393/laws.FnExactOpenOf", spec := "fnExactOpenOf", unfollowed := true, recurses := true, apart := false }
def FnExactOpenOfSaid : Prop := fnExactOpenOfRow.holds Try.pinned (OpenSpec.ofChange fnExactOpenOfSpec)

/-- ITS FALSE NEIGHBOUR: 'it returns false'. Refute it at one input. -/
def fnExactOpenOfWrong : ChangeSpec := { name := "fnExactOpenOf", fn := fun _ => fun
  | [d1, d2, d3] => { results := [.lit (.bool false)], args := [d1, d2, d3] }
  | _ => none }
def FnExactOpenOfWrongFalsely : Prop := fnExactOpenOfRow.holds Try.pinned (OpenSpec.ofChange fnExactOpenOfWrong)

/-- 'laws.FnExactProofOf': WHATEVER THE INPUT: true; the input reads as it did. -/
def fnExactProofOfSpec : ChangeSpec := { name := "fnExactProofOf", fn := fun _ => fun
  | [d1, d2, d3, d4] => { results := [.lit (.bool true)], args := [d1, d2, d3, d4] }
  | _ => none }
def fnExactProofOfRow : OpenClaim := { program := "ytinocfehjdlohaa", sum := "7b8b328bae9a673b5794b71e815bb71e723a5390e92251ba95c0d9134eddbf6f", func := "loop.example/g01393/laws.FnExactProofOf", spec := "fnExactProofOf", unfollowed := true, recurses := true, apart := false }
def FnExactProofOfSaid : Prop := fnExactProofOfRow.holds Try.pinned (OpenSpec.ofChange fnExactProofOfSpec)

/-- ITS FALSE NEIGHBOUR: 'it returns false'. Refute it at one input. -/
def fnExactProofOfWrong : ChangeSpec := { name := "fnExactProofOf", fn := fun _ => fun
  | [d1, d2, d3, d4] => { results := [.lit (.bool false)], args := [d1, d2, d3, d4] }
  | _ => none }
def FnExactProofOfWrongFalsely : Prop := fnExactProofOfRow.holds Try.pinned (OpenSpec.ofChange fnExactProofOfWrong)

/- THE SECOND FORM. 'bulk': how many values and letters a reading holds, each counted each time it is reached (what is shared counts as often as it is met; a slice's spare places count too). A statement '..UptoSaid' is the law's where the arguments, and the package variables that the reading takes, are together of bulk at most 1048576: NARROWER than '..Said'. Prove '..Said' where nothing that the law and all that it calls make is longer than what came in: it says more and counts as full. Else prove '..UptoSaid'. A law counts once. -/
mutual
def uptoBulk {H : Type} : DataW H → Nat
  | .lit (.string bytes) => bytes.length + 1
  | .lit _ => 1
  | .nil => 1
  | .ptr d => uptoBulk d + 1
  | .slice elems spare => uptoBulkAll elems + uptoBulkAll spare + 1
  | .agg parts => uptoBulkAll parts + 1
  | .iface _ d => uptoBulk d + 1
  | .map entries => uptoBulkEntries entries + 1
  | .held _ => 1
def uptoBulkAll {H : Type} : List (DataW H) → Nat
  | [] => 0
  | d :: r => uptoBulk d + uptoBulkAll r
def uptoBulkEntries {H : Type} : List (Lit × DataW H) → Nat
  | [] => 0
  | x :: r => uptoBulkEntry x + uptoBulkEntries r
def uptoBulkEntry {H : Type} : Lit × DataW H → Nat
  | (.string bytes, d) => bytes.length + uptoBulk d + 1
  | (_, d) => uptoBulk d + 1
 end
def uptoSmall : (H : Type) → List (DataW H) → Bool := fun _ ds => decide (uptoBulkAll ds ≤ 1048576)
def OpenSpec.upto (s : _root_.Go.ChangeSpec) : _root_.Go.OpenSpec := { _root_.Go.OpenSpec.ofChange s with cond := some uptoSmall }

/-- 'laws.FnExactNeedsOf', WHERE WHAT IT READS IS OF BULK AT MOST 1048576: true; the input reads as it did. -/
def fnExactNeedsOfUptoRow : OpenClaim := { program := "ytinocfehjdlohaa", sum := "7b8b328bae9a673b5794b71e815bb71e723a5390e92251ba95c0d9134eddbf6f", func := "loop.example/g01393/laws.FnExactNeedsOf", spec := "fnExactNeedsOf", unfollowed := true, recurses := true, apart := false, narrowed := true }
def FnExactNeedsOfUptoSaid : Prop := fnExactNeedsOfUptoRow.holds Try.pinned (OpenSpec.upto fnExactNeedsOfSpec)

/-- 'laws.FnExactChangeDays', WHERE WHAT IT READS IS OF BULK AT MOST 1048576: true; the input reads as it did. -/
def fnExactChangeDaysUptoRow : OpenClaim := { program := "ytinocfehjdlohaa", sum := "7b8b328bae9a673b5794b71e815bb71e723a5390e92251ba95c0d9134eddbf6f", func := "loop.example/g01393/laws.FnExactChangeDays", spec := "fnExactChangeDays", unfollowed := true, recurses := true, apart := false, narrowed := true }
def FnExactChangeDaysUptoSaid : Prop := fnExactChangeDaysUptoRow.holds Try.pinned (OpenSpec.upto fnExactChangeDaysSpec)

/-- 'laws.FnExactDaysProved', WHERE WHAT IT READS IS OF BULK AT MOST 1048576: true; the input reads as it did. -/
def fnExactDaysProvedUptoRow : OpenClaim := { program := "ytinocfehjdlohaa", sum := "7b8b328bae9a673b5794b71e815bb71e723a5390e92251ba95c0d9134eddbf6f", func := "loop.example/g01393/laws.FnExactDaysProved", spec := "fnExactDaysProved", unfollowed := true, recurses := true, apart := false, narrowed := true }
def FnExactDaysProvedUptoSaid : Prop := fnExactDaysProvedUptoRow.holds Try.pinned (OpenSpec.upto fnExactDaysProvedSpec)

/-- 'laws.FnExactIsProof', WHERE WHAT IT READS IS OF BULK AT MOST 1048576: true; the input reads as it did. -/
def fnExactIsProofUptoRow : OpenClaim := { program := "ytinocfehjdlohaa", sum := "7b8b328bae9a673b5794b71e815bb71e723a5390e92251ba95c0d9134eddbf6f", func := "loop.example/g01393/laws.FnExactIsProof", spec := "fnExactIsProof", unfollowed := true, recurses := true, apart := false, narrowed := true }
def FnExactIsProofUptoSaid : Prop := fnExactIsProofUptoRow.holds Try.pinned (OpenSpec.upto fnExactIsProofSpec)

/-- 'laws.FnExactAnswersOf', WHERE WHAT IT READS IS OF BULK AT MOST 1048576: true; the input reads as it did. -/
def fnExactAnswersOfUptoRow : OpenClaim := { program := "ytinocfehjdlohaa", sum := "7b8b328bae9a673b5794b71e815bb71e723a5390e92251ba95c0d9134eddbf6f", func := "loop.example/g01393/laws.FnExactAnswersOf", spec := "fnExactAnswersOf", unfollowed := true, recurses := true, apart := false, narrowed := true }
def FnExactAnswersOfUptoSaid : Prop := fnExactAnswersOfUptoRow.holds Try.pinned (OpenSpec.upto fnExactAnswersOfSpec)

/-- 'laws.FnExactOpenOf', WHERE WHAT IT READS IS OF BULK AT MOST 1048576: true; the input reads as it did. -/
def fnExactOpenOfUptoRow : OpenClaim := { program := "ytinocfehjdlohaa", sum := "7b8b328bae9a673b5794b71e815bb71e723a5390e92251ba95c0d9134eddbf6f", func := "loop.example/g01393/laws.FnExactOpenOf", spec := "fnExactOpenOf", unfollowed := true, recurses := true, apart := false, narrowed := true }
def FnExactOpenOfUptoSaid : Prop := fnExactOpenOfUptoRow.holds Try.pinned (OpenSpec.upto fnExactOpenOfSpec)

/-- 'laws.FnExactProofOf', WHERE WHAT IT READS IS OF BULK AT MOST 1048576: true; the input reads as it did. -/
def fnExactProofOfUptoRow : OpenClaim := { program := "ytinocfehjdlohaa", sum := "7b8b328bae9a673b5794b71e815bb71e723a5390e92251ba95c0d9134eddbf6f", func := "loop.example/g01393/laws.FnExactProofOf", spec := "fnExactProofOf", unfollowed := true, recurses := true, apart := false, narrowed := true }
def FnExactProofOfUptoSaid : Prop := fnExactProofOfUptoRow.holds Try.pinned (OpenSpec.upto fnExactProofOfSpec)

end Rows
end Go.Proofs.Ytinocfehjdlohaa
