/-
  No cell of these rows narrows 'for every input' (looked for: loops, veiled, ifaces, maps, wideKeys, modest, calm, conditions, laid).
  DERIVED. THE GIVEN ROWS OF THIS SEAT. 12 by the template 'for every input the law returns true; each argument reads behind the call as it read before'; 0 by the template 'total and deterministic' (their statements: YtkdiegplbloccaaTotals.lean).
  GIVEN WITH THE SEED: the statements are not yours to turn. If you find one false, say at which input.
  Laid BY PROGRAM, IN A SANDBOX (cutbox-rows.mjs): the forced cells as the released guide's own fill.sh prints them over the translation 4497baf1e972818a… (all of the seat's roots in one cut). By AI agents, Wed Nov 11 2026. No macro, syntax, notation, axiom, sorry.
-/
import Derived.Test.YtkdiegplbloccaaChecked
import GoSem.Claim
import GoSem.ClaimJoined
import GoSem.ClaimMapViews
import Derived.JoinedTies
import Derived.KernelRfl
namespace Go.Proofs.Ytkdiegplbloccaa
/- THE CELL 'sum', in the pinned program and in every row, IS THE sha256 OF THE DUMP (.gsa) THAT YtkdiegplbloccaaProg.lean LOADS. Nothing in Lean hashes anything: it is a label: what it is worth is what the hold of that sum in a sandbox is worth. -/
noncomputable def Try.pinned : Pinned := { name := "ytkdiegplbloccaa", sum := "4497baf1e972818a060f9e96ada90a5a8ae9586bc6092fb6e9dbeb0c8e80f5f1", checked := Try.checked }
namespace Rows
def none {H : Type} : Left H := { results := [], args := [] }

/-- 'laws.FnExactSamePeople': WHATEVER THE INPUT: true; the input reads as it did. -/
def fnExactSamePeopleSpec : ChangeSpec := { name := "fnExactSamePeople", fn := fun _ => fun
  | [d1, d2] => { results := [.lit (.bool true)], args := [d1, d2] }
  | _ => none }
def fnExactSamePeopleRow : OpenClaim := { program := "ytkdiegplbloccaa", sum := "4497baf1e972818a060f9e96ada90a5a8ae9586bc6092fb6e9dbeb0c8e80f5f1", func := "loop.example/g01393/laws.FnExactSamePeople", spec := "fnExactSamePeople", inPlace := ["math.Float32bits"], unfollowed := true, recurses := true, apart := false }
def FnExactSamePeopleSaid : Prop := fnExactSamePeopleRow.holds Try.pinned (OpenSpec.ofChange fnExactSamePeopleSpec)

/-- ITS FALSE NEIGHBOUR: 'it returns false'. Refute it at one input. -/
def fnExactSamePeopleWrong : ChangeSpec := { name := "fnExactSamePeople", fn := fun _ => fun
  | [d1, d2] => { results := [.lit (.bool false)], args := [d1, d2] }
  | _ => none }
def FnExactSamePeopleWrongFalsely : Prop := fnExactSamePeopleRow.holds Try.pinned (OpenSpec.ofChange fnExactSamePeopleWrong)

/-- 'laws.FnExactValidPeople': WHATEVER THE INPUT: true; the input reads as it did. -/
def fnExactValidPeopleSpec : ChangeSpec := { name := "fnExactValidPeople", fn := fun _ => fun
  | [d] => { results := [.lit (.bool true)], args := [d] }
  | _ => none }
def fnExactValidPeopleRow : OpenClaim := { program := "ytkdiegplbloccaa", sum := "4497baf1e972818a060f9e96ada90a5a8ae9586bc6092fb6e9dbeb0c8e80f5f1", func := "loop.example/g01393/laws.FnExactValidPeople", spec := "fnExactValidPeople", inPlace := ["math.Float64bits", "math.Float64frombits"], unfollowed := true, recurses := true, apart := false }
def FnExactValidPeopleSaid : Prop := fnExactValidPeopleRow.holds Try.pinned (OpenSpec.ofChange fnExactValidPeopleSpec)

/-- ITS FALSE NEIGHBOUR: 'it returns false'. Refute it at one input. -/
def fnExactValidPeopleWrong : ChangeSpec := { name := "fnExactValidPeople", fn := fun _ => fun
  | [d] => { results := [.lit (.bool false)], args := [d] }
  | _ => none }
def FnExactValidPeopleWrongFalsely : Prop := fnExactValidPeopleRow.holds Try.pinned (OpenSpec.ofChange fnExactValidPeopleWrong)

/-- 'laws.FnExactRunFund': WHATEVER THE INPUT: true; the input reads as it did. -/
def fnExactRunFundSpec : ChangeSpec := { name := "fnExactRunFund", fn := fun _ => fun
  | [d1, d2, d3, d4] => { results := [.lit (.bool true)], args := [d1, d2, d3, d4] }
  | _ => none }
def fnExactRunFundRow : OpenClaim := { program := "ytkdiegplbloccaa", sum := "4497baf1e972818a060f9e96ada90a5a8ae9586bc6092fb6e9dbeb0c8e80f5f1", func := "loop.example/g01393/laws.FnExactRunFund", spec := "fnExactRunFund", inPlace := ["math.Float64bits", "math.Float64frombits"], unfollowed := true, recurses := true, apart := false }
def FnExactRunFundSaid : Prop := fnExactRunFundRow.holds Try.pinned (OpenSpec.ofChange fnExactRunFundSpec)

/-- ITS FALSE NEIGHBOUR: 'it returns false'. Refute it at one input. -/
def fnExactRunFundWrong : ChangeSpec := { name := "fnExactRunFund", fn := fun _ => fun
  | [d1, d2, d3, d4] => { results := [.lit (.bool false)], args := [d1, d2, d3, d4] }
  | _ => none }
def FnExactRunFundWrongFalsely : Prop := fnExactRunFundRow.holds Try.pinned (OpenSpec.ofChange fnExactRunFundWrong)

/-- 'laws.FnExactWorthNow': WHATEVER THE INPUT: true; the input reads as it did. -/
def fnExactWorthNowSpec : ChangeSpec := { name := "fnExactWorthNow", fn := fun _ => fun
  | [d1, d2] => { results := [.lit (.bool true)], args := [d1, d2] }
  | _ => none }
def fnExactWorthNowRow : OpenClaim := { program := "ytkdiegplbloccaa", sum := "4497baf1e972818a060f9e96ada90a5a8ae9586bc6092fb6e9dbeb0c8e80f5f1", func := "loop.example/g01393/laws.FnExactWorthNow", spec := "fnExactWorthNow", inPlace := ["math.Float64bits", "math.Float64frombits"], unfollowed := true, recurses := true, apart := false }
def FnExactWorthNowSaid : Prop := fnExactWorthNowRow.holds Try.pinned (OpenSpec.ofChange fnExactWorthNowSpec)

/-- ITS FALSE NEIGHBOUR: 'it returns false'. Refute it at one input. -/
def fnExactWorthNowWrong : ChangeSpec := { name := "fnExactWorthNow", fn := fun _ => fun
  | [d1, d2] => { results := [.lit (.bool false)], args := [d1, d2] }
  | _ => none }
def FnExactWorthNowWrongFalsely : Prop := fnExactWorthNowRow.holds Try.pinned (OpenSpec.ofChange fnExactWorthNowWrong)

/-- 'laws.FnExactSameRules': WHATEVER THE INPUT: true; the input reads as it did. -/
def fnExactSameRulesSpec : ChangeSpec := { name := "fnExactSameRules", fn := fun _ => fun
  | [d1, d2] => { results := [.lit (.bool true)], args := [d1, d2] }
  | _ => none }
def fnExactSameRulesRow : OpenClaim := { program := "ytkdiegplbloccaa", sum := "4497baf1e972818a060f9e96ada90a5a8ae9586bc6092fb6e9dbeb0c8e80f5f1", func := "loop.example/g01393/laws.FnExactSameRules", spec := "fnExactSameRules", unfollowed := true, recurses := true, apart := false }
def FnExactSameRulesSaid : Prop := fnExactSameRulesRow.holds Try.pinned (OpenSpec.ofChange fnExactSameRulesSpec)

/-- ITS FALSE NEIGHBOUR: 'it returns false'. Refute it at one input. -/
def fnExactSameRulesWrong : ChangeSpec := { name := "fnExactSameRules", fn := fun _ => fun
  | [d1, d2] => { results := [.lit (.bool false)], args := [d1, d2] }
  | _ => none }
def FnExactSameRulesWrongFalsely : Prop := fnExactSameRulesRow.holds Try.pinned (OpenSpec.ofChange fnExactSameRulesWrong)

/-- 'laws.FnExactAreRules': WHATEVER THE INPUT: true; the input reads as it did. -/
def fnExactAreRulesSpec : ChangeSpec := { name := "fnExactAreRules", fn := fun _ => fun
  | [d] => { results := [.lit (.bool true)], args := [d] }
  | _ => none }
def fnExactAreRulesRow : OpenClaim := { program := "ytkdiegplbloccaa", sum := "4497baf1e972818a060f9e96ada90a5a8ae9586bc6092fb6e9dbeb0c8e80f5f1", func := "loop.example/g01393/laws.FnExactAreRules", spec := "fnExactAreRules", unfollowed := true, recurses := true, apart := false }
def FnExactAreRulesSaid : Prop := fnExactAreRulesRow.holds Try.pinned (OpenSpec.ofChange fnExactAreRulesSpec)

/-- ITS FALSE NEIGHBOUR: 'it returns false'. Refute it at one input. -/
def fnExactAreRulesWrong : ChangeSpec := { name := "fnExactAreRules", fn := fun _ => fun
  | [d] => { results := [.lit (.bool false)], args := [d] }
  | _ => none }
def FnExactAreRulesWrongFalsely : Prop := fnExactAreRulesRow.holds Try.pinned (OpenSpec.ofChange fnExactAreRulesWrong)

/-- 'laws.FnExactActiveRules': WHATEVER THE INPUT: true; the input reads as it did. -/
def fnExactActiveRulesSpec : ChangeSpec := { name := "fnExactActiveRules", fn := fun _ => fun
  | [d1, d2] => { results := [.lit (.bool true)], args := [d1, d2] }
  | _ => none }
def fnExactActiveRulesRow : OpenClaim := { program := "ytkdiegplbloccaa", sum := "4497baf1e972818a060f9e96ada90a5a8ae9586bc6092fb6e9dbeb0c8e80f5f1", func := "loop.example/g01393/laws.FnExactActiveRules", spec := "fnExactActiveRules", unfollowed := true, recurses := true, apart := false }
def FnExactActiveRulesSaid : Prop := fnExactActiveRulesRow.holds Try.pinned (OpenSpec.ofChange fnExactActiveRulesSpec)

/-- ITS FALSE NEIGHBOUR: 'it returns false'. Refute it at one input. -/
def fnExactActiveRulesWrong : ChangeSpec := { name := "fnExactActiveRules", fn := fun _ => fun
  | [d1, d2] => { results := [.lit (.bool false)], args := [d1, d2] }
  | _ => none }
def FnExactActiveRulesWrongFalsely : Prop := fnExactActiveRulesRow.holds Try.pinned (OpenSpec.ofChange fnExactActiveRulesWrong)

/-- 'laws.FnExactRepealRule': WHATEVER THE INPUT: true; the input reads as it did. -/
def fnExactRepealRuleSpec : ChangeSpec := { name := "fnExactRepealRule", fn := fun _ => fun
  | [d1, d2, d3] => { results := [.lit (.bool true)], args := [d1, d2, d3] }
  | _ => none }
def fnExactRepealRuleRow : OpenClaim := { program := "ytkdiegplbloccaa", sum := "4497baf1e972818a060f9e96ada90a5a8ae9586bc6092fb6e9dbeb0c8e80f5f1", func := "loop.example/g01393/laws.FnExactRepealRule", spec := "fnExactRepealRule", unfollowed := true, recurses := true, apart := false }
def FnExactRepealRuleSaid : Prop := fnExactRepealRuleRow.holds Try.pinned (OpenSpec.ofChange fnExactRepealRuleSpec)

/-- ITS FALSE NEIGHBOUR: 'it returns false'. Refute it at one input. -/
def fnExactRepealRuleWrong : ChangeSpec := { name := "fnExactRepealRule", fn := fun _ => fun
  | [d1, d2, d3] => { results := [.lit (.bool false)], args := [d1, d2, d3] }
  | _ => none }
def FnExactRepealRuleWrongFalsely : Prop := fnExactRepealRuleRow.holds Try.pinned (OpenSpec.ofChange fnExactRepealRuleWrong)

/-- 'laws.FnExactClashesOf': WHATEVER THE INPUT: true; the input reads as it did. -/
def fnExactClashesOfSpec : ChangeSpec := { name := "fnExactClashesOf", fn := fun _ => fun
  | [d1, d2] => { results := [.lit (.bool true)], args := [d1, d2] }
  | _ => none }
def fnExactClashesOfRow : OpenClaim := { program := "ytkdiegplbloccaa", sum := "4497baf1e972818a060f9e96ada90a5a8ae9586bc6092fb6e9dbeb0c8e80f5f1", func := "loop.example/g01393/laws.FnExactClashesOf", spec := "fnExactClashesOf", unfollowed := true, recurses := true, apart := false }
def FnExactClashesOfSaid : Prop := fnExactClashesOfRow.holds Try.pinned (OpenSpec.ofChange fnExactClashesOfSpec)

/-- ITS FALSE NEIGHBOUR: 'it returns false'. Refute it at one input. -/
def fnExactClashesOfWrong : ChangeSpec := { name := "fnExactClashesOf", fn := fun _ => fun
  | [d1, d2] => { results := [.lit (.bool false)], args := [d1, d2] }
  | _ => none }
def FnExactClashesOfWrongFalsely : Prop := fnExactClashesOfRow.holds Try.pinned (OpenSpec.ofChange fnExactClashesOfWrong)

/-- 'laws.FnExactAmendRule': WHATEVER THE INPUT: true; the input reads as it did. -/
def fnExactAmendRuleSpec : ChangeSpec := { name := "fnExactAmendRule", fn := fun _ => fun
  | [d1, d2, d3, d4] => { results := [.lit (.bool true)], args := [d1, d2, d3, d4] }
  | _ => none }
def fnExactAmendRuleRow : OpenClaim := { program := "ytkdiegplbloccaa", sum := "4497baf1e972818a060f9e96ada90a5a8ae9586bc6092fb6e9dbeb0c8e80f5f1", func := "loop.example/g01393/laws.FnExactAmendRule", spec := "fnExactAmendRule", unfollowed := true, recurses := true, apart := false }
def FnExactAmendRuleSaid : Prop := fnExactAmendRuleRow.holds Try.pinned (OpenSpec.ofChange fnExactAmendRuleSpec)

/-- ITS FALSE NEIGHBOUR: 'it returns false'. Refute it at one input. -/
def fnExactAmendRuleWrong : ChangeSpec := { name := "fnExactAmendRule", fn := fun _ => fun
  | [d1, d2, d3, d4] => { results := [.lit (.bool false)], args := [d1, d2, d3, d4] }
  | _ => none }
def FnExactAmendRuleWrongFalsely : Prop := fnExactAmendRuleRow.holds Try.pinned (OpenSpec.ofChange fnExactAmendRuleWrong)

/-- 'laws.FnExactRulesAt': WHATEVER THE INPUT: true; the input reads as it did. -/
def fnExactRulesAtSpec : ChangeSpec := { name := "fnExactRulesAt", fn := fun _ => fun
  | [d1, d2] => { results := [.lit (.bool true)], args := [d1, d2] }
  | _ => none }
def fnExactRulesAtRow : OpenClaim := { program := "ytkdiegplbloccaa", sum := "4497baf1e972818a060f9e96ada90a5a8ae9586bc6092fb6e9dbeb0c8e80f5f1", func := "loop.example/g01393/laws.FnExactRulesAt", spec := "fnExactRulesAt", unfollowed := true, recurses := true, apart := false }
def FnExactRulesAtSaid : Prop := fnExactRulesAtRow.holds Try.pinned (OpenSpec.ofChange fnExactRulesAtSpec)

/-- ITS FALSE NEIGHBOUR: 'it returns false'. Refute it at one input. -/
def fnExactRulesAtWrong : ChangeSpec := { name := "fnExactRulesAt", fn := fun _ => fun
  | [d1, d2] => { results := [.lit (.bool false)], args := [d1, d2] }
  | _ => none }
def FnExactRulesAtWrongFalsely : Prop := fnExactRulesAtRow.holds Try.pinned (OpenSpec.ofChange fnExactRulesAtWrong)

/-- 'laws.FnExactNeedsOf': WHATEVER THE INPUT: true; the input reads as it did. -/
def fnExactNeedsOfSpec : ChangeSpec := { name := "fnExactNeedsOf", fn := fun _ => fun
  | [d1, d2, d3] => { results := [.lit (.bool true)], args := [d1, d2, d3] }
  | _ => none }
def fnExactNeedsOfRow : OpenClaim := { program := "ytkdiegplbloccaa", sum := "4497baf1e972818a060f9e96ada90a5a8ae9586bc6092fb6e9dbeb0c8e80f5f1", func := "loop.example/g01393/laws.FnExactNeedsOf", spec := "fnExactNeedsOf", unfollowed := true, recurses := true, apart := false }
def FnExactNeedsOfSaid : Prop := fnExactNeedsOfRow.holds Try.pinned (OpenSpec.ofChange fnExactNeedsOfSpec)

/-- ITS FALSE NEIGHBOUR: 'it returns false'. Refute it at one input. -/
def fnExactNeedsOfWrong : ChangeSpec := { name := "fnExactNeedsOf", fn := fun _ => fun
  | [d1, d2, d3] => { results := [.lit (.bool false)], args := [d1, d2, d3] }
  | _ => none }
def FnExactNeedsOfWrongFalsely : Prop := fnExactNeedsOfRow.holds Try.pinned (OpenSpec.ofChange fnExactNeedsOfWrong)

/- THE SECOND FORM. 'bulk': how many values and letters a reading holds, each counted each time it is reached (what is shared counts as often as it is met; a slice's spare places count too). A statement '..UptoSaid' is the law's where the arguments, and the package variables that the reading takes, are together of bulk at most 1048576: NARROWER than '..Said'. Prove '..Said' where nothing that the law and all that it calls make is longer than what came in: it says more and counts as full. Else prove '..UptoSaid'. A law counts once. -/
mutual
def uptoBulk {H : Type} : DataW H → Nat
  | .lit (.string bytes) => bytes.length + 1
  | .lit _ => 1
  | .nil => 1
  | .ptr d => uptoBulk d + 1
  | .slice elems spare => uptoBulkAll elems + uptoBulkAll spare + 1
  | .agg parts => uptoBulkAll parts + 1
  | .iface _ d => uptoBulk d + 1
  | .map entries => uptoBulkEntries entries + 1
  | .held _ => 1
def uptoBulkAll {H : Type} : List (DataW H) → Nat
  | [] => 0
  | d :: r => uptoBulk d + uptoBulkAll r
def uptoBulkEntries {H : Type} : List (Lit × DataW H) → Nat
  | [] => 0
  | x :: r => uptoBulkEntry x + uptoBulkEntries r
def uptoBulkEntry {H : Type} : Lit × DataW H → Nat
  | (.string bytes, d) => bytes.length + uptoBulk d + 1
  | (_, d) => uptoBulk d + 1
 end
def uptoSmall : (H : Type) → List (DataW H) → Bool := fun _ ds => decide (uptoBulkAll ds ≤ 1048576)
def OpenSpec.upto (s : _root_.Go.ChangeSpec) : _root_.Go.OpenSpec := { _root_.Go.OpenSpec.ofChange s with cond := some uptoSmall }

/-- 'laws.FnExactSamePeople', WHERE WHAT IT READS IS OF BULK AT MOST 1048576: true; the input reads as it did. -/
def fnExactSamePeopleUptoRow : OpenClaim := { program := "ytkdiegplbloccaa", sum := "4497baf1e972818a060f9e96ada90a5a8ae9586bc6092fb6e9dbeb0c8e80f5f1", func := "loop.example/g01393/laws.FnExactSamePeople", spec := "fnExactSamePeople", inPlace := ["math.Float32bits"], unfollowed := true, recurses := true, apart := false, narrowed := true }
def FnExactSamePeopleUptoSaid : Prop := fnExactSamePeopleUptoRow.holds Try.pinned (OpenSpec.upto fnExactSamePeopleSpec)

/-- 'laws.FnExactValidPeople', WHERE WHAT IT READS IS OF BULK AT MOST 1048576: true; the input reads as it did. -/
def fnExactValidPeopleUptoRow : OpenClaim := { program := "ytkdiegplbloccaa", sum := "4497baf1e972818a060f9e96ada90a5a8ae9586bc6092fb6e9dbeb0c8e80f5f1", func := "loop.example/g01393/laws.FnExactValidPeople", spec := "fnExactValidPeople", inPlace := ["math.Float64bits", "math.Float64frombits"], unfollowed := true, recurses := true, apart := false, narrowed := true }
def FnExactValidPeopleUptoSaid : Prop := fnExactValidPeopleUptoRow.holds Try.pinned (OpenSpec.upto fnExactValidPeopleSpec)

/-- 'laws.FnExactRunFund', WHERE WHAT IT READS IS OF BULK AT MOST 1048576: true; the input reads as it did. -/
def fnExactRunFundUptoRow : OpenClaim := { program := "ytkdiegplbloccaa", sum := "4497baf1e972818a060f9e96ada90a5a8ae9586bc6092fb6e9dbeb0c8e80f5f1", func := "loop.example/g01393/laws.FnExactRunFund", spec := "fnExactRunFund", inPlace := ["math.Float64bits", "math.Float64frombits"], unfollowed := true, recurses := true, apart := false, narrowed := true }
def FnExactRunFundUptoSaid : Prop := fnExactRunFundUptoRow.holds Try.pinned (OpenSpec.upto fnExactRunFundSpec)

/-- 'laws.FnExactWorthNow', WHERE WHAT IT READS IS OF BULK AT MOST 1048576: true; the input reads as it did. -/
def fnExactWorthNowUptoRow : OpenClaim := { program := "ytkdiegplbloccaa", sum := "4497baf1e972818a060f9e96ada90a5a8ae9586bc6092fb6e9dbeb0c8e80f5f1", func := "loop.example/g01393/laws.FnExactWorthNow", spec := "fnExactWorthNow", inPlace := ["math.Float64bits", "math.Float64frombits"], unfollowed := true, recurses := true, apart := false, narrowed := true }
def FnExactWorthNowUptoSaid : Prop := fnExactWorthNowUptoRow.holds Try.pinned (OpenSpec.upto fnExactWorthNowSpec)

/-- 'laws.FnExactSameRules', WHERE WHAT IT READS IS OF BULK AT MOST 1048576: true; the input reads as it did. -/
def fnExactSameRulesUptoRow : OpenClaim := { program := "ytkdiegplbloccaa", sum := "4497baf1e972818a060f9e96ada90a5a8ae9586bc6092fb6e9dbeb0c8e80f5f1", func := "loop.example/g01393/laws.FnExactSameRules", spec := "fnExactSameRules", unfollowed := true, recurses := true, apart := false, narrowed := true }
def FnExactSameRulesUptoSaid : Prop := fnExactSameRulesUptoRow.holds Try.pinned (OpenSpec.upto fnExactSameRulesSpec)

/-- 'laws.FnExactAreRules', WHERE WHAT IT READS IS OF BULK AT MOST 1048576: true; the input reads as it did. -/
def fnExactAreRulesUptoRow : OpenClaim := { program := "ytkdiegplbloccaa", sum := "4497baf1e972818a060f9e96ada90a5a8ae9586bc6092fb6e9dbeb0c8e80f5f1", func := "loop.example/g01393/laws.FnExactAreRules", spec := "fnExactAreRules", unfollowed := true, recurses := true, apart := false, narrowed := true }
def FnExactAreRulesUptoSaid : Prop := fnExactAreRulesUptoRow.holds Try.pinned (OpenSpec.upto fnExactAreRulesSpec)

/-- 'laws.FnExactActiveRules', WHERE WHAT IT READS IS OF BULK AT MOST 1048576: true; the input reads as it did. -/
def fnExactActiveRulesUptoRow : OpenClaim := { program := "ytkdiegplbloccaa", sum := "4497baf1e972818a060f9e96ada90a5a8ae9586bc6092fb6e9dbeb0c8e80f5f1", func := "loop.example/g01393/laws.FnExactActiveRules", spec := "fnExactActiveRules", unfollowed := true, recurses := true, apart := false, narrowed := true }
def FnExactActiveRulesUptoSaid : Prop := fnExactActiveRulesUptoRow.holds Try.pinned (OpenSpec.upto fnExactActiveRulesSpec)

/-- 'laws.FnExactRepealRule', WHERE WHAT IT READS IS OF BULK AT MOST 1048576: true; the input reads as it did. -/
def fnExactRepealRuleUptoRow : OpenClaim := { program := "ytkdiegplbloccaa", sum := "4497baf1e972818a060f9e96ada90a5a8ae9586bc6092fb6e9dbeb0c8e80f5f1", func := "loop.example/g01393/laws.FnExactRepealRule", spec := "fnExactRepealRule", unfollowed := true, recurses := true, apart := false, narrowed := true }
def FnExactRepealRuleUptoSaid : Prop := fnExactRepealRuleUptoRow.holds Try.pinned (OpenSpec.upto fnExactRepealRuleSpec)

/-- 'laws.FnExactClashesOf', WHERE WHAT IT READS IS OF BULK AT MOST 1048576: true; the input reads as it did. -/
def fnExactClashesOfUptoRow : OpenClaim := { program := "ytkdiegplbloccaa", sum := "4497baf1e972818a060f9e96ada90a5a8ae9586bc6092fb6e9dbeb0c8e80f5f1", func := "loop.example/g01393/laws.FnExactClashesOf", spec := "fnExactClashesOf", unfollowed := true, recurses := true, apart := false, narrowed := true }
def FnExactClashesOfUptoSaid : Prop := fnExactClashesOfUptoRow.holds Try.pinned (OpenSpec.upto fnExactClashesOfSpec)

/-- 'laws.FnExactAmendRule', WHERE WHAT IT READS IS OF BULK AT MOST 1048576: true; the input reads as it did. -/
def fnExactAmendRuleUptoRow : OpenClaim := { program := "ytkdiegplbloccaa", sum := "4497baf1e972818a060f9e96ada90a5a8ae9586bc6092fb6e9dbeb0c8e80f5f1", func := "loop.example/g01393/laws.FnExactAmendRule", spec := "fnExactAmendRule", unfollowed := true, recurses := true, apart := false, narrowed := true }
def FnExactAmendRuleUptoSaid : Prop := fnExactAmendRuleUptoRow.holds Try.pinned (OpenSpec.upto fnExactAmendRuleSpec)

/-- 'laws.FnExactRulesAt', WHERE WHAT IT READS IS OF BULK AT MOST 1048576: true; the input reads as it did. -/
def fnExactRulesAtUptoRow : OpenClaim := { program := "ytkdiegplbloccaa", sum := "4497baf1e972818a060f9e96ada90a5a8ae9586bc6092fb6e9dbeb0c8e80f5f1", func := "loop.example/g01393/laws.FnExactRulesAt", spec := "fnExactRulesAt", unfollowed := true, recurses := true, apart := false, narrowed := true }
def FnExactRulesAtUptoSaid : Prop := fnExactRulesAtUptoRow.holds Try.pinned (OpenSpec.upto fnExactRulesAtSpec)

/-- 'laws.FnExactNeedsOf', WHERE WHAT IT READS IS OF BULK AT MOST 1048576: true; the input reads as it did. -/
def fnExactNeedsOfUptoRow : OpenClaim := { program := "ytkdiegplbloccaa", sum := "4497baf1e972818a060f9e96ada90a5a8ae9586bc6092fb6e9dbeb0c8e80f5f1", func := "loop.example/g01393/laws.FnExactNeedsOf", spec := "fnExactNeedsOf", unfollowed := true, recurses := true, apart := false, narrowed := true }
def FnExactNeedsOfUptoSaid : Prop := fnExactNeedsOfUptoRow.holds Try.pinned (OpenSpec.upto fnExactNeedsOfSpec)

end Rows
end Go.Proofs.Ytkdiegplbloccaa
