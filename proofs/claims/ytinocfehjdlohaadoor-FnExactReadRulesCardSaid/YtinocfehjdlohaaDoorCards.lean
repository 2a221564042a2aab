/-
  DERIVED. GIVEN WITH THE SEED: THE CARDS: each row of YtinocfehjdlohaaDoorRows.lean that lists a variable, with what it lists TIED to the program's text (the seventh form; the later family's looks); each row that meets fmt, with fmt's text TOLD by the authors' own Lean function (tested against real Go, not proved from fmt's source: count such statements apart). THE CARD IS WHAT COUNTS. Prove the row's statement (the work); the ties are given (YtinocfehjdlohaaDoorTie.lean); close each card by the builder's one call (the guide's Derived/Test/ToyasCard.lean, 'card_holds'). Laid BY PROGRAM, IN A SANDBOX (cutbox-door.mjs). By AI agents, Wed Nov 11 2026. No macro, syntax, notation, axiom, sorry.
-/
import Derived.Test.YtinocfehjdlohaaDoorRows
import GoSem.ClaimSeven
namespace Go.Proofs.YtinocfehjdlohaaDoor
namespace Rows

/-- THE TIED CARD OF 'laws.FnExactRuleText'. -/
def fnExactRuleTextCard : Claim7 := { stood := { row := fnExactRuleTextRow, standIns := [], harness := (true, "efc0ae8036732c333b278084c4a02bfb90e6d824660745a6b3882d6bfb19dadf"), looks := true }, kinds := [], alts := [], laidByText := true, laidKinds := [.data, .data, .data], laidTests := true, laidLooks := .later }
def FnExactRuleTextCardSaid : Prop := Claim7.holds Tryd.pinned (.plain (OpenSpec.ofChange fnExactRuleTextSpec)) fnExactRuleTextCard

/-- THE TIED CARD OF 'laws.FnExactRulesText'. -/
def fnExactRulesTextCard : Claim7 := { stood := { row := fnExactRulesTextRow, standIns := [], harness := (true, "efc0ae8036732c333b278084c4a02bfb90e6d824660745a6b3882d6bfb19dadf"), looks := true }, kinds := [], alts := [], laidByText := true, laidKinds := [.data, .data, .data], laidTests := true, laidLooks := .later }
def FnExactRulesTextCardSaid : Prop := Claim7.holds Tryd.pinned (.plain (OpenSpec.ofChange fnExactRulesTextSpec)) fnExactRulesTextCard

/-- THE TIED CARD OF 'laws.FnExactReadRule'. -/
def fnExactReadRuleCard : Claim7 := { stood := { row := fnExactReadRuleRow, standIns := [], harness := (true, "efc0ae8036732c333b278084c4a02bfb90e6d824660745a6b3882d6bfb19dadf"), looks := true }, kinds := [], alts := [], laidByText := true, laidKinds := [.data, .data, .data, .data, .sentinel, .sentinel, .pinned], laidTests := true, laidLooks := .later }
def FnExactReadRuleCardSaid : Prop := Claim7.holds Tryd.pinned (.plain (OpenSpec.ofChange fnExactReadRuleSpec)) fnExactReadRuleCard

/-- THE TIED CARD OF 'laws.FnExactReadRules'. -/
def fnExactReadRulesCard : Claim7 := { stood := { row := fnExactReadRulesRow, standIns := [], harness := (true, "efc0ae8036732c333b278084c4a02bfb90e6d824660745a6b3882d6bfb19dadf"), looks := true }, kinds := [], alts := [], laidByText := true, laidKinds := [.data, .data, .data, .data, .sentinel, .sentinel, .pinned], laidTests := true, laidLooks := .later }
def FnExactReadRulesCardSaid : Prop := Claim7.holds Tryd.pinned (.plain (OpenSpec.ofChange fnExactReadRulesSpec)) fnExactReadRulesCard

/-- THE SECOND FORM's CARD OF 'laws.FnExactRuleText'. -/
def fnExactRuleTextUptoCard : Claim7 := { stood := { row := fnExactRuleTextUptoRow, standIns := [], harness := (true, "efc0ae8036732c333b278084c4a02bfb90e6d824660745a6b3882d6bfb19dadf"), looks := true }, kinds := [], alts := [], laidByText := true, laidKinds := [.data, .data, .data], laidTests := true, laidLooks := .later }
def FnExactRuleTextUptoCardSaid : Prop := Claim7.holds Tryd.pinned (.plain (OpenSpec.upto fnExactRuleTextSpec)) fnExactRuleTextUptoCard

/-- THE SECOND FORM's CARD OF 'laws.FnExactRulesText'. -/
def fnExactRulesTextUptoCard : Claim7 := { stood := { row := fnExactRulesTextUptoRow, standIns := [], harness := (true, "efc0ae8036732c333b278084c4a02bfb90e6d824660745a6b3882d6bfb19dadf"), looks := true }, kinds := [], alts := [], laidByText := true, laidKinds := [.data, .data, .data], laidTests := true, laidLooks := .later }
def FnExactRulesTextUptoCardSaid : Prop := Claim7.holds Tryd.pinned (.plain (OpenSpec.upto fnExactRulesTextSpec)) fnExactRulesTextUptoCard

/-- THE SECOND FORM's CARD OF 'laws.FnExactReadRule'. -/
def fnExactReadRuleUptoCard : Claim7 := { stood := { row := fnExactReadRuleUptoRow, standIns := [], harness := (true, "efc0ae8036732c333b278084c4a02bfb90e6d824660745a6b3882d6bfb19dadf"), looks := true }, kinds := [], alts := [], laidByText := true, laidKinds := [.data, .data, .data, .data, .sentinel, .sentinel, .pinned], laidTests := true, laidLooks := .later }
def FnExactReadRuleUptoCardSaid : Prop := Claim7.holds Tryd.pinned (.plain (OpenSpec.upto fnExactReadRuleSpec)) fnExactReadRuleUptoCard

/-- THE SECOND FORM's CARD OF 'laws.FnExactReadRules'. -/
def fnExactReadRulesUptoCard : Claim7 := { stood := { row := fnExactReadRulesUptoRow, standIns := [], harness := (true, "efc0ae8036732c333b278084c4a02bfb90e6d824660745a6b3882d6bfb19dadf"), looks := true }, kinds := [], alts := [], laidByText := true, laidKinds := [.data, .data, .data, .data, .sentinel, .sentinel, .pinned], laidTests := true, laidLooks := .later }
def FnExactReadRulesUptoCardSaid : Prop := Claim7.holds Tryd.pinned (.plain (OpenSpec.upto fnExactReadRulesSpec)) fnExactReadRulesUptoCard
end Rows
end Go.Proofs.YtinocfehjdlohaaDoor
