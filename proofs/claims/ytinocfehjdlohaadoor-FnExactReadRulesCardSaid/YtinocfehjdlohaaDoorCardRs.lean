/-
  THE CARD OF ReadRules: the list is ReadRule's.
-/
import Derived.Test.YtinocfehjdlohaaDoorCardR
namespace Go.Proofs.YtinocfehjdlohaaDoor
open Go.ChangeShapes Go.WideShapes Go.ChangeAt Go.RowKit
set_option linter.unusedVariables false

theorem rw_of_rrs {W : World} (hsh : W.ShapedOpen Tryd.prog) (h : laidMetH Tryd.prog Rows.fnExactReadRulesRow.laid W) : RW W :=
  rw_of_rr hsh h
theorem rrsMet (os : Os) (args : Array Value) : laidMetH Tryd.prog Rows.fnExactReadRulesRow.laid ((rWorld os).forCall (fun _ _ => 0) ⟨#[], args, []⟩).memory :=
  rrMet os args
end Go.Proofs.YtinocfehjdlohaaDoor
