/-
  THE CARDS OF THIS SEAT: a world in which the listed variables hold what their initialisers lay; what the list gives the walks.
-/
import Derived.Test.YtinocfehjdlohaaDoorTxt
import Derived.Test.YtinocfehjdlohaaDoorCards
import Derived.Test.YtinocfehjdlohaaDoorTie
import Derived.ChangeVars
import Derived.LaidMore
import Derived.LaidLaws
import Derived.Stop.LaidErr
import Derived.Stop.Joined
import Derived.Lib.LaidTab
namespace Go.Proofs.YtinocfehjdlohaaDoor
open Go.ChangeShapes Go.WideShapes Go.ChangeAt Go.RowKit
set_option linter.unusedVariables false

theorem gTab : Tryd.prog.globalNamed "internal/strconv.uint64pow10" = some 3 := by kernel_rfl
noncomputable def dWorld (os : Os) : World := World.doorLaid Tryd.prog 400 os
theorem rtMet (os : Os) (args : Array Value) : laidMetH Tryd.prog Rows.fnExactRuleTextRow.laid ((dWorld os).forCall (fun _ _ => 0) ⟨#[], args, []⟩).memory :=
  laidMetH_of_parts3 (fuel := 8) (laidMet_of_run' 8 (by kernel_rfl) (by kernel_rfl)) (by kernel_rfl) (by kernel_rfl)
theorem tab_of_rt {W : World} (h : laidMetH Tryd.prog Rows.fnExactRuleTextRow.laid W) : Tab W := by
  rw [MakeChecks.laidMetH_plain _ _ _ (by kernel_rfl)] at h
  have h2 : laidMet Tryd.prog [("internal/strconv.uint64pow10", Lib.tabData .u64 Lib.pow10Tab)] W := h.tail.tail
  exact Lib.tabIs_of_head (t := 126) (e := 98) gTab (by kernel_rfl) Tryd.underlying126 Tryd.underlying98 (by kernel_rfl) (by kernel_rfl) h2
end Go.Proofs.YtinocfehjdlohaaDoor
