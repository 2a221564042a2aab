/-
  HOW A CALL ENDS THAT RETURNS ONE SLICE OF ITS OWN AND A BOOL.
-/
import Derived.Test.YtmfglflahlddbaaApp
namespace Go.Proofs.Ytmfglflahlddbaa
open Go.ChangeShapes Go.WideShapes Go.ChangeAt Go.RowKit
set_option linter.unusedVariables false

def SlEnds (W : World) (rs : List Int) (ok : Bool) (E : Ending) (w' : World) : Prop :=
  ∃ v, E = .returned (.tuple #[v, .bool ok]) ∧ w'.ownsRow W.heap.size 2 1 v rs.length (ints rs) ∧ Below W.heap.size W w'
theorem sl_no {W w' : World} (hb : Below W.heap.size W w') : SlEnds W [] false (.returned (.tuple #[.slice none 0 0, .bool false])) w' :=
  ⟨_, rfl, World.ownsRow_nil _ _ _ _, hb⟩
theorem sl_yes {W w' : World} {rs : List Int} {v : Value} {n : Nat} (hn : rs.length = n) (ho : w'.ownsRow W.heap.size 2 1 v n (ints rs)) (hb : Below W.heap.size W w') : SlEnds W rs true (.returned (.tuple #[v, .bool true])) w' := by
  subst hn; exact ⟨_, rfl, ho, hb⟩
end Go.Proofs.Ytmfglflahlddbaa
