/-
  A CALL THAT LEAVES NOBODY BEHIND ANSWERS A ROW THAT LETS OTHERS LEAVE ('leaving').
-/
import Derived.Test.YtfcgknnnopgjfaaFrame
import Derived.Leaving
import Derived.Conc.Holds
namespace Go.Proofs.Ytfcgknnnopgjfaa
theorem leaving_of_handed {a : Assume} {C : Checked} {os : Os} {f : FuncId} {r : Reach} {Pre : World → Array Value → Prop} {Post : World → Array Value → Value → World → Prop} (h : ReturnsInHanded a C os f r Pre Post) : ReturnsInLeavingWide a C os f r Pre Post := fun enter => by
  obtain ⟨h1, h2, h3, h4, h5⟩ := h enter
  refine ⟨h1, h2, h3, h4, fun w tape i hf => ?_⟩
  obtain ⟨n, v, w', e1, e2, e3, e4, ⟨j, last, e5, e6, e7⟩, e8⟩ := h5 w tape i hf
  exact ⟨n, v, w', e1, e2, e3, e4, ⟨j, last, e5, e6, e7.2.1, onlyLeaving_of_quiet e7.1, e7.2.2⟩, e8⟩
end Go.Proofs.Ytfcgknnnopgjfaa
