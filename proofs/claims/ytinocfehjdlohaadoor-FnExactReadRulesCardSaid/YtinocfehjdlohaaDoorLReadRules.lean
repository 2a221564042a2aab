/-
  THE ReadRules FnExactReadRules: for every text the program's ReadRules returns what the reference's returns. Conditions: none.
-/
import Derived.Test.YtinocfehjdlohaaDoorRrX
import Derived.Test.YtinocfehjdlohaaDoorCardRs
namespace Go.Proofs.YtinocfehjdlohaaDoor
open Go.ChangeShapes Go.WideShapes Go.ChangeAt Go.RowKit
open Go.ChangeMaps (open_string)
set_option linter.unusedVariables false
theorem lawReadRules_long (l : List UInt8) (W : World) (hs : l.length ≤ 9223372036854775807) (hl : 1048576 < l.length) :
    Calls Tryd.prog 6 #[.string (txB l)] W fun e w' => e = .returned (.bool true) ∧ Below W.heap.size W w' := by
  have hz : (txB l).size = l.length := txB_size l
  have i0 : (1048576 : Int) < l.length := by omega
  go_enter Tryd.func6, Tryd.ntmps6
  go_wp2_with fail
  go_ret
  exact ⟨rfl, Below.refl _ _⟩
theorem lawReadRules_walk (l : List UInt8) (W : World) (hw : RW W) (hs : l.length ≤ 9223372036854775807) :
    Calls Tryd.prog 6 #[.string (txB l)] W fun e w' => e = .returned (.bool true) ∧ Below W.heap.size W w' := by
  by_cases h : l.length ≤ 1048576
  · exact lawReadRules_short l W hw h
  · exact lawReadRules_long l W hs (by omega)
set_option maxRecDepth 100000 in
theorem lawReadRules_lifted (os : Os) (started : os.Started) (H : Type) (enc : TypeId × Value → H) :
    ReturnsInHanded {} Tryd.checked os 6 .any (fun w args => (Rows.fnExactReadRulesSpec.pre enc Tryd.prog Tryd.f6 [] false w args ∧ laidMetH Tryd.prog Rows.fnExactReadRulesRow.laid w) ∧ sizedMet enc Tryd.prog Tryd.f6 (OpenSpec.ofChange Rows.fnExactReadRulesSpec) false w args) (Rows.fnExactReadRulesSpec.post enc Tryd.prog Tryd.f6 false true false false) := by
  refine handed_and_shaped (C := Tryd.checked) (X := fun w _ => laidMetH Tryd.prog Rows.fnExactReadRulesRow.laid w) (fun _ _ _ hh h => h.of_heap hh) own_knob started (by kernel_rfl) Tryd.func6
    (ChangeSpec.witness_shaped (enc := enc) (C := Tryd.checked) (os := os) (X := fun w _ => laidMetH Tryd.prog Rows.fnExactReadRulesRow.laid w) false (rWorld os) #[.string ⟨#[]⟩] 8 rfl (World.shaped_of_RefB (by kernel_rfl) (by kernel_rfl)) (by kernel_rfl) (by kernel_rfl) (by kernel_rfl) (rrsMet os #[.string ⟨#[]⟩])) ?_
  intro W base args ds gs before hval0 hW hL hsh
  have hT := rw_of_rrs hsh hL
  have hval : ∀ (j : Nat) t v, Tryd.f6.params[j]? = some t → args[j]? = some v → Value.okWide Tryd.prog W .any base t v := hval0
  have hW' := hW
  obtain ⟨p, q, hA0, hV, rfl, hfz, hnd⟩ := hW
  have hA : DataW.TrodAll enc Tryd.prog W 0 (fun _ => true) true Tryd.f6.params.toList args.toList ds p := hA0
  rw [Tryd.params6] at hA hval
  obtain ⟨v0, vs0, d0, ds0, p0, q0, hargs, rfl, rfl, h0, u0⟩ := trodAll_cons hA
  obtain ⟨rfl, rfl, rfl⟩ := trodAll_nil u0
  obtain rfl : args = #[v0] := by cases args; simp_all
  obtain ⟨s, rfl, rfl, rfl, ws⟩ := open_string Tryd.underlying9 (hval 0 9 v0 rfl rfl) h0
  clear hA0 hval0
  have hst : s = txB s.data.toList := (txB_of s).symm
  have H := lawReadRules_walk s.data.toList W hT (by have h1 : (txB s.data.toList).size = s.data.toList.length := txB_size _; rw [← hst] at h1; unfold maxLen at ws; omega)
  rw [← hst] at H
  refine H.mono fun e W' ⟨he, hb⟩ => ?_
  subst he
  exact ⟨_, rfl, post_true 4 Tryd.underlying4 (by kernel_rfl) laid_out (by kernel_rfl) rfl rfl hW' hb⟩
theorem lawReadRules_over : Rows.fnExactReadRulesRow.holds Tryd.pinned (OpenSpec.ofChange Rows.fnExactReadRulesSpec) :=
  OpenClaim.holds_of_wide 6 Tryd.f6 rfl rfl rfl rfl rfl rfl rfl ⟨rfl, rfl, rfl, rfl, rfl⟩ rfl rfl rfl rfl rfl (by kernel_rfl) Tryd.func6 (by kernel_rfl)
    (of_decide_eq_true (by kernel_rfl)) (by unfold Func.isWrapper; first | (rw [if_pos (by decide +kernel)]; kernel_rfl) | (rw [if_neg (by decide +kernel)]; exact ⟨rfl, rfl⟩))
    (fun os started H enc _ => lawReadRules_lifted os started H enc)
theorem lawReadRules_plain (f : FuncId) (fn : Func) (hf : Tryd.pinned.checked.prog.funcNamed "loop.example/g01393/laws.FnExactReadRules" = some f) (hfn : Tryd.pinned.checked.prog.funcs[f]? = some fn) :
    true = Tryd.pinned.checked.prog.looks [] ∧ ∀ (j : Nat) t, fn.params[j]? = some t → Tryd.pinned.checked.prog.wantsStandIn t = false := by
  obtain rfl : f = 6 := Option.some.inj ((show Tryd.prog.funcNamed "loop.example/g01393/laws.FnExactReadRules" = some 6 by kernel_rfl).symm.trans hf) |>.symm
  obtain rfl : fn = Tryd.f6 := (Option.some.inj (Tryd.func6.symm.trans hfn)).symm
  refine ⟨by kernel_rfl, fun j t ht => ?_⟩
  rw [Tryd.params6] at ht
  have hm : t ∈ [9] := by simpa using Array.mem_of_getElem? ht
  have hall : ([9].all fun u => !Tryd.prog.wantsStandIn u) = true := by kernel_rfl
  exact (show Tryd.prog.wantsStandIn t = false by simpa using List.all_eq_true.1 hall t hm)
theorem lawReadRules_proved : Rows.FnExactReadRulesCardSaid :=
  Claim7.holds_tied_plain_at .later [] _ _ _ _ lawReadRules_over (fun _ h => by cases h) (by kernel_rfl) (fun _ h => by cases h) fnExactReadRules_row_tie rfl ⟨rfl, rfl⟩ (by kernel_rfl) rfl lawReadRules_plain (by kernel_rfl)
#print axioms lawReadRules_proved
end Go.Proofs.YtinocfehjdlohaaDoor
