/-
  THE LAW FnExactRulesText: for every input the program's RulesText returns what the reference's returns, and changes no argument. Conditions: none.
-/
import Derived.Test.YtinocfehjdlohaaDoorTxtW
import Derived.Test.YtinocfehjdlohaaDoorCard
namespace Go.Proofs.YtinocfehjdlohaaDoor
open Go.ChangeShapes Go.WideShapes Go.ChangeAt Go.RowKit
set_option linter.unusedVariables false
set_option maxHeartbeats 400000 in
theorem lawRulesText_walk_long0 (A0 : Option Addr) (m0 c0 : Nat) (d0 : List Rl) (W : World) (r0 : RsRd W W.heap.size A0 m0 d0) (b0 : (∀ d ∈ d0, RlB d) ∧ m0 ≤ 9223372036854775807) (hT : Tab W) (y0 : 1048576 < szD d0) :
    Calls Tryd.prog 4 #[.slice A0 m0 c0] W fun e w' => e = .returned (.bool true) ∧ Below W.heap.size W w' := by
  have hB : Below W.heap.size W W := Below.refl _ _
  go_enter Tryd.func4, Tryd.ntmps4
  go_wp2_with fail
  refine (szRs_no _ _ _ d0 _ _ ((r0.below hB).more hB.size) ⟨by omega, by omega⟩ b0 (by omega)).mono ?_
  rintro e w1 ⟨rfl, hb⟩
  have S1 := Lib.hid hb.size
  replace hB := below_step hB hb
  clear hb
  go_wp2_with fail
  go_ret
  exact ⟨rfl, hB⟩
set_option maxRecDepth 100000 in
set_option maxHeartbeats 12800000 in
theorem lawRulesText_walk_short (A0 : Option Addr) (m0 c0 : Nat) (d0 : List Rl) (W : World) (r0 : RsRd W W.heap.size A0 m0 d0) (b0 : (∀ d ∈ d0, RlB d) ∧ m0 ≤ 9223372036854775807) (hT : Tab W) (y0 : szD d0 ≤ 1048576) :
    Calls Tryd.prog 4 #[.slice A0 m0 c0] W fun e w' => e = .returned (.bool true) ∧ Below W.heap.size W w' := by
  have hB : Below W.heap.size W W := Below.refl _ _
  have s0 : szD d0 ≤ 1048576 := by omega
  go_enter Tryd.func4, Tryd.ntmps4
  go_wp2_with fail
  refine (szRs_yes _ _ _ d0 _ _ ((r0.below hB).more hB.size) ⟨by omega, by omega⟩ b0 (by omega)).mono ?_
  rintro e w1 ⟨l0, rfl, el0, hl0, hb⟩
  have El0 := Lib.hid el0; clear el0
  have S1 := Lib.hid hb.size
  replace hB := below_step hB hb
  clear hb
  go_wp2_with fail
  refine (toRs_any _ _ _ d0 _ ((r0.below hB).more hB.size) s0).mono ?_
  rintro e w2 ⟨Q1, q1, rfl, o1, hb⟩
  have S2 := Lib.hid hb.size
  replace hB := below_step hB hb
  clear hb
  go_wp2_with fail
  refine (spec_RulesText _ _ _ d0 _ o1.rd s0 b0.1).mono ?_
  rintro e w3 ⟨rfl, hb⟩
  clear o1
  have S3 := Lib.hid hb.size
  replace hB := below_step hB hb
  clear hb
  go_wp2_with fail
  refine (toRs_any _ _ _ d0 _ ((r0.below hB).more hB.size) s0).mono ?_
  rintro e w4 ⟨Q2, q2, rfl, o2, hb⟩
  have S4 := Lib.hid hb.size
  replace hB := below_step hB hb
  clear hb
  go_wp2_with fail
  refine (impl_RulesText _ _ _ d0 _ o2.rd s0 b0.1 (hT.on hB)).mono ?_
  rintro e w5 ⟨rfl, hb⟩
  replace o2 := o2.on hb
  have S5 := Lib.hid hb.size
  replace hB := below_step hB hb
  clear hb
  go_wp2_with fail
  refine (toRs_any _ _ _ d0 _ ((r0.below hB).more hB.size) s0).mono ?_
  rintro e w6 ⟨Q3, q3, rfl, o3, hb⟩
  replace o2 := o2.on hb
  have S6 := Lib.hid hb.size
  replace hB := below_step hB hb
  clear hb
  go_wp2_with fail
  refine (eqRs_yes _ _ _ _ _ d0 _ o2.rd o3.rd (by have := s0; omega)).mono ?_
  rintro e w7 ⟨rfl, hb⟩
  clear o3
  replace o2 := o2.on hb
  have S7 := Lib.hid hb.size
  replace hB := below_step hB hb
  clear hb
  go_wp2_with fail
  go_ret
  exact ⟨rfl, hB⟩
theorem lawRulesText_walk (A0 : Option Addr) (m0 c0 : Nat) (d0 : List Rl) (W : World) (r0 : RsRd W W.heap.size A0 m0 d0) (b0 : (∀ d ∈ d0, RlB d) ∧ m0 ≤ 9223372036854775807) (hT : Tab W) :
    Calls Tryd.prog 4 #[.slice A0 m0 c0] W fun e w' => e = .returned (.bool true) ∧ Below W.heap.size W w' := by
  by_cases y0 : szD d0 ≤ 1048576
  case neg => exact lawRulesText_walk_long0 A0 m0 c0 d0 W r0 b0 hT  (by omega)
  exact lawRulesText_walk_short A0 m0 c0 d0 W r0 b0 hT y0
set_option maxRecDepth 100000 in
theorem lawRulesText_lifted (os : Os) (started : os.Started) (H : Type) (enc : TypeId × Value → H) :
    ReturnsInHanded {} Tryd.checked os 4 .any (fun w args => (Rows.fnExactRulesTextSpec.pre enc Tryd.prog Tryd.f4 [] false w args ∧ laidMetH Tryd.prog Rows.fnExactRulesTextRow.laid w) ∧ sizedMet enc Tryd.prog Tryd.f4 (OpenSpec.ofChange Rows.fnExactRulesTextSpec) false w args) (Rows.fnExactRulesTextSpec.post enc Tryd.prog Tryd.f4 false true false false) := by
  refine returnsInHanded_of_change_and (C := Tryd.checked) (X := fun w _ => laidMetH Tryd.prog Rows.fnExactRulesTextRow.laid w) (fun _ _ _ hh h => h.of_heap hh) own_knob started (by kernel_rfl) Tryd.func4
    (ChangeSpec.witness_shaped (enc := enc) (C := Tryd.checked) (os := os) (X := fun w _ => laidMetH Tryd.prog Rows.fnExactRulesTextRow.laid w) false (dWorld os) #[.slice none 0 0] 8 rfl (World.shaped_of_RefB (by kernel_rfl) (by kernel_rfl)) (by kernel_rfl) (by kernel_rfl) (by kernel_rfl) (rtMet os #[.slice none 0 0])) ?_
  intro W base args ds gs before hval0 hW _ _ hL _
  have hT := tab_of_rt hL
  have hval : ∀ (j : Nat) t v, Tryd.f4.params[j]? = some t → args[j]? = some v → Value.okWide Tryd.prog W .any base t v := hval0
  have hW' := hW
  obtain ⟨p, q, hA0, hV, rfl, hfz, hnd⟩ := hW
  have hA : DataW.TrodAll enc Tryd.prog W 0 (fun _ => true) true Tryd.f4.params.toList args.toList ds p := hA0
  rw [Tryd.params4] at hA hval
  obtain ⟨v0, vs0, d0, ds0, p0, q0, hargs, rfl, rfl, h0, u0⟩ := trodAll_cons hA
  obtain ⟨rfl, rfl, rfl⟩ := trodAll_nil u0
  obtain rfl : args = #[v0] := by cases args; simp_all
  obtain ⟨A0, m0, c0, rs0, hrs0⟩ := open_rd_rules Tryd.underlying32 Tryd.underlying24 (by kernel_rfl) rfl rfl rfl rfl rfl (by kernel_rfl) (by kernel_rfl) (by kernel_rfl) (by kernel_rfl) (by kernel_rfl) Tryd.underlying2 Tryd.underlying22 Tryd.underlying2 Tryd.underlying2 Tryd.underlying2 Tryd.underlying2 (by kernel_rfl) (hval 0 32 v0 rfl rfl) h0
  obtain ⟨rfl, r0, b0⟩ := open_rs (enc := enc) hrs0
  clear hA0 hval0
  refine (lawRulesText_walk A0 m0 c0 (rs0.map Ru.dat) W r0 b0 hT).mono fun e W' ⟨he, hb⟩ => ?_
  subst he
  exact ⟨_, rfl, post_true 4 Tryd.underlying4 (by kernel_rfl) laid_out (by kernel_rfl) rfl rfl hW' hb⟩
theorem lawRulesText_over : Rows.fnExactRulesTextRow.holds Tryd.pinned (OpenSpec.ofChange Rows.fnExactRulesTextSpec) :=
  OpenClaim.holds_of_wide 4 Tryd.f4 rfl rfl rfl rfl rfl rfl rfl ⟨rfl, rfl, rfl, rfl, rfl⟩ rfl rfl rfl rfl rfl (by kernel_rfl) Tryd.func4 (by kernel_rfl)
    (of_decide_eq_true (by kernel_rfl)) (by unfold Func.isWrapper; first | (rw [if_pos (by decide +kernel)]; kernel_rfl) | (rw [if_neg (by decide +kernel)]; exact ⟨rfl, rfl⟩))
    (fun os started H enc _ => lawRulesText_lifted os started H enc)
theorem lawRulesText_plain (f : FuncId) (fn : Func) (hf : Tryd.pinned.checked.prog.funcNamed "loop.example/g01393/laws.FnExactRulesText" = some f) (hfn : Tryd.pinned.checked.prog.funcs[f]? = some fn) :
    true = Tryd.pinned.checked.prog.looks [] ∧ ∀ (j : Nat) t, fn.params[j]? = some t → Tryd.pinned.checked.prog.wantsStandIn t = false := by
  obtain rfl : f = 4 := Option.some.inj ((show Tryd.prog.funcNamed "loop.example/g01393/laws.FnExactRulesText" = some 4 by kernel_rfl).symm.trans hf) |>.symm
  obtain rfl : fn = Tryd.f4 := (Option.some.inj (Tryd.func4.symm.trans hfn)).symm
  refine ⟨by kernel_rfl, fun j t ht => ?_⟩
  rw [Tryd.params4] at ht
  have hm : t ∈ [32] := by simpa using Array.mem_of_getElem? ht
  have hall : ([32].all fun u => !Tryd.prog.wantsStandIn u) = true := by kernel_rfl
  exact (show Tryd.prog.wantsStandIn t = false by simpa using List.all_eq_true.1 hall t hm)
theorem lawRulesText_proved : Rows.FnExactRulesTextCardSaid :=
  Claim7.holds_tied_plain_at .later [] _ _ _ _ lawRulesText_over (fun _ h => by cases h) (by kernel_rfl) (fun _ h => by cases h) fnExactRulesText_row_tie rfl ⟨rfl, rfl⟩ (by kernel_rfl) rfl lawRulesText_plain (by kernel_rfl)
#print axioms lawRulesText_proved
end Go.Proofs.YtinocfehjdlohaaDoor
