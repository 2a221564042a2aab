/-
  THE LAW FnExactAreRules: for every input the program's AreRules returns what the reference's returns, and changes no argument. Conditions: none.
-/
import Derived.Test.YtkdiegplbloccaaRuAre
namespace Go.Proofs.Ytkdiegplbloccaa
open Go.ChangeShapes Go.WideShapes Go.ChangeAt Go.RowKit
set_option linter.unusedVariables false
set_option maxHeartbeats 400000 in
theorem lawAreRules_walk_long0 (A0 : Option Addr) (m0 c0 : Nat) (d0 : List Rl) (W : World) (r0 : RsRd W W.heap.size A0 m0 d0) (b0 : (∀ d ∈ d0, RlB d) ∧ m0 ≤ 9223372036854775807) (y0 : 1048576 < szD d0) :
    Calls Try.prog 8 #[.slice A0 m0 c0] W fun e w' => e = .returned (.bool true) ∧ Below W.heap.size W w' := by
  have hB : Below W.heap.size W W := Below.refl _ _
  go_enter Try.func8, Try.ntmps8
  go_wp2_with fail
  refine (szRs_no _ _ _ d0 _ _ ((r0.below hB).more hB.size) ⟨by omega, by omega⟩ b0 (by omega)).mono ?_
  rintro e w1 ⟨rfl, hb⟩
  have S1 := Lib.hid hb.size
  replace hB := below_step hB hb
  clear hb
  go_wp2_with fail
  go_ret
  exact ⟨rfl, hB⟩
set_option maxRecDepth 100000 in
set_option maxHeartbeats 3200000 in
theorem lawAreRules_walk_short (A0 : Option Addr) (m0 c0 : Nat) (d0 : List Rl) (W : World) (r0 : RsRd W W.heap.size A0 m0 d0) (b0 : (∀ d ∈ d0, RlB d) ∧ m0 ≤ 9223372036854775807) (y0 : szD d0 ≤ 1048576) :
    Calls Try.prog 8 #[.slice A0 m0 c0] W fun e w' => e = .returned (.bool true) ∧ Below W.heap.size W w' := by
  have hB : Below W.heap.size W W := Below.refl _ _
  have s0 : szD d0 ≤ 1048576 := by omega
  go_enter Try.func8, Try.ntmps8
  go_wp2_with fail
  refine (szRs_yes _ _ _ d0 _ _ ((r0.below hB).more hB.size) ⟨by omega, by omega⟩ b0 (by omega)).mono ?_
  rintro e w1 ⟨l0, rfl, el0, hl0, hb⟩
  have S1 := Lib.hid hb.size
  replace hB := below_step hB hb
  clear hb
  go_wp2_with fail
  refine (toRs_any _ _ _ d0 _ ((r0.below hB).more hB.size) s0).mono ?_
  rintro e w2 ⟨Q1, q1, rfl, o1, hb⟩
  have S2 := Lib.hid hb.size
  replace hB := below_step hB hb
  clear hb
  go_wp2_with fail
  refine (spec_AreRules _ _ _ d0 _ o1.rd s0 b0.1).mono ?_
  rintro e w3 ⟨rfl, hb⟩
  clear o1
  have S3 := Lib.hid hb.size
  replace hB := below_step hB hb
  clear hb
  go_wp2_with fail
  refine (toRs_any _ _ _ d0 _ ((r0.below hB).more hB.size) s0).mono ?_
  rintro e w4 ⟨Q2, q2, rfl, o2, hb⟩
  have S4 := Lib.hid hb.size
  replace hB := below_step hB hb
  clear hb
  go_wp2_with fail
  refine (impl_AreRules _ _ _ d0 _ o2.rd s0 b0.1).mono ?_
  rintro e w5 ⟨rfl, hb⟩
  replace o2 := o2.on hb
  have S5 := Lib.hid hb.size
  replace hB := below_step hB hb
  clear hb
  go_wp2_with fail
  refine (toRs_any _ _ _ d0 _ ((r0.below hB).more hB.size) s0).mono ?_
  rintro e w6 ⟨Q3, q3, rfl, o3, hb⟩
  replace o2 := o2.on hb
  have S6 := Lib.hid hb.size
  replace hB := below_step hB hb
  clear hb
  go_wp2_with fail
  refine (eqRs_yes _ _ _ _ _ d0 _ o2.rd o3.rd (by have := s0; omega)).mono ?_
  rintro e w7 ⟨rfl, hb⟩
  clear o3
  replace o2 := o2.on hb
  have S7 := Lib.hid hb.size
  replace hB := below_step hB hb
  clear hb
  go_wp2_with fail
  go_ret
  exact ⟨rfl, hB⟩
theorem lawAreRules_walk (A0 : Option Addr) (m0 c0 : Nat) (d0 : List Rl) (W : World) (r0 : RsRd W W.heap.size A0 m0 d0) (b0 : (∀ d ∈ d0, RlB d) ∧ m0 ≤ 9223372036854775807) :
    Calls Try.prog 8 #[.slice A0 m0 c0] W fun e w' => e = .returned (.bool true) ∧ Below W.heap.size W w' := by
  by_cases y0 : szD d0 ≤ 1048576
  case neg => exact lawAreRules_walk_long0 A0 m0 c0 d0 W r0 b0  (by omega)
  exact lawAreRules_walk_short A0 m0 c0 d0 W r0 b0 y0
set_option maxRecDepth 100000 in
theorem lawAreRules_lifted (os : Os) (started : os.Started) (H : Type) (enc : TypeId × Value → H) :
    ReturnsInHanded {} Try.checked os 8 .any (Rows.fnExactAreRulesSpec.pre6 enc Try.prog Try.f8 Rows.fnExactAreRulesRow.domain false) (Rows.fnExactAreRulesSpec.post enc Try.prog Try.f8 false true false false) := by
  refine returnsInHanded_of_change (C := Try.checked) own_knob started (by kernel_rfl) Try.func8
    (ChangeSpec.witness6 (enc := enc) (C := Try.checked) false ⟨#[], #[.slice none 0 0], []⟩ 8 (by kernel_rfl) (by kernel_rfl) (by kernel_rfl) (by kernel_rfl)) ?_
  intro W base args ds gs before hval0 hW hcnd _
  have hval : ∀ (j : Nat) t v, Try.f8.params[j]? = some t → args[j]? = some v → Value.okWide Try.prog W .any base t v := hval0
  have hW' := hW
  obtain ⟨p, q, hA0, hV, rfl, hfz, hnd⟩ := hW
  have hA : DataW.TrodAll enc Try.prog W 0 (fun _ => true) true Try.f8.params.toList args.toList ds p := hA0
  rw [Try.params8] at hA hval
  obtain ⟨v0, vs0, d0, ds0, p0, q0, hargs, rfl, rfl, h0, u0⟩ := trodAll_cons hA
  obtain ⟨rfl, rfl, rfl⟩ := trodAll_nil u0
  obtain rfl : args = #[v0] := by cases args; simp_all
  obtain ⟨A0, m0, c0, rs0, hrs0⟩ := open_rd_rules Try.underlying43 Try.underlying62 (by kernel_rfl) rfl rfl rfl rfl rfl (by kernel_rfl) (by kernel_rfl) (by kernel_rfl) (by kernel_rfl) (by kernel_rfl) Try.underlying2 Try.underlying51 Try.underlying2 Try.underlying2 Try.underlying2 Try.underlying2 (by kernel_rfl) (hval 0 43 v0 rfl rfl) h0
  obtain ⟨rfl, r0, b0⟩ := open_rs (enc := enc) hrs0
  clear hA0 hval0
  refine (lawAreRules_walk A0 m0 c0 (rs0.map Ru.dat) W r0 b0).mono fun e W' ⟨he, hb⟩ => ?_
  subst he
  exact ⟨_, rfl, post_true 4 Try.underlying4 (by kernel_rfl) laid_out (by kernel_rfl) rfl rfl hW' hb⟩
theorem lawAreRules_over : Rows.fnExactAreRulesRow.holds Try.pinned (OpenSpec.ofChange Rows.fnExactAreRulesSpec) :=
  OpenClaim.holds_of_wide 8 Try.f8 rfl rfl rfl rfl rfl rfl rfl ⟨rfl, rfl, rfl, rfl, rfl⟩ rfl rfl rfl rfl rfl (by kernel_rfl) Try.func8 (by kernel_rfl)
    (of_decide_eq_true (by kernel_rfl)) (by unfold Func.isWrapper; first | (rw [if_pos (by decide +kernel)]; kernel_rfl) | (rw [if_neg (by decide +kernel)]; exact ⟨rfl, rfl⟩))
    (fun os started H enc _ => lawAreRules_lifted os started H enc)
theorem lawAreRules_proved : Rows.FnExactAreRulesSaid := lawAreRules_over
#print axioms lawAreRules_proved
end Go.Proofs.Ytkdiegplbloccaa
