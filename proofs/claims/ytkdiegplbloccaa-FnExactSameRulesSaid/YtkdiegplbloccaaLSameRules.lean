/-
  THE LAW FnExactSameRules: for every input the program's SameRules returns what the reference's returns, and changes no argument. Conditions: none.
-/
import Derived.Test.YtkdiegplbloccaaRuSame
namespace Go.Proofs.Ytkdiegplbloccaa
open Go.ChangeShapes Go.WideShapes Go.ChangeAt Go.RowKit
set_option linter.unusedVariables false
set_option maxHeartbeats 400000 in
theorem lawSameRules_walk_long0 (A0 : Option Addr) (m0 c0 : Nat) (d0 : List Rl) (A1 : Option Addr) (m1 c1 : Nat) (d1 : List Rl) (W : World) (r0 : RsRd W W.heap.size A0 m0 d0) (b0 : (∀ d ∈ d0, RlB d) ∧ m0 ≤ 9223372036854775807) (r1 : RsRd W W.heap.size A1 m1 d1) (b1 : (∀ d ∈ d1, RlB d) ∧ m1 ≤ 9223372036854775807) (y0 : 1048576 < szD d0) :
    Calls Try.prog 7 #[.slice A0 m0 c0, .slice A1 m1 c1] W fun e w' => e = .returned (.bool true) ∧ Below W.heap.size W w' := by
  have hB : Below W.heap.size W W := Below.refl _ _
  go_enter Try.func7, Try.ntmps7
  go_wp2_with fail
  refine (szRs_no _ _ _ d0 _ _ ((r0.below hB).more hB.size) ⟨by omega, by omega⟩ b0 (by omega)).mono ?_
  rintro e w1 ⟨rfl, hb⟩
  have S1 := Lib.hid hb.size
  replace hB := below_step hB hb
  clear hb
  go_wp2_with fail
  go_ret
  exact ⟨rfl, hB⟩
set_option maxHeartbeats 400000 in
theorem lawSameRules_walk_long1 (A0 : Option Addr) (m0 c0 : Nat) (d0 : List Rl) (A1 : Option Addr) (m1 c1 : Nat) (d1 : List Rl) (W : World) (r0 : RsRd W W.heap.size A0 m0 d0) (b0 : (∀ d ∈ d0, RlB d) ∧ m0 ≤ 9223372036854775807) (r1 : RsRd W W.heap.size A1 m1 d1) (b1 : (∀ d ∈ d1, RlB d) ∧ m1 ≤ 9223372036854775807) (y0 : szD d0 ≤ 1048576) (y1 : 1048576 < szD d0 + szD d1) :
    Calls Try.prog 7 #[.slice A0 m0 c0, .slice A1 m1 c1] W fun e w' => e = .returned (.bool true) ∧ Below W.heap.size W w' := by
  have hB : Below W.heap.size W W := Below.refl _ _
  go_enter Try.func7, Try.ntmps7
  go_wp2_with fail
  refine (szRs_yes _ _ _ d0 _ _ ((r0.below hB).more hB.size) ⟨by omega, by omega⟩ b0 (by omega)).mono ?_
  rintro e w1 ⟨l0, rfl, el0, hl0, hb⟩
  have El0 := Lib.hid el0; clear el0
  have S1 := Lib.hid hb.size
  replace hB := below_step hB hb
  clear hb
  go_wp2_with fail
  refine (szRs_no _ _ _ d1 _ _ ((r1.below hB).more hB.size) hl0 b1 (by have := El0.out; omega)).mono ?_
  rintro e w2 ⟨rfl, hb⟩
  have S2 := Lib.hid hb.size
  replace hB := below_step hB hb
  clear hb
  go_wp2_with fail
  go_ret
  exact ⟨rfl, hB⟩
set_option maxRecDepth 100000 in
set_option maxHeartbeats 3200000 in
theorem lawSameRules_walk_short (A0 : Option Addr) (m0 c0 : Nat) (d0 : List Rl) (A1 : Option Addr) (m1 c1 : Nat) (d1 : List Rl) (W : World) (r0 : RsRd W W.heap.size A0 m0 d0) (b0 : (∀ d ∈ d0, RlB d) ∧ m0 ≤ 9223372036854775807) (r1 : RsRd W W.heap.size A1 m1 d1) (b1 : (∀ d ∈ d1, RlB d) ∧ m1 ≤ 9223372036854775807) (y0 : szD d0 ≤ 1048576) (y1 : szD d0 + szD d1 ≤ 1048576) :
    Calls Try.prog 7 #[.slice A0 m0 c0, .slice A1 m1 c1] W fun e w' => e = .returned (.bool true) ∧ Below W.heap.size W w' := by
  have hB : Below W.heap.size W W := Below.refl _ _
  have s0 : szD d0 ≤ 1048576 := by omega
  have s1 : szD d1 ≤ 1048576 := by omega
  go_enter Try.func7, Try.ntmps7
  go_wp2_with fail
  refine (szRs_yes _ _ _ d0 _ _ ((r0.below hB).more hB.size) ⟨by omega, by omega⟩ b0 (by omega)).mono ?_
  rintro e w1 ⟨l0, rfl, el0, hl0, hb⟩
  have El0 := Lib.hid el0; clear el0
  have S1 := Lib.hid hb.size
  replace hB := below_step hB hb
  clear hb
  go_wp2_with fail
  refine (szRs_yes _ _ _ d1 _ _ ((r1.below hB).more hB.size) hl0 b1 (by have := El0.out; omega)).mono ?_
  rintro e w2 ⟨l1, rfl, el1, hl1, hb⟩
  have El1 := Lib.hid el1; clear el1
  have S2 := Lib.hid hb.size
  replace hB := below_step hB hb
  clear hb
  go_wp2_with fail
  refine (toRs_any _ _ _ d0 _ ((r0.below hB).more hB.size) s0).mono ?_
  rintro e w3 ⟨Q1, q1, rfl, o1, hb⟩
  have S3 := Lib.hid hb.size
  replace hB := below_step hB hb
  clear hb
  go_wp2_with fail
  refine (toRs_any _ _ _ d1 _ ((r1.below hB).more hB.size) s1).mono ?_
  rintro e w4 ⟨Q2, q2, rfl, o2, hb⟩
  replace o1 := o1.on hb
  have S4 := Lib.hid hb.size
  replace hB := below_step hB hb
  clear hb
  go_wp2_with fail
  refine (spec_SameRules _ _ _ d0 _ _ _ d1 _ o1.rd s0 b0.1 o2.rd s1 b1.1).mono ?_
  rintro e w5 ⟨rfl, hb⟩
  clear o1
  clear o2
  have S5 := Lib.hid hb.size
  replace hB := below_step hB hb
  clear hb
  go_wp2_with fail
  refine (toRs_any _ _ _ d0 _ ((r0.below hB).more hB.size) s0).mono ?_
  rintro e w6 ⟨Q3, q3, rfl, o3, hb⟩
  have S6 := Lib.hid hb.size
  replace hB := below_step hB hb
  clear hb
  go_wp2_with fail
  refine (toRs_any _ _ _ d1 _ ((r1.below hB).more hB.size) s1).mono ?_
  rintro e w7 ⟨Q4, q4, rfl, o4, hb⟩
  replace o3 := o3.on hb
  have S7 := Lib.hid hb.size
  replace hB := below_step hB hb
  clear hb
  go_wp2_with fail
  refine (impl_SameRules _ _ _ d0 _ _ _ d1 _ o3.rd s0 b0.1 o4.rd s1 b1.1).mono ?_
  rintro e w8 ⟨rfl, hb⟩
  replace o3 := o3.on hb
  replace o4 := o4.on hb
  have S8 := Lib.hid hb.size
  replace hB := below_step hB hb
  clear hb
  go_wp2_with fail
  refine (toRs_any _ _ _ d0 _ ((r0.below hB).more hB.size) s0).mono ?_
  rintro e w9 ⟨Q5, q5, rfl, o5, hb⟩
  replace o3 := o3.on hb
  replace o4 := o4.on hb
  have S9 := Lib.hid hb.size
  replace hB := below_step hB hb
  clear hb
  go_wp2_with fail
  refine (eqRs_yes _ _ _ _ _ d0 _ o3.rd o5.rd (by have := s0; omega)).mono ?_
  rintro e w10 ⟨rfl, hb⟩
  clear o5
  replace o3 := o3.on hb
  replace o4 := o4.on hb
  have S10 := Lib.hid hb.size
  replace hB := below_step hB hb
  clear hb
  go_wp2_with fail
  refine (toRs_any _ _ _ d1 _ ((r1.below hB).more hB.size) s1).mono ?_
  rintro e w11 ⟨Q6, q6, rfl, o6, hb⟩
  replace o3 := o3.on hb
  replace o4 := o4.on hb
  have S11 := Lib.hid hb.size
  replace hB := below_step hB hb
  clear hb
  go_wp2_with fail
  refine (eqRs_yes _ _ _ _ _ d1 _ o4.rd o6.rd (by have := s1; omega)).mono ?_
  rintro e w12 ⟨rfl, hb⟩
  clear o6
  replace o3 := o3.on hb
  replace o4 := o4.on hb
  have S12 := Lib.hid hb.size
  replace hB := below_step hB hb
  clear hb
  go_wp2_with fail
  go_ret
  exact ⟨rfl, hB⟩
theorem lawSameRules_walk (A0 : Option Addr) (m0 c0 : Nat) (d0 : List Rl) (A1 : Option Addr) (m1 c1 : Nat) (d1 : List Rl) (W : World) (r0 : RsRd W W.heap.size A0 m0 d0) (b0 : (∀ d ∈ d0, RlB d) ∧ m0 ≤ 9223372036854775807) (r1 : RsRd W W.heap.size A1 m1 d1) (b1 : (∀ d ∈ d1, RlB d) ∧ m1 ≤ 9223372036854775807) :
    Calls Try.prog 7 #[.slice A0 m0 c0, .slice A1 m1 c1] W fun e w' => e = .returned (.bool true) ∧ Below W.heap.size W w' := by
  by_cases y0 : szD d0 ≤ 1048576
  case neg => exact lawSameRules_walk_long0 A0 m0 c0 d0 A1 m1 c1 d1 W r0 b0 r1 b1  (by omega)
  by_cases y1 : szD d0 + szD d1 ≤ 1048576
  case neg => exact lawSameRules_walk_long1 A0 m0 c0 d0 A1 m1 c1 d1 W r0 b0 r1 b1 y0 (by omega)
  exact lawSameRules_walk_short A0 m0 c0 d0 A1 m1 c1 d1 W r0 b0 r1 b1 y0 y1
set_option maxRecDepth 100000 in
theorem lawSameRules_lifted (os : Os) (started : os.Started) (H : Type) (enc : TypeId × Value → H) :
    ReturnsInHanded {} Try.checked os 7 .any (Rows.fnExactSameRulesSpec.pre6 enc Try.prog Try.f7 Rows.fnExactSameRulesRow.domain false) (Rows.fnExactSameRulesSpec.post enc Try.prog Try.f7 false true false false) := by
  refine returnsInHanded_of_change (C := Try.checked) own_knob started (by kernel_rfl) Try.func7
    (ChangeSpec.witness6 (enc := enc) (C := Try.checked) false ⟨#[], #[.slice none 0 0, .slice none 0 0], []⟩ 8 (by kernel_rfl) (by kernel_rfl) (by kernel_rfl) (by kernel_rfl)) ?_
  intro W base args ds gs before hval0 hW hcnd _
  have hval : ∀ (j : Nat) t v, Try.f7.params[j]? = some t → args[j]? = some v → Value.okWide Try.prog W .any base t v := hval0
  have hW' := hW
  obtain ⟨p, q, hA0, hV, rfl, hfz, hnd⟩ := hW
  have hA : DataW.TrodAll enc Try.prog W 0 (fun _ => true) true Try.f7.params.toList args.toList ds p := hA0
  rw [Try.params7] at hA hval
  obtain ⟨v0, vs0, d0, ds0, p0, q0, hargs, rfl, rfl, h0, u0⟩ := trodAll_cons hA
  obtain ⟨v1, vs1, d1, ds1, p1, q1, rfl, rfl, rfl, h1, u1⟩ := trodAll_cons u0
  obtain ⟨rfl, rfl, rfl⟩ := trodAll_nil u1
  obtain rfl : args = #[v0, v1] := by cases args; simp_all
  obtain ⟨A0, m0, c0, rs0, hrs0⟩ := open_rd_rules Try.underlying43 Try.underlying62 (by kernel_rfl) rfl rfl rfl rfl rfl (by kernel_rfl) (by kernel_rfl) (by kernel_rfl) (by kernel_rfl) (by kernel_rfl) Try.underlying2 Try.underlying51 Try.underlying2 Try.underlying2 Try.underlying2 Try.underlying2 (by kernel_rfl) (hval 0 43 v0 rfl rfl) h0
  obtain ⟨rfl, r0, b0⟩ := open_rs (enc := enc) hrs0
  obtain ⟨A1, m1, c1, rs1, hrs1⟩ := open_rd_rules Try.underlying43 Try.underlying62 (by kernel_rfl) rfl rfl rfl rfl rfl (by kernel_rfl) (by kernel_rfl) (by kernel_rfl) (by kernel_rfl) (by kernel_rfl) Try.underlying2 Try.underlying51 Try.underlying2 Try.underlying2 Try.underlying2 Try.underlying2 (by kernel_rfl) (hval 1 43 v1 rfl rfl) h1
  obtain ⟨rfl, r1, b1⟩ := open_rs (enc := enc) hrs1
  clear hA0 hval0
  refine (lawSameRules_walk A0 m0 c0 (rs0.map Ru.dat) A1 m1 c1 (rs1.map Ru.dat) W r0 b0 r1 b1).mono fun e W' ⟨he, hb⟩ => ?_
  subst he
  exact ⟨_, rfl, post_true 4 Try.underlying4 (by kernel_rfl) laid_out (by kernel_rfl) rfl rfl hW' hb⟩
theorem lawSameRules_over : Rows.fnExactSameRulesRow.holds Try.pinned (OpenSpec.ofChange Rows.fnExactSameRulesSpec) :=
  OpenClaim.holds_of_wide 7 Try.f7 rfl rfl rfl rfl rfl rfl rfl ⟨rfl, rfl, rfl, rfl, rfl⟩ rfl rfl rfl rfl rfl (by kernel_rfl) Try.func7 (by kernel_rfl)
    (of_decide_eq_true (by kernel_rfl)) (by unfold Func.isWrapper; first | (rw [if_pos (by decide +kernel)]; kernel_rfl) | (rw [if_neg (by decide +kernel)]; exact ⟨rfl, rfl⟩))
    (fun os started H enc _ => lawSameRules_lifted os started H enc)
theorem lawSameRules_proved : Rows.FnExactSameRulesSaid := lawSameRules_over
#print axioms lawSameRules_proved
end Go.Proofs.Ytkdiegplbloccaa
