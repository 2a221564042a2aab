/-
  THE LAW FnExactSurvivorShare: for every input the program's SurvivorShare returns what the reference's returns, and changes no argument. Conditions: none.
-/
import Derived.Test.YtpealngmghcmdaaPens1
import Derived.Test.YtpealngmghcmdaaFrame
namespace Go.Proofs.Ytpealngmghcmdaa
open Go.ChangeShapes Go.WideShapes Go.ChangeAt Go.RowKit
set_option linter.unusedVariables false
set_option maxHeartbeats 1600000 in
theorem lawSurvivorShare_walk_short (z0 : Int) (z1 : Int) (z2 : Int) (z3 : Int) (z4 : Int) (W : World) (b0 : -9223372036854775808 ≤ z0 ∧ z0 ≤ 9223372036854775807) (b1 : -9223372036854775808 ≤ z1 ∧ z1 ≤ 9223372036854775807) (b2 : -9223372036854775808 ≤ z2 ∧ z2 ≤ 9223372036854775807) (b3 : -9223372036854775808 ≤ z3 ∧ z3 ≤ 9223372036854775807) (b4 : -9223372036854775808 ≤ z4 ∧ z4 ≤ 9223372036854775807) :
    Calls Try.prog 4 #[.int .i64 z0, .int .i64 z1, .int .i64 z2, .int .i64 z3, .int .i64 z4] W fun e w' => e = .returned (.bool true) ∧ Below W.heap.size W w' := by
  have hB : Below W.heap.size W W := Below.refl _ _
  go_enter Try.func4, Try.ntmps4
  have hS := hB.size
  go_wp2_with fail
  refine (spec_SurvivorShare z0 z1 z2 z3 z4 _ b0 b1 b2 b3 b4).mono ?_
  rintro e w1 ⟨rfl, hb⟩
  replace hB := below_step hB hb
  clear hb
  clear hS
  have hS := hB.size
  go_wp2_with fail
  refine (impl_SurvivorShare z0 z1 z2 z3 z4 _ b0 b1 b2 b3 b4).mono ?_
  rintro e w2 ⟨rfl, hb⟩
  replace hB := below_step hB hb
  clear hb
  clear hS
  go_wp2_with fail
  go_ret
  exact ⟨rfl, hB⟩
theorem lawSurvivorShare_walk (z0 : Int) (z1 : Int) (z2 : Int) (z3 : Int) (z4 : Int) (W : World) (b0 : -9223372036854775808 ≤ z0 ∧ z0 ≤ 9223372036854775807) (b1 : -9223372036854775808 ≤ z1 ∧ z1 ≤ 9223372036854775807) (b2 : -9223372036854775808 ≤ z2 ∧ z2 ≤ 9223372036854775807) (b3 : -9223372036854775808 ≤ z3 ∧ z3 ≤ 9223372036854775807) (b4 : -9223372036854775808 ≤ z4 ∧ z4 ≤ 9223372036854775807) :
    Calls Try.prog 4 #[.int .i64 z0, .int .i64 z1, .int .i64 z2, .int .i64 z3, .int .i64 z4] W fun e w' => e = .returned (.bool true) ∧ Below W.heap.size W w' := by
  exact lawSurvivorShare_walk_short z0 z1 z2 z3 z4 W b0 b1 b2 b3 b4 
set_option maxRecDepth 100000 in
theorem lawSurvivorShare_lifted (os : Os) (started : os.Started) (H : Type) (enc : TypeId × Value → H) :
    ReturnsInHanded {} Try.checked os 4 .any (Rows.fnExactSurvivorShareSpec.pre6 enc Try.prog Try.f4 Rows.fnExactSurvivorShareRow.domain false) (Rows.fnExactSurvivorShareSpec.post enc Try.prog Try.f4 false true false false) := by
  refine returnsInHanded_of_change (C := Try.checked) own_knob started (by kernel_rfl) Try.func4
    (ChangeSpec.witness6 (enc := enc) (C := Try.checked) false ⟨#[], #[.int .i64 0, .int .i64 0, .int .i64 0, .int .i64 0, .int .i64 0], []⟩ 8 (by kernel_rfl) (by kernel_rfl) (by kernel_rfl) (by kernel_rfl)) ?_
  intro W base args ds gs before hval0 hW hcnd _
  have hval : ∀ (j : Nat) t v, Try.f4.params[j]? = some t → args[j]? = some v → Value.okWide Try.prog W .any base t v := hval0
  have hW' := hW
  obtain ⟨p, q, hA0, hV, rfl, hfz, hnd⟩ := hW
  have hA : DataW.TrodAll enc Try.prog W 0 (fun _ => true) true Try.f4.params.toList args.toList ds p := hA0
  rw [Try.params4] at hA hval
  obtain ⟨v0, vs0, d0, ds0, p0, q0, hargs, rfl, rfl, h0, u0⟩ := trodAll_cons hA
  obtain ⟨v1, vs1, d1, ds1, p1, q1, rfl, rfl, rfl, h1, u1⟩ := trodAll_cons u0
  obtain ⟨v2, vs2, d2, ds2, p2, q2, rfl, rfl, rfl, h2, u2⟩ := trodAll_cons u1
  obtain ⟨v3, vs3, d3, ds3, p3, q3, rfl, rfl, rfl, h3, u3⟩ := trodAll_cons u2
  obtain ⟨v4, vs4, d4, ds4, p4, q4, rfl, rfl, rfl, h4, u4⟩ := trodAll_cons u3
  obtain ⟨rfl, rfl, rfl⟩ := trodAll_nil u4
  obtain rfl : args = #[v0, v1, v2, v3, v4] := by cases args; simp_all
  obtain ⟨z0, rfl, rfl, rfl, b0'⟩ := open_int Try.underlying2 (hval 0 2 v0 rfl rfl) h0
  have b0 := i64_bounds b0'
  obtain ⟨z1, rfl, rfl, rfl, b1'⟩ := open_int Try.underlying2 (hval 1 2 v1 rfl rfl) h1
  have b1 := i64_bounds b1'
  obtain ⟨z2, rfl, rfl, rfl, b2'⟩ := open_int Try.underlying2 (hval 2 2 v2 rfl rfl) h2
  have b2 := i64_bounds b2'
  obtain ⟨z3, rfl, rfl, rfl, b3'⟩ := open_int Try.underlying2 (hval 3 2 v3 rfl rfl) h3
  have b3 := i64_bounds b3'
  obtain ⟨z4, rfl, rfl, rfl, b4'⟩ := open_int Try.underlying2 (hval 4 2 v4 rfl rfl) h4
  have b4 := i64_bounds b4'
  clear hA0 hval0
  refine (lawSurvivorShare_walk z0 z1 z2 z3 z4 W b0 b1 b2 b3 b4).mono fun e W' ⟨he, hb⟩ => ?_
  subst he
  exact ⟨_, rfl, post_true 4 Try.underlying4 (by kernel_rfl) laid_out (by kernel_rfl) rfl rfl hW' hb⟩
theorem lawSurvivorShare_over : Rows.fnExactSurvivorShareRow.holds Try.pinned (OpenSpec.ofChange Rows.fnExactSurvivorShareSpec) :=
  OpenClaim.holds_of_wide 4 Try.f4 rfl rfl rfl rfl rfl rfl rfl ⟨rfl, rfl, rfl, rfl, rfl⟩ rfl rfl rfl rfl rfl (by kernel_rfl) Try.func4 (by kernel_rfl)
    (of_decide_eq_true (by kernel_rfl)) (by unfold Func.isWrapper; first | (rw [if_pos (by decide +kernel)]; kernel_rfl) | (rw [if_neg (by decide +kernel)]; exact ⟨rfl, rfl⟩))
    (fun os started H enc _ => lawSurvivorShare_lifted os started H enc)
theorem lawSurvivorShare_proved : Rows.FnExactSurvivorShareSaid := lawSurvivorShare_over
#print axioms lawSurvivorShare_proved
end Go.Proofs.Ytpealngmghcmdaa
