/-
  THE LAW FnExactBestYears: for every input the program's BestYears returns what the reference's returns, and changes no argument. Conditions: none.
-/
import Derived.Test.YtfcgknnnopgjfaaBestY
import Derived.Test.YtfcgknnnopgjfaaFrame
import Derived.Test.YtfcgknnnopgjfaaLawI
import Derived.Test.YtfcgknnnopgjfaaLeav
namespace Go.Proofs.Ytfcgknnnopgjfaa
open Go.ChangeShapes Go.WideShapes Go.ChangeAt Go.RowKit
set_option linter.unusedVariables false
set_option maxHeartbeats 400000 in
theorem lawBestYears_walk_long0 (A0 : Option Addr) (n0 c0 : Nat) (z0 : List Int) (z1 : Int) (W : World) (r0 : Rd W W.heap.size 1 A0 n0 (ints z0)) (b0 : I64s z0) (b1 : -9223372036854775808 ≤ z1 ∧ z1 ≤ 9223372036854775807) (m0 : 1048576 < n0) :
    Calls Try.prog 3 #[.slice A0 n0 c0, .int .i64 z1] W fun e w' => e = .returned (.bool true) ∧ Below W.heap.size W w' := by
  go_enter Try.func3, Try.ntmps3
  go_wp2_with fail
  go_ret
  exact ⟨rfl, Below.refl _ _⟩
set_option maxRecDepth 100000 in
set_option maxHeartbeats 3200000 in
theorem lawBestYears_walk_short (A0 : Option Addr) (n0 c0 : Nat) (z0 : List Int) (z1 : Int) (W : World) (r0 : Rd W W.heap.size 1 A0 n0 (ints z0)) (b0 : I64s z0) (b1 : -9223372036854775808 ≤ z1 ∧ z1 ≤ 9223372036854775807) (m0 : n0 ≤ 1048576) :
    Calls Try.prog 3 #[.slice A0 n0 c0, .int .i64 z1] W fun e w' => e = .returned (.bool true) ∧ Below W.heap.size W w' := by
  have hB : Below W.heap.size W W := Below.refl _ _
  go_enter Try.func3, Try.ntmps3
  have hS := hB.size
  go_wp2_with fail
  refine (toInt64S_any _ _ _ z0 _ ((r0.below hB).more hB.size) m0).mono ?_
  rintro e w1 ⟨g1, rfl, o1, hb⟩
  replace o1 := own_base o1 hS
  replace hB := below_step hB hb
  clear hb
  clear hS
  have hS := hB.size
  go_wp2_with fail
  refine (spec_BestYears _ _ z0 z1 _ (Rd.of_own o1) m0 b0 b1).mono ?_
  rintro e w2 ⟨rfl, hb⟩
  replace o1 := own_on o1 hb
  replace hB := below_step hB hb
  clear hb
  clear hS
  clear o1
  have hS := hB.size
  go_wp2_with fail
  refine (toInt64S_any _ _ _ z0 _ ((r0.below hB).more hB.size) m0).mono ?_
  rintro e w3 ⟨g2, rfl, o2, hb⟩
  replace o2 := own_base o2 hS
  replace hB := below_step hB hb
  clear hb
  clear hS
  have hS := hB.size
  go_wp2_with fail
  refine (impl_BestYears _ _ z0 z1 _ (Rd.of_own o2) m0 b0 b1).mono ?_
  rintro e w4 ⟨rfl, hb⟩
  replace o2 := own_on o2 hb
  replace hB := below_step hB hb
  clear hb
  clear hS
  have hS := hB.size
  go_wp2_with fail
  refine (toInt64S_any _ _ _ z0 _ ((r0.below hB).more hB.size) m0).mono ?_
  rintro e w5 ⟨g3, rfl, o3, hb⟩
  replace o3 := own_base o3 hS
  replace o2 := own_on o2 hb
  replace hB := below_step hB hb
  clear hb
  clear hS
  go_wp2_with fail
  refine (eqInt64S_yes _ _ _ _ _ _ _ (Rd.of_own o2) (Rd.of_own o3) (by have := m0; omega)).mono ?_
  rintro e w6 ⟨rfl, hb⟩
  replace o2 := own_on o2 hb
  replace o3 := own_on o3 hb
  replace hB := below_step hB hb
  clear hb
  clear o3
  go_wp2_with fail
  go_ret
  exact ⟨rfl, hB⟩
theorem lawBestYears_walk (A0 : Option Addr) (n0 c0 : Nat) (z0 : List Int) (z1 : Int) (W : World) (r0 : Rd W W.heap.size 1 A0 n0 (ints z0)) (b0 : I64s z0) (b1 : -9223372036854775808 ≤ z1 ∧ z1 ≤ 9223372036854775807) :
    Calls Try.prog 3 #[.slice A0 n0 c0, .int .i64 z1] W fun e w' => e = .returned (.bool true) ∧ Below W.heap.size W w' := by
  by_cases m0 : n0 ≤ 1048576
  case neg => exact lawBestYears_walk_long0 A0 n0 c0 z0 z1 W r0 b0 b1  (by omega)
  exact lawBestYears_walk_short A0 n0 c0 z0 z1 W r0 b0 b1 m0
set_option maxRecDepth 100000 in
theorem lawBestYears_lifted (os : Os) (started : os.Started) (H : Type) (enc : TypeId × Value → H) :
    ReturnsInHanded {} Try.checked os 3 .any (Rows.fnExactBestYearsSpec.pre6 enc Try.prog Try.f3 Rows.fnExactBestYearsRow.domain false) (Rows.fnExactBestYearsSpec.post enc Try.prog Try.f3 false true false false) := by
  refine returnsInHanded_of_change (C := Try.checked) own_knob started (by kernel_rfl) Try.func3
    (ChangeSpec.witness6 (enc := enc) (C := Try.checked) false ⟨#[], #[.slice none 0 0, .int .i64 0], []⟩ 8 (by kernel_rfl) (by kernel_rfl) (by kernel_rfl) (by kernel_rfl)) ?_
  intro W base args ds gs before hval0 hW hcnd _
  have hval : ∀ (j : Nat) t v, Try.f3.params[j]? = some t → args[j]? = some v → Value.okWide Try.prog W .any base t v := hval0
  have hW' := hW
  obtain ⟨p, q, hA0, hV, rfl, hfz, hnd⟩ := hW
  have hA : DataW.TrodAll enc Try.prog W 0 (fun _ => true) true Try.f3.params.toList args.toList ds p := hA0
  rw [Try.params3] at hA hval
  obtain ⟨v0, vs0, d0, ds0, p0, q0, hargs, rfl, rfl, h0, u0⟩ := trodAll_cons hA
  obtain ⟨v1, vs1, d1, ds1, p1, q1, rfl, rfl, rfl, h1, u1⟩ := trodAll_cons u0
  obtain ⟨rfl, rfl, rfl⟩ := trodAll_nil u1
  obtain rfl : args = #[v0, v1] := by cases args; simp_all
  obtain ⟨A0, n0, c0, z0, rfl, r0, b0⟩ := open_rd_ints Try.underlying22 Try.underlying2 cells_i64 (hval 0 22 v0 rfl rfl) h0
  obtain ⟨z1, rfl, rfl, rfl, b1'⟩ := open_int Try.underlying2 (hval 1 2 v1 rfl rfl) h1
  have b1 := i64_bounds b1'
  clear hA0 hval0
  refine (lawBestYears_walk A0 n0 c0 z0 z1 W r0 b0 b1).mono fun e W' ⟨he, hb⟩ => ?_
  subst he
  exact ⟨_, rfl, post_true 4 Try.underlying4 (by kernel_rfl) laid_out (by kernel_rfl) rfl rfl hW' hb⟩
theorem lawBestYears_over : Rows.fnExactBestYearsRow.holds Try.pinned (OpenSpec.ofChange Rows.fnExactBestYearsSpec) :=
  OpenClaim.holds_of_wide_leaving 3 Try.f3 rfl rfl rfl rfl rfl rfl rfl ⟨rfl, rfl, rfl, rfl, rfl⟩ rfl rfl rfl rfl rfl (by kernel_rfl) Try.func3 (by kernel_rfl)
    (of_decide_eq_true (by kernel_rfl)) (by unfold Func.isWrapper; first | (rw [if_pos (by decide +kernel)]; kernel_rfl) | (rw [if_neg (by decide +kernel)]; exact ⟨rfl, rfl⟩))
    (fun os started H enc _ => leaving_of_handed (lawBestYears_lifted os started H enc))
theorem lawBestYears_proved : Rows.FnExactBestYearsSaid := lawBestYears_over
#print axioms lawBestYears_proved
end Go.Proofs.Ytfcgknnnopgjfaa
