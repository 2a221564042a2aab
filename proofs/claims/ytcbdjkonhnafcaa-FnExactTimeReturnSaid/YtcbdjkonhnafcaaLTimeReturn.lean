/-
  THE LAW FnExactTimeReturn: for every input the program's TimeReturn returns what the reference's returns, and changes no argument. Conditions: none.
-/
import Derived.Test.YtcbdjkonhnafcaaTrX
import Derived.Test.YtcbdjkonhnafcaaLawF
namespace Go.Proofs.Ytcbdjkonhnafcaa
open Go.ChangeShapes Go.WideShapes Go.ChangeAt Go.RowKit
set_option linter.unusedVariables false
set_option maxHeartbeats 400000 in
theorem lawTimeReturn_walk_long0 (A0 : Option Addr) (n0 c0 : Nat) (z0 : List Int) (W : World) (r0 : Rd W W.heap.size 1 A0 n0 (ints z0)) (b0 : I64s z0) (m0 : 1048576 < n0) :
    Calls Try.prog 3 #[.slice A0 n0 c0] W fun e w' => e = .returned (.bool true) ∧ Below W.heap.size W w' := by
  go_enter Try.func3, Try.ntmps3
  go_wp2_with fail
  go_ret
  exact ⟨rfl, Below.refl _ _⟩
set_option maxRecDepth 100000 in
set_option maxHeartbeats 3200000 in
theorem lawTimeReturn_walk_short (A0 : Option Addr) (n0 c0 : Nat) (z0 : List Int) (W : World) (r0 : Rd W W.heap.size 1 A0 n0 (ints z0)) (b0 : I64s z0) (m0 : n0 ≤ 1048576) :
    Calls Try.prog 3 #[.slice A0 n0 c0] W fun e w' => e = .returned (.bool true) ∧ Below W.heap.size W w' := by
  have hB : Below W.heap.size W W := Below.refl _ _
  go_enter Try.func3, Try.ntmps3
  have hS := hB.size
  go_wp2_with fail
  refine (toInt64S_any _ _ _ z0 _ ((r0.below hB).more hB.size) m0).mono ?_
  rintro e w1 ⟨g1, rfl, o1, hb⟩
  replace o1 := own_base o1 hS
  replace hB := below_step hB hb
  clear hb
  clear hS
  have hS := hB.size
  go_wp2_with fail
  refine (spec_TimeReturn _ _ _ z0 _ (Rd.of_own o1) m0 b0).mono ?_
  rintro e w2 ⟨rfl, hb⟩
  replace o1 := own_on o1 hb
  replace hB := below_step hB hb
  clear hb
  clear hS
  clear o1
  have hS := hB.size
  go_wp2_with fail
  refine (toInt64S_any _ _ _ z0 _ ((r0.below hB).more hB.size) m0).mono ?_
  rintro e w3 ⟨g2, rfl, o2, hb⟩
  replace o2 := own_base o2 hS
  replace hB := below_step hB hb
  clear hb
  clear hS
  have hS := hB.size
  go_wp2_with fail
  refine (impl_TimeReturn _ _ _ z0 _ (Rd.of_own o2) m0 b0).mono ?_
  rintro e w4 ⟨rfl, hb⟩
  replace o2 := own_on o2 hb
  replace hB := below_step hB hb
  clear hb
  clear hS
  have hcv := conv_ok (TimeReturn_fin z0)
  have hnn := (wide_not_nan (TimeReturn_fin z0)).2
  have HN := Lib.hid hnn
  clear hnn
  go_wp2_with fail
  refine (sameFloat_eq _ _ HN.out).mono ?_
  rintro e w0 ⟨rfl, rfl⟩
  clear hcv HN
  have hS := hB.size
  go_wp2_with fail
  refine (toInt64S_any _ _ _ z0 _ ((r0.below hB).more hB.size) m0).mono ?_
  rintro e w5 ⟨g3, rfl, o3, hb⟩
  replace o3 := own_base o3 hS
  replace o2 := own_on o2 hb
  replace hB := below_step hB hb
  clear hb
  clear hS
  go_wp2_with fail
  refine (eqInt64S_yes _ _ _ _ _ _ _ (Rd.of_own o2) (Rd.of_own o3) (by have := m0; omega)).mono ?_
  rintro e w6 ⟨rfl, hb⟩
  replace o2 := own_on o2 hb
  replace o3 := own_on o3 hb
  replace hB := below_step hB hb
  clear hb
  clear o3
  go_wp2_with fail
  go_ret
  exact ⟨rfl, hB⟩
theorem lawTimeReturn_walk (A0 : Option Addr) (n0 c0 : Nat) (z0 : List Int) (W : World) (r0 : Rd W W.heap.size 1 A0 n0 (ints z0)) (b0 : I64s z0) :
    Calls Try.prog 3 #[.slice A0 n0 c0] W fun e w' => e = .returned (.bool true) ∧ Below W.heap.size W w' := by
  by_cases m0 : n0 ≤ 1048576
  case neg => exact lawTimeReturn_walk_long0 A0 n0 c0 z0 W r0 b0  (by omega)
  exact lawTimeReturn_walk_short A0 n0 c0 z0 W r0 b0 m0
set_option maxRecDepth 100000 in
theorem lawTimeReturn_lifted (os : Os) (started : os.Started) (H : Type) (enc : TypeId × Value → H) :
    ReturnsInHanded {} Try.checked os 3 .any (Rows.fnExactTimeReturnSpec.pre6 enc Try.prog Try.f3 Rows.fnExactTimeReturnRow.domain false) (Rows.fnExactTimeReturnSpec.post enc Try.prog Try.f3 false true false false) := by
  refine returnsInHanded_of_change (C := Try.checked) own_knob started (by kernel_rfl) Try.func3
    (ChangeSpec.witness6 (enc := enc) (C := Try.checked) false ⟨#[], #[.slice none 0 0], []⟩ 8 (by kernel_rfl) (by kernel_rfl) (by kernel_rfl) (by kernel_rfl)) ?_
  intro W base args ds gs before hval0 hW hcnd _
  have hval : ∀ (j : Nat) t v, Try.f3.params[j]? = some t → args[j]? = some v → Value.okWide Try.prog W .any base t v := hval0
  have hW' := hW
  obtain ⟨p, q, hA0, hV, rfl, hfz, hnd⟩ := hW
  have hA : DataW.TrodAll enc Try.prog W 0 (fun _ => true) true Try.f3.params.toList args.toList ds p := hA0
  rw [Try.params3] at hA hval
  obtain ⟨v0, vs0, d0, ds0, p0, q0, hargs, rfl, rfl, h0, u0⟩ := trodAll_cons hA
  obtain ⟨rfl, rfl, rfl⟩ := trodAll_nil u0
  obtain rfl : args = #[v0] := by cases args; simp_all
  obtain ⟨A0, n0, c0, z0, rfl, r0, b0⟩ := open_rd_ints Try.underlying22 Try.underlying2 cells_i64 (hval 0 22 v0 rfl rfl) h0
  clear hA0 hval0
  refine (lawTimeReturn_walk A0 n0 c0 z0 W r0 b0).mono fun e W' ⟨he, hb⟩ => ?_
  subst he
  exact ⟨_, rfl, post_true 4 Try.underlying4 (by kernel_rfl) laid_out (by kernel_rfl) rfl rfl hW' hb⟩
theorem lawTimeReturn_over : Rows.fnExactTimeReturnRow.holds Try.pinned (OpenSpec.ofChange Rows.fnExactTimeReturnSpec) :=
  OpenClaim.holds_of_wide 3 Try.f3 rfl rfl rfl rfl rfl rfl rfl ⟨rfl, rfl, rfl, rfl, rfl⟩ rfl rfl rfl rfl rfl (by kernel_rfl) Try.func3 (by kernel_rfl)
    (of_decide_eq_true (by kernel_rfl)) (by unfold Func.isWrapper; first | (rw [if_pos (by decide +kernel)]; kernel_rfl) | (rw [if_neg (by decide +kernel)]; exact ⟨rfl, rfl⟩))
    (fun os started H enc _ => lawTimeReturn_lifted os started H enc)
theorem lawTimeReturn_proved : Rows.FnExactTimeReturnSaid := lawTimeReturn_over
#print axioms lawTimeReturn_proved
end Go.Proofs.Ytcbdjkonhnafcaa
