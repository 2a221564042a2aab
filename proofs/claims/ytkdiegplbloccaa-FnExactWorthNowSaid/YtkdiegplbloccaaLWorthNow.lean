/-
  THE LAW FnExactWorthNow: for every input the program's WorthNow returns what the reference's returns, and changes no argument. Conditions: none.
-/
import Derived.Test.YtkdiegplbloccaaFundR
import Derived.Test.YtkdiegplbloccaaFrame
import Derived.Test.YtkdiegplbloccaaLawI
import Derived.Test.YtkdiegplbloccaaLawF
namespace Go.Proofs.Ytkdiegplbloccaa
open Go.ChangeShapes Go.WideShapes Go.ChangeAt Go.RowKit
set_option linter.unusedVariables false
set_option maxHeartbeats 400000 in
theorem lawWorthNow_walk_long0 (A0 : Option Addr) (n0 c0 : Nat) (z0 : List Nat) (A1 : Option Addr) (n1 c1 : Nat) (z1 : List Nat) (W : World) (r0 : Rd W W.heap.size 1 A0 n0 (flts z0)) (b0 : F32s z0) (r1 : Rd W W.heap.size 1 A1 n1 (flts z1)) (b1 : F32s z1) (m0 : 1048576 < n0) :
    Calls Try.prog 6 #[.slice A0 n0 c0, .slice A1 n1 c1] W fun e w' => e = .returned (.bool true) ∧ Below W.heap.size W w' := by
  go_enter Try.func6, Try.ntmps6
  go_wp2_with fail
  go_ret
  exact ⟨rfl, Below.refl _ _⟩
set_option maxHeartbeats 400000 in
theorem lawWorthNow_walk_long1 (A0 : Option Addr) (n0 c0 : Nat) (z0 : List Nat) (A1 : Option Addr) (n1 c1 : Nat) (z1 : List Nat) (W : World) (r0 : Rd W W.heap.size 1 A0 n0 (flts z0)) (b0 : F32s z0) (r1 : Rd W W.heap.size 1 A1 n1 (flts z1)) (b1 : F32s z1) (m0 : n0 ≤ 1048576) (m1 : 1048576 < n1) :
    Calls Try.prog 6 #[.slice A0 n0 c0, .slice A1 n1 c1] W fun e w' => e = .returned (.bool true) ∧ Below W.heap.size W w' := by
  go_enter Try.func6, Try.ntmps6
  go_wp2_with fail
  go_ret
  exact ⟨rfl, Below.refl _ _⟩
set_option maxRecDepth 100000 in
set_option maxHeartbeats 3200000 in
theorem lawWorthNow_walk_short (A0 : Option Addr) (n0 c0 : Nat) (z0 : List Nat) (A1 : Option Addr) (n1 c1 : Nat) (z1 : List Nat) (W : World) (r0 : Rd W W.heap.size 1 A0 n0 (flts z0)) (b0 : F32s z0) (r1 : Rd W W.heap.size 1 A1 n1 (flts z1)) (b1 : F32s z1) (m0 : n0 ≤ 1048576) (m1 : n1 ≤ 1048576) :
    Calls Try.prog 6 #[.slice A0 n0 c0, .slice A1 n1 c1] W fun e w' => e = .returned (.bool true) ∧ Below W.heap.size W w' := by
  have hB : Below W.heap.size W W := Below.refl _ _
  go_enter Try.func6, Try.ntmps6
  have hS := hB.size
  go_wp2_with fail
  refine (toFloat32S_any _ _ _ z0 _ ((r0.below hB).more hB.size) m0).mono ?_
  rintro e w1 ⟨g1, rfl, o1, hb⟩
  replace o1 := own_base o1 hS
  replace hB := below_step hB hb
  clear hb
  clear hS
  have hS := hB.size
  go_wp2_with fail
  refine (toFloat32S_any _ _ _ z1 _ ((r1.below hB).more hB.size) m1).mono ?_
  rintro e w2 ⟨g2, rfl, o2, hb⟩
  replace o2 := own_base o2 hS
  replace o1 := own_on o1 hb
  replace hB := below_step hB hb
  clear hb
  clear hS
  have hS := hB.size
  go_wp2_with fail
  refine (spec_WorthNow _ _ _ z0 _ _ _ z1 _ (Rd.of_own o1) m0 b0 (Rd.of_own o2) m1 b1).mono ?_
  rintro e w3 ⟨rfl, hb⟩
  replace o1 := own_on o1 hb
  replace o2 := own_on o2 hb
  replace hB := below_step hB hb
  clear hb
  clear hS
  clear o1
  clear o2
  have hS := hB.size
  go_wp2_with fail
  refine (toFloat32S_any _ _ _ z0 _ ((r0.below hB).more hB.size) m0).mono ?_
  rintro e w4 ⟨g3, rfl, o3, hb⟩
  replace o3 := own_base o3 hS
  replace hB := below_step hB hb
  clear hb
  clear hS
  have hS := hB.size
  go_wp2_with fail
  refine (toFloat32S_any _ _ _ z1 _ ((r1.below hB).more hB.size) m1).mono ?_
  rintro e w5 ⟨g4, rfl, o4, hb⟩
  have ap_o4_o3 := own_apart o3 o4; replace o4 := own_base o4 hS
  replace o3 := own_on o3 hb
  replace hB := below_step hB hb
  clear hb
  clear hS
  have hS := hB.size
  go_wp2_with fail
  refine (impl_WorthNow _ _ _ z0 _ _ _ z1 _ (Rd.of_own o3) m0 b0 (Rd.of_own o4) m1 b1).mono ?_
  rintro e w6 ⟨rfl, hb⟩
  replace o3 := own_on o3 hb
  replace o4 := own_on o4 hb
  replace hB := below_step hB hb
  clear hb
  clear hS
  have hcv := conv_ok (WorthNow_fin z0 z1)
  have hnn := (wide_not_nan (WorthNow_fin z0 z1)).2
  have HN := Lib.hid hnn
  clear hnn
  go_wp2_with fail
  refine (sameFloat_eq _ _ HN.out).mono ?_
  rintro e w0 ⟨rfl, rfl⟩
  clear hcv HN
  have hS := hB.size
  go_wp2_with fail
  refine (toFloat32S_any _ _ _ z0 _ ((r0.below hB).more hB.size) m0).mono ?_
  rintro e w7 ⟨g5, rfl, o5, hb⟩
  replace o5 := own_base o5 hS
  replace o3 := own_on o3 hb
  replace o4 := own_on o4 hb
  replace hB := below_step hB hb
  clear hb
  clear hS
  go_wp2_with fail
  refine (eqFloat32S_yes _ _ _ _ _ _ _ (Rd.of_own o3) (Rd.of_own o5) (by have := m0; omega)).mono ?_
  rintro e w8 ⟨rfl, hb⟩
  replace o3 := own_on o3 hb
  replace o4 := own_on o4 hb
  replace o5 := own_on o5 hb
  replace hB := below_step hB hb
  clear hb
  clear o5
  have hS := hB.size
  go_wp2_with fail
  refine (toFloat32S_any _ _ _ z1 _ ((r1.below hB).more hB.size) m1).mono ?_
  rintro e w9 ⟨g6, rfl, o6, hb⟩
  replace o6 := own_base o6 hS
  replace o3 := own_on o3 hb
  replace o4 := own_on o4 hb
  replace hB := below_step hB hb
  clear hb
  clear hS
  go_wp2_with fail
  refine (eqFloat32S_yes _ _ _ _ _ _ _ (Rd.of_own o4) (Rd.of_own o6) (by have := m1; omega)).mono ?_
  rintro e w10 ⟨rfl, hb⟩
  replace o3 := own_on o3 hb
  replace o4 := own_on o4 hb
  replace o6 := own_on o6 hb
  replace hB := below_step hB hb
  clear hb
  clear o6
  go_wp2_with fail
  go_ret
  exact ⟨rfl, hB⟩
theorem lawWorthNow_walk (A0 : Option Addr) (n0 c0 : Nat) (z0 : List Nat) (A1 : Option Addr) (n1 c1 : Nat) (z1 : List Nat) (W : World) (r0 : Rd W W.heap.size 1 A0 n0 (flts z0)) (b0 : F32s z0) (r1 : Rd W W.heap.size 1 A1 n1 (flts z1)) (b1 : F32s z1) :
    Calls Try.prog 6 #[.slice A0 n0 c0, .slice A1 n1 c1] W fun e w' => e = .returned (.bool true) ∧ Below W.heap.size W w' := by
  by_cases m0 : n0 ≤ 1048576
  case neg => exact lawWorthNow_walk_long0 A0 n0 c0 z0 A1 n1 c1 z1 W r0 b0 r1 b1  (by omega)
  by_cases m1 : n1 ≤ 1048576
  case neg => exact lawWorthNow_walk_long1 A0 n0 c0 z0 A1 n1 c1 z1 W r0 b0 r1 b1 m0 (by omega)
  exact lawWorthNow_walk_short A0 n0 c0 z0 A1 n1 c1 z1 W r0 b0 r1 b1 m0 m1
set_option maxRecDepth 100000 in
theorem lawWorthNow_lifted (os : Os) (started : os.Started) (H : Type) (enc : TypeId × Value → H) :
    ReturnsInHanded {} Try.checked os 6 .any (Rows.fnExactWorthNowSpec.pre6 enc Try.prog Try.f6 Rows.fnExactWorthNowRow.domain false) (Rows.fnExactWorthNowSpec.post enc Try.prog Try.f6 false true false false) := by
  refine returnsInHanded_of_change (C := Try.checked) own_knob started (by kernel_rfl) Try.func6
    (ChangeSpec.witness6 (enc := enc) (C := Try.checked) false ⟨#[], #[.slice none 0 0, .slice none 0 0], []⟩ 8 (by kernel_rfl) (by kernel_rfl) (by kernel_rfl) (by kernel_rfl)) ?_
  intro W base args ds gs before hval0 hW hcnd _
  have hval : ∀ (j : Nat) t v, Try.f6.params[j]? = some t → args[j]? = some v → Value.okWide Try.prog W .any base t v := hval0
  have hW' := hW
  obtain ⟨p, q, hA0, hV, rfl, hfz, hnd⟩ := hW
  have hA : DataW.TrodAll enc Try.prog W 0 (fun _ => true) true Try.f6.params.toList args.toList ds p := hA0
  rw [Try.params6] at hA hval
  obtain ⟨v0, vs0, d0, ds0, p0, q0, hargs, rfl, rfl, h0, u0⟩ := trodAll_cons hA
  obtain ⟨v1, vs1, d1, ds1, p1, q1, rfl, rfl, rfl, h1, u1⟩ := trodAll_cons u0
  obtain ⟨rfl, rfl, rfl⟩ := trodAll_nil u1
  obtain rfl : args = #[v0, v1] := by cases args; simp_all
  obtain ⟨A0, n0, c0, z0, rfl, r0, b0⟩ := open_rd_flts Try.underlying22 Try.underlying32 cells_f32 (hval 0 22 v0 rfl rfl) h0
  obtain ⟨A1, n1, c1, z1, rfl, r1, b1⟩ := open_rd_flts Try.underlying22 Try.underlying32 cells_f32 (hval 1 22 v1 rfl rfl) h1
  clear hA0 hval0
  refine (lawWorthNow_walk A0 n0 c0 z0 A1 n1 c1 z1 W r0 b0 r1 b1).mono fun e W' ⟨he, hb⟩ => ?_
  subst he
  exact ⟨_, rfl, post_true 4 Try.underlying4 (by kernel_rfl) laid_out (by kernel_rfl) rfl rfl hW' hb⟩
theorem lawWorthNow_over : Rows.fnExactWorthNowRow.holds Try.pinned (OpenSpec.ofChange Rows.fnExactWorthNowSpec) :=
  OpenClaim.holds_of_wide 6 Try.f6 rfl rfl rfl rfl rfl rfl rfl ⟨rfl, rfl, rfl, rfl, rfl⟩ rfl rfl rfl rfl rfl (by kernel_rfl) Try.func6 (by kernel_rfl)
    (of_decide_eq_true (by kernel_rfl)) (by unfold Func.isWrapper; first | (rw [if_pos (by decide +kernel)]; kernel_rfl) | (rw [if_neg (by decide +kernel)]; exact ⟨rfl, rfl⟩))
    (fun os started H enc _ => lawWorthNow_lifted os started H enc)
theorem lawWorthNow_proved : Rows.FnExactWorthNowSaid := lawWorthNow_over
#print axioms lawWorthNow_proved
end Go.Proofs.Ytkdiegplbloccaa
