/-
  THE LAW FnExactAnnuityPay: for every input the program's AnnuityPay returns what the reference's returns, and changes no argument. Conditions: none.
-/
import Derived.Test.YtefoebaoejoamaaAnnPayW
import Derived.Test.YtefoebaoejoamaaLawF
namespace Go.Proofs.Ytefoebaoejoamaa
open Go.ChangeShapes Go.WideShapes Go.ChangeAt Go.RowKit
set_option linter.unusedVariables false
set_option maxHeartbeats 400000 in
theorem lawAnnuityPay_walk_long1 (z0 : Int) (A1 : Option Addr) (n1 c1 : Nat) (z1 : List Nat) (z2 : Nat) (W : World) (b0 : -9223372036854775808 ≤ z0 ∧ z0 ≤ 9223372036854775807) (r1 : Rd W W.heap.size 1 A1 n1 (flts z1)) (b1 : F32s z1) (b2 : z2 < 4294967296) (m1 : 1048576 < n1) :
    Calls Try.prog 12 #[.int .i64 z0, .slice A1 n1 c1, .float .f32 z2] W fun e w' => e = .returned (.bool true) ∧ Below W.heap.size W w' := by
  go_enter Try.func12, Try.ntmps12
  go_wp2_with fail
  go_ret
  exact ⟨rfl, Below.refl _ _⟩
set_option maxRecDepth 100000 in
set_option maxHeartbeats 3200000 in
theorem lawAnnuityPay_walk_short (z0 : Int) (A1 : Option Addr) (n1 c1 : Nat) (z1 : List Nat) (z2 : Nat) (W : World) (b0 : -9223372036854775808 ≤ z0 ∧ z0 ≤ 9223372036854775807) (r1 : Rd W W.heap.size 1 A1 n1 (flts z1)) (b1 : F32s z1) (b2 : z2 < 4294967296) (m1 : n1 ≤ 1048576) :
    Calls Try.prog 12 #[.int .i64 z0, .slice A1 n1 c1, .float .f32 z2] W fun e w' => e = .returned (.bool true) ∧ Below W.heap.size W w' := by
  have hB : Below W.heap.size W W := Below.refl _ _
  go_enter Try.func12, Try.ntmps12
  have hS := hB.size
  go_wp2_with fail
  refine (toFloat32S_any _ _ _ z1 _ ((r1.below hB).more hB.size) m1).mono ?_
  rintro e w1 ⟨g1, rfl, o1, hb⟩
  replace o1 := own_base o1 hS
  replace hB := below_step hB hb
  clear hb
  clear hS
  have hS := hB.size
  go_wp2_with fail
  refine (spec_AnnuityPay z0 _ _ _ z1 z2 _ b0 (Rd.of_own o1) m1 b1 b2).mono ?_
  rintro e w2 ⟨rfl, hb⟩
  replace o1 := own_on o1 hb
  replace hB := below_step hB hb
  clear hb
  clear hS
  clear o1
  have hS := hB.size
  go_wp2_with fail
  refine (toFloat32S_any _ _ _ z1 _ ((r1.below hB).more hB.size) m1).mono ?_
  rintro e w3 ⟨g2, rfl, o2, hb⟩
  replace o2 := own_base o2 hS
  replace hB := below_step hB hb
  clear hb
  clear hS
  have hS := hB.size
  go_wp2_with fail
  refine (impl_AnnuityPay z0 _ _ _ z1 z2 _ b0 (Rd.of_own o2) m1 b1 b2).mono ?_
  rintro e w4 ⟨rfl, hb⟩
  replace o2 := own_on o2 hb
  replace hB := below_step hB hb
  clear hb
  clear hS
  have hS := hB.size
  go_wp2_with fail
  refine (toFloat32S_any _ _ _ z1 _ ((r1.below hB).more hB.size) m1).mono ?_
  rintro e w5 ⟨g3, rfl, o3, hb⟩
  replace o3 := own_base o3 hS
  replace o2 := own_on o2 hb
  replace hB := below_step hB hb
  clear hb
  clear hS
  go_wp2_with fail
  refine (eqFloat32S_yes _ _ _ _ _ _ _ (Rd.of_own o2) (Rd.of_own o3) (by have := m1; omega)).mono ?_
  rintro e w6 ⟨rfl, hb⟩
  replace o2 := own_on o2 hb
  replace o3 := own_on o3 hb
  replace hB := below_step hB hb
  clear hb
  clear o3
  go_wp2_with fail
  go_ret
  exact ⟨rfl, hB⟩
theorem lawAnnuityPay_walk (z0 : Int) (A1 : Option Addr) (n1 c1 : Nat) (z1 : List Nat) (z2 : Nat) (W : World) (b0 : -9223372036854775808 ≤ z0 ∧ z0 ≤ 9223372036854775807) (r1 : Rd W W.heap.size 1 A1 n1 (flts z1)) (b1 : F32s z1) (b2 : z2 < 4294967296) :
    Calls Try.prog 12 #[.int .i64 z0, .slice A1 n1 c1, .float .f32 z2] W fun e w' => e = .returned (.bool true) ∧ Below W.heap.size W w' := by
  by_cases m1 : n1 ≤ 1048576
  case neg => exact lawAnnuityPay_walk_long1 z0 A1 n1 c1 z1 z2 W b0 r1 b1 b2  (by omega)
  exact lawAnnuityPay_walk_short z0 A1 n1 c1 z1 z2 W b0 r1 b1 b2 m1
set_option maxRecDepth 100000 in
theorem lawAnnuityPay_lifted (os : Os) (started : os.Started) (H : Type) (enc : TypeId × Value → H) :
    ReturnsInHanded {} Try.checked os 12 .any (Rows.fnExactAnnuityPaySpec.pre6 enc Try.prog Try.f12 Rows.fnExactAnnuityPayRow.domain false) (Rows.fnExactAnnuityPaySpec.post enc Try.prog Try.f12 false true false false) := by
  refine returnsInHanded_of_change (C := Try.checked) own_knob started (by kernel_rfl) Try.func12
    (ChangeSpec.witness6 (enc := enc) (C := Try.checked) false ⟨#[], #[.int .i64 0, .slice none 0 0, .float .f32 0], []⟩ 8 (by kernel_rfl) (by kernel_rfl) (by kernel_rfl) (by kernel_rfl)) ?_
  intro W base args ds gs before hval0 hW hcnd _
  have hval : ∀ (j : Nat) t v, Try.f12.params[j]? = some t → args[j]? = some v → Value.okWide Try.prog W .any base t v := hval0
  have hW' := hW
  obtain ⟨p, q, hA0, hV, rfl, hfz, hnd⟩ := hW
  have hA : DataW.TrodAll enc Try.prog W 0 (fun _ => true) true Try.f12.params.toList args.toList ds p := hA0
  rw [Try.params12] at hA hval
  obtain ⟨v0, vs0, d0, ds0, p0, q0, hargs, rfl, rfl, h0, u0⟩ := trodAll_cons hA
  obtain ⟨v1, vs1, d1, ds1, p1, q1, rfl, rfl, rfl, h1, u1⟩ := trodAll_cons u0
  obtain ⟨v2, vs2, d2, ds2, p2, q2, rfl, rfl, rfl, h2, u2⟩ := trodAll_cons u1
  obtain ⟨rfl, rfl, rfl⟩ := trodAll_nil u2
  obtain rfl : args = #[v0, v1, v2] := by cases args; simp_all
  obtain ⟨z0, rfl, rfl, rfl, b0'⟩ := open_int Try.underlying2 (hval 0 2 v0 rfl rfl) h0
  have b0 := i64_bounds b0'
  obtain ⟨A1, n1, c1, z1, rfl, r1, b1⟩ := open_rd_flts Try.underlying22 Try.underlying26 cells_f32 (hval 1 22 v1 rfl rfl) h1
  obtain ⟨z2, rfl, b2⟩ := open_flt Try.underlying26 (hval 2 26 v2 rfl rfl) h2
  clear hA0 hval0
  refine (lawAnnuityPay_walk z0 A1 n1 c1 z1 z2 W b0 r1 b1 b2).mono fun e W' ⟨he, hb⟩ => ?_
  subst he
  exact ⟨_, rfl, post_true 4 Try.underlying4 (by kernel_rfl) laid_out (by kernel_rfl) rfl rfl hW' hb⟩
theorem lawAnnuityPay_over : Rows.fnExactAnnuityPayRow.holds Try.pinned (OpenSpec.ofChange Rows.fnExactAnnuityPaySpec) :=
  OpenClaim.holds_of_wide 12 Try.f12 rfl rfl rfl rfl rfl rfl rfl ⟨rfl, rfl, rfl, rfl, rfl⟩ rfl rfl rfl rfl rfl (by kernel_rfl) Try.func12 (by kernel_rfl)
    (of_decide_eq_true (by kernel_rfl)) (by unfold Func.isWrapper; first | (rw [if_pos (by decide +kernel)]; kernel_rfl) | (rw [if_neg (by decide +kernel)]; exact ⟨rfl, rfl⟩))
    (fun os started H enc _ => lawAnnuityPay_lifted os started H enc)
theorem lawAnnuityPay_proved : Rows.FnExactAnnuityPaySaid := lawAnnuityPay_over
#print axioms lawAnnuityPay_proved
end Go.Proofs.Ytefoebaoejoamaa
