/-
  THE LAW FnExactDrawnReturns: for every input the program's DrawnReturns returns what the reference's returns, and changes no argument. Conditions: none.
-/
import Derived.Test.YtefoebaoejoamaaDrawnR
import Derived.Test.YtefoebaoejoamaaLawF
namespace Go.Proofs.Ytefoebaoejoamaa
open Go.ChangeShapes Go.WideShapes Go.ChangeAt Go.RowKit
set_option linter.unusedVariables false
set_option maxRecDepth 100000 in
set_option maxHeartbeats 3200000 in
theorem lawDrawnReturns_walk_short (z0 : Nat) (z1 : Nat) (z2 : Int) (z3 : Int) (W : World) (b0 : z0 < 4294967296) (b1 : z1 < 4294967296) (b2 : -9223372036854775808 ≤ z2 ∧ z2 ≤ 9223372036854775807) (b3 : -9223372036854775808 ≤ z3 ∧ z3 ≤ 9223372036854775807) :
    Calls Try.prog 14 #[.float .f32 z0, .float .f32 z1, .int .i64 z2, .int .i64 z3] W fun e w' => e = .returned (.bool true) ∧ Below W.heap.size W w' := by
  have hB : Below W.heap.size W W := Below.refl _ _
  go_enter Try.func14, Try.ntmps14
  have hS := hB.size
  go_wp2_with fail
  refine (spec_DrawnReturns z0 z1 z2 z3 _ b0 b1 b2 b3).mono ?_
  rintro e w1 ⟨vw0, rfl, o_w0, hb⟩
  replace o_w0 := own_base o_w0 hS
  replace hB := below_step hB hb
  clear hb
  clear hS
  obtain ⟨Ao_w0, co_w0, rfl, _⟩ := own_form o_w0
  have hS := hB.size
  go_wp2_with fail
  refine (impl_DrawnReturns z0 z1 z2 z3 _ b0 b1 b2 b3).mono ?_
  rintro e w2 ⟨vg0, rfl, o_g0, hb⟩
  have ap_o_g0_o_w0 := own_apart o_w0 o_g0
  replace o_g0 := own_base o_g0 hS
  replace o_w0 := own_on o_w0 hb
  replace hB := below_step hB hb
  clear hb
  clear hS
  obtain ⟨Ao_g0, co_g0, rfl, _⟩ := own_form o_g0
  go_wp2_with fail
  refine (eqFloat32S_yes _ _ _ _ _ _ _ (Rd.of_own o_g0) (Rd.of_own o_w0) (by have := (DrawnReturns_len z0 z1 z2 z3); omega)).mono ?_
  rintro e w3 ⟨rfl, hb⟩
  replace o_w0 := own_on o_w0 hb
  replace o_g0 := own_on o_g0 hb
  replace hB := below_step hB hb
  clear hb
  go_wp2_with fail
  refine (markFloat32S_any _ _ _ _ _ _ o_g0 (by have := (DrawnReturns_len z0 z1 z2 z3); omega) (by omega) (by omega)).mono ?_
  rintro e w4 ⟨rfl, p_o_g0, hg⟩
  replace o_w0 := World.ownsRow.kept o_w0 hg (ap_o_g0_o_w0.2)
  replace hB := below_grown hB hg (fun k hk => (p_o_g0.lt k hk).1)
  clear hg o_g0
  have o_g0 := p_o_g0; clear p_o_g0
  go_wp2_with fail
  refine (heldFloat32S_any _ _ _ _ _ (Rd.of_own o_g0) (by have := (DrawnReturns_len z0 z1 z2 z3); omega) (by omega) (by omega)).mono ?_
  rintro e w5 ⟨rfl, rfl⟩
  have hS := hB.size
  go_wp2_with fail
  refine (impl_DrawnReturns z0 z1 z2 z3 _ b0 b1 b2 b3).mono ?_
  rintro e w6 ⟨vh0, rfl, o_h0, hb⟩
  have ap_o_h0_o_w0 := own_apart o_w0 o_h0
  have ap_o_h0_o_g0 := own_apart o_g0 o_h0
  replace o_h0 := own_base o_h0 hS
  replace o_w0 := own_on o_w0 hb
  replace o_g0 := own_on o_g0 hb
  replace hB := below_step hB hb
  clear hb
  clear hS
  obtain ⟨Ao_h0, co_h0, rfl, _⟩ := own_form o_h0
  go_wp2_with fail
  refine (eqFloat32S_yes _ _ _ _ _ _ _ (Rd.of_own o_h0) (Rd.of_own o_w0) (by have := (DrawnReturns_len z0 z1 z2 z3); omega)).mono ?_
  rintro e w7 ⟨rfl, hb⟩
  replace o_w0 := own_on o_w0 hb
  replace o_g0 := own_on o_g0 hb
  replace o_h0 := own_on o_h0 hb
  replace hB := below_step hB hb
  clear hb
  go_wp2_with fail
  refine (heldFloat32S_any _ _ _ _ _ (Rd.of_own o_g0) (by have := (DrawnReturns_len z0 z1 z2 z3); omega) (by omega) (by omega)).mono ?_
  rintro e w8 ⟨rfl, rfl⟩
  go_wp2_with fail
  go_ret
  exact ⟨rfl, hB⟩
theorem lawDrawnReturns_walk (z0 : Nat) (z1 : Nat) (z2 : Int) (z3 : Int) (W : World) (b0 : z0 < 4294967296) (b1 : z1 < 4294967296) (b2 : -9223372036854775808 ≤ z2 ∧ z2 ≤ 9223372036854775807) (b3 : -9223372036854775808 ≤ z3 ∧ z3 ≤ 9223372036854775807) :
    Calls Try.prog 14 #[.float .f32 z0, .float .f32 z1, .int .i64 z2, .int .i64 z3] W fun e w' => e = .returned (.bool true) ∧ Below W.heap.size W w' := by
  exact lawDrawnReturns_walk_short z0 z1 z2 z3 W b0 b1 b2 b3 
set_option maxRecDepth 100000 in
theorem lawDrawnReturns_lifted (os : Os) (started : os.Started) (H : Type) (enc : TypeId × Value → H) :
    ReturnsInHanded {} Try.checked os 14 .any (Rows.fnExactDrawnReturnsSpec.pre6 enc Try.prog Try.f14 Rows.fnExactDrawnReturnsRow.domain false) (Rows.fnExactDrawnReturnsSpec.post enc Try.prog Try.f14 false true false false) := by
  refine returnsInHanded_of_change (C := Try.checked) own_knob started (by kernel_rfl) Try.func14
    (ChangeSpec.witness6 (enc := enc) (C := Try.checked) false ⟨#[], #[.float .f32 0, .float .f32 0, .int .i64 0, .int .i64 0], []⟩ 8 (by kernel_rfl) (by kernel_rfl) (by kernel_rfl) (by kernel_rfl)) ?_
  intro W base args ds gs before hval0 hW hcnd _
  have hval : ∀ (j : Nat) t v, Try.f14.params[j]? = some t → args[j]? = some v → Value.okWide Try.prog W .any base t v := hval0
  have hW' := hW
  obtain ⟨p, q, hA0, hV, rfl, hfz, hnd⟩ := hW
  have hA : DataW.TrodAll enc Try.prog W 0 (fun _ => true) true Try.f14.params.toList args.toList ds p := hA0
  rw [Try.params14] at hA hval
  obtain ⟨v0, vs0, d0, ds0, p0, q0, hargs, rfl, rfl, h0, u0⟩ := trodAll_cons hA
  obtain ⟨v1, vs1, d1, ds1, p1, q1, rfl, rfl, rfl, h1, u1⟩ := trodAll_cons u0
  obtain ⟨v2, vs2, d2, ds2, p2, q2, rfl, rfl, rfl, h2, u2⟩ := trodAll_cons u1
  obtain ⟨v3, vs3, d3, ds3, p3, q3, rfl, rfl, rfl, h3, u3⟩ := trodAll_cons u2
  obtain ⟨rfl, rfl, rfl⟩ := trodAll_nil u3
  obtain rfl : args = #[v0, v1, v2, v3] := by cases args; simp_all
  obtain ⟨z0, rfl, b0⟩ := open_flt Try.underlying26 (hval 0 26 v0 rfl rfl) h0
  obtain ⟨z1, rfl, b1⟩ := open_flt Try.underlying26 (hval 1 26 v1 rfl rfl) h1
  obtain ⟨z2, rfl, rfl, rfl, b2'⟩ := open_int Try.underlying2 (hval 2 2 v2 rfl rfl) h2
  have b2 := i64_bounds b2'
  obtain ⟨z3, rfl, rfl, rfl, b3'⟩ := open_int Try.underlying2 (hval 3 2 v3 rfl rfl) h3
  have b3 := i64_bounds b3'
  clear hA0 hval0
  refine (lawDrawnReturns_walk z0 z1 z2 z3 W b0 b1 b2 b3).mono fun e W' ⟨he, hb⟩ => ?_
  subst he
  exact ⟨_, rfl, post_true 4 Try.underlying4 (by kernel_rfl) laid_out (by kernel_rfl) rfl rfl hW' hb⟩
theorem lawDrawnReturns_over : Rows.fnExactDrawnReturnsRow.holds Try.pinned (OpenSpec.ofChange Rows.fnExactDrawnReturnsSpec) :=
  OpenClaim.holds_of_wide 14 Try.f14 rfl rfl rfl rfl rfl rfl rfl ⟨rfl, rfl, rfl, rfl, rfl⟩ rfl rfl rfl rfl rfl (by kernel_rfl) Try.func14 (by kernel_rfl)
    (of_decide_eq_true (by kernel_rfl)) (by unfold Func.isWrapper; first | (rw [if_pos (by decide +kernel)]; kernel_rfl) | (rw [if_neg (by decide +kernel)]; exact ⟨rfl, rfl⟩))
    (fun os started H enc _ => lawDrawnReturns_lifted os started H enc)
theorem lawDrawnReturns_proved : Rows.FnExactDrawnReturnsSaid := lawDrawnReturns_over
#print axioms lawDrawnReturns_proved
end Go.Proofs.Ytefoebaoejoamaa
