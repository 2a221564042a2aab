/-
  THE LAW FnExactNeedsOf: for every input the program's NeedsOf returns what the reference's returns, and changes no argument. Conditions: none.
-/
import Derived.Test.YtinocfehjdlohaaNeedI
namespace Go.Proofs.Ytinocfehjdlohaa
open Go.ChangeShapes Go.WideShapes Go.ChangeAt Go.RowKit
set_option linter.unusedVariables false
set_option maxHeartbeats 400000 in
theorem lawNeedsOf_walk_long0 (A0 : Option Addr) (m0 c0 : Nat) (d0 : List Rl) (z1 : Int) (z2 : Int) (W : World) (r0 : RsRd W W.heap.size A0 m0 d0) (b0 : (∀ d ∈ d0, RlB d) ∧ m0 ≤ 9223372036854775807) (b1 : -9223372036854775808 ≤ z1 ∧ z1 ≤ 9223372036854775807) (b2 : -9223372036854775808 ≤ z2 ∧ z2 ≤ 9223372036854775807) (y0 : 1048576 < szD d0) :
    Calls Try.prog 3 #[.slice A0 m0 c0, .int .i64 z1, .int .i64 z2] W fun e w' => e = .returned (.bool true) ∧ Below W.heap.size W w' := by
  have hB : Below W.heap.size W W := Below.refl _ _
  go_enter Try.func3, Try.ntmps3
  go_wp2_with fail
  refine (szRs_no _ _ _ d0 _ _ ((r0.below hB).more hB.size) ⟨by omega, by omega⟩ b0 (by omega)).mono ?_
  rintro e w1 ⟨rfl, hb⟩
  have S1 := Lib.hid hb.size
  replace hB := below_step hB hb
  clear hb
  go_wp2_with fail
  go_ret
  exact ⟨rfl, hB⟩
set_option maxRecDepth 100000 in
set_option maxHeartbeats 12800000 in
theorem lawNeedsOf_walk_short (A0 : Option Addr) (m0 c0 : Nat) (d0 : List Rl) (z1 : Int) (z2 : Int) (W : World) (r0 : RsRd W W.heap.size A0 m0 d0) (b0 : (∀ d ∈ d0, RlB d) ∧ m0 ≤ 9223372036854775807) (b1 : -9223372036854775808 ≤ z1 ∧ z1 ≤ 9223372036854775807) (b2 : -9223372036854775808 ≤ z2 ∧ z2 ≤ 9223372036854775807) (y0 : szD d0 ≤ 1048576) :
    Calls Try.prog 3 #[.slice A0 m0 c0, .int .i64 z1, .int .i64 z2] W fun e w' => e = .returned (.bool true) ∧ Below W.heap.size W w' := by
  have hB : Below W.heap.size W W := Below.refl _ _
  have s0 : szD d0 ≤ 1048576 := by omega
  go_enter Try.func3, Try.ntmps3
  go_wp2_with fail
  refine (szRs_yes _ _ _ d0 _ _ ((r0.below hB).more hB.size) ⟨by omega, by omega⟩ b0 (by omega)).mono ?_
  rintro e w1 ⟨l0, rfl, el0, hl0, hb⟩
  have El0 := Lib.hid el0; clear el0
  have S1 := Lib.hid hb.size
  replace hB := below_step hB hb
  clear hb
  go_wp2_with fail
  refine (toRs_any _ _ _ d0 _ ((r0.below hB).more hB.size) s0).mono ?_
  rintro e w2 ⟨Q1, q1, rfl, o1, hb⟩
  have S2 := Lib.hid hb.size
  replace hB := below_step hB hb
  clear hb
  go_wp2_with fail
  refine (spec_NeedsOf _ _ _ d0 z1 z2 _ o1.rd s0 b0.1 b1 b2).mono ?_
  rintro e w3 ⟨vw0, rfl, ow0, hb⟩
  clear o1
  have S3 := Lib.hid hb.size
  replace hB := below_step hB hb
  clear hb
  replace ow0 := ObjI.mk' ow0
  obtain ⟨Aw0, cw0, rfl⟩ := ow0.form
  have Lw0 := Lib.hid (NeedsOf_len d0 z1 z2)
  go_wp2_with fail
  refine (toRs_any _ _ _ d0 _ ((r0.below hB).more hB.size) s0).mono ?_
  rintro e w4 ⟨Q2, q2, rfl, o2, hb⟩
  replace ow0 := ow0.on hb
  have S4 := Lib.hid hb.size
  replace hB := below_step hB hb
  clear hb
  go_wp2_with fail
  refine (impl_NeedsOf _ _ _ d0 z1 z2 _ o2.rd s0 b0.1 b1 b2).mono ?_
  rintro e w5 ⟨vg0, rfl, og0, hb⟩
  replace ow0 := ow0.on hb
  replace o2 := o2.on hb
  have S5 := Lib.hid hb.size
  replace hB := below_step hB hb
  clear hb
  replace og0 := ObjI.mk' og0
  obtain ⟨Ag0, cg0, rfl⟩ := og0.form
  have Lg0 := Lib.hid (NeedsOf_len d0 z1 z2)
  go_wp2_with fail
  refine (eqInt64S_yes _ _ _ _ _ (NeedsOf_r0 d0 z1 z2) _ og0.rd ow0.rd (by have := Lg0.out; omega)).mono ?_
  rintro e w6 ⟨rfl, hb⟩
  replace ow0 := ow0.on hb
  replace o2 := o2.on hb
  replace og0 := og0.on hb
  have S6 := Lib.hid hb.size
  replace hB := below_step hB hb
  clear hb
  go_wp2_with fail
  refine (toRs_any _ _ _ d0 _ ((r0.below hB).more hB.size) s0).mono ?_
  rintro e w7 ⟨Q3, q3, rfl, o3, hb⟩
  replace ow0 := ow0.on hb
  replace o2 := o2.on hb
  replace og0 := og0.on hb
  have S7 := Lib.hid hb.size
  replace hB := below_step hB hb
  clear hb
  go_wp2_with fail
  refine (eqRs_yes _ _ _ _ _ d0 _ o2.rd o3.rd (by have := s0; omega)).mono ?_
  rintro e w8 ⟨rfl, hb⟩
  clear o3
  replace ow0 := ow0.on hb
  replace o2 := o2.on hb
  replace og0 := og0.on hb
  have S8 := Lib.hid hb.size
  replace hB := below_step hB hb
  clear hb
  go_wp2_with fail
  refine (markRs_any _ _ _ _ _ d0 _ o2 (by have := s0; omega) (by omega) (by omega)).mono ?_
  rintro e w9 ⟨rfl, p, hO⟩
  clear o2
  replace ow0 := ow0.only hO (by have := S1.out; have := S2.out; have := S3.out; have := S4.out; have := S5.out; have := S6.out; have := S7.out; have := S8.out; omega)
  replace og0 := og0.only hO (by have := S1.out; have := S2.out; have := S3.out; have := S4.out; have := S5.out; have := S6.out; have := S7.out; have := S8.out; omega)
  have S9 := Lib.hid hO.size
  replace hB := below_only hB hO (by have := S1.out; have := S2.out; have := S3.out; have := S4.out; have := S5.out; have := S6.out; have := S7.out; have := S8.out; omega)
  clear hO
  have o2 := p; clear p
  go_wp2_with fail
  refine (eqInt64S_yes _ _ _ _ _ (NeedsOf_r0 d0 z1 z2) _ og0.rd ow0.rd (by have := Lg0.out; omega)).mono ?_
  rintro e w10 ⟨rfl, hb⟩
  replace ow0 := ow0.on hb
  replace og0 := og0.on hb
  replace o2 := o2.on hb
  have S10 := Lib.hid hb.size
  replace hB := below_step hB hb
  clear hb
  go_wp2_with fail
  refine (markI_any _ _ _ _ _ (NeedsOf_r0 d0 z1 z2) _ og0 (by have := Lg0.out; omega) (by omega) (by omega)).mono ?_
  rintro e w11 ⟨rfl, p, hO⟩
  clear og0
  replace ow0 := ow0.only hO (by have := S1.out; have := S2.out; have := S3.out; have := S4.out; have := S5.out; have := S6.out; have := S7.out; have := S8.out; have := S9.out; have := S10.out; omega)
  replace o2 := o2.only hO (by have := S1.out; have := S2.out; have := S3.out; have := S4.out; have := S5.out; have := S6.out; have := S7.out; have := S8.out; have := S9.out; have := S10.out; omega)
  have S11 := Lib.hid hO.size
  replace hB := below_only hB hO (by have := S1.out; have := S2.out; have := S3.out; have := S4.out; have := S5.out; have := S6.out; have := S7.out; have := S8.out; have := S9.out; have := S10.out; omega)
  clear hO
  have og0 := p; clear p
  go_wp2_with fail
  refine (heldInt64S_any _ _ _ _ _ og0.rd (by have := Lg0.out; omega) (by omega) (by omega)).mono ?_
  rintro e w0 ⟨rfl, rfl⟩
  go_wp2_with fail
  refine (toRs_any _ _ _ d0 _ ((r0.below hB).more hB.size) s0).mono ?_
  rintro e w12 ⟨Q4, q4, rfl, o4, hb⟩
  replace ow0 := ow0.on hb
  replace o2 := o2.on hb
  replace og0 := og0.on hb
  have S12 := Lib.hid hb.size
  replace hB := below_step hB hb
  clear hb
  go_wp2_with fail
  refine (impl_NeedsOf _ _ _ d0 z1 z2 _ o4.rd s0 b0.1 b1 b2).mono ?_
  rintro e w13 ⟨vh0, rfl, oh0, hb⟩
  clear o4
  replace ow0 := ow0.on hb
  replace o2 := o2.on hb
  replace og0 := og0.on hb
  have S13 := Lib.hid hb.size
  replace hB := below_step hB hb
  clear hb
  replace oh0 := ObjI.mk' oh0
  obtain ⟨Ah0, ch0, rfl⟩ := oh0.form
  have Lh0 := Lib.hid (NeedsOf_len d0 z1 z2)
  go_wp2_with fail
  refine (eqInt64S_yes _ _ _ _ _ (NeedsOf_r0 d0 z1 z2) _ oh0.rd ow0.rd (by have := Lh0.out; omega)).mono ?_
  rintro e w14 ⟨rfl, hb⟩
  replace ow0 := ow0.on hb
  replace o2 := o2.on hb
  replace og0 := og0.on hb
  replace oh0 := oh0.on hb
  have S14 := Lib.hid hb.size
  replace hB := below_step hB hb
  clear hb
  go_wp2_with fail
  refine (heldInt64S_any _ _ _ _ _ og0.rd (by have := Lg0.out; omega) (by omega) (by omega)).mono ?_
  rintro e w0 ⟨rfl, rfl⟩
  go_wp2_with fail
  go_ret
  exact ⟨rfl, hB⟩
theorem lawNeedsOf_walk (A0 : Option Addr) (m0 c0 : Nat) (d0 : List Rl) (z1 : Int) (z2 : Int) (W : World) (r0 : RsRd W W.heap.size A0 m0 d0) (b0 : (∀ d ∈ d0, RlB d) ∧ m0 ≤ 9223372036854775807) (b1 : -9223372036854775808 ≤ z1 ∧ z1 ≤ 9223372036854775807) (b2 : -9223372036854775808 ≤ z2 ∧ z2 ≤ 9223372036854775807) :
    Calls Try.prog 3 #[.slice A0 m0 c0, .int .i64 z1, .int .i64 z2] W fun e w' => e = .returned (.bool true) ∧ Below W.heap.size W w' := by
  by_cases y0 : szD d0 ≤ 1048576
  case neg => exact lawNeedsOf_walk_long0 A0 m0 c0 d0 z1 z2 W r0 b0 b1 b2  (by omega)
  exact lawNeedsOf_walk_short A0 m0 c0 d0 z1 z2 W r0 b0 b1 b2 y0
set_option maxRecDepth 100000 in
theorem lawNeedsOf_lifted (os : Os) (started : os.Started) (H : Type) (enc : TypeId × Value → H) :
    ReturnsInHanded {} Try.checked os 3 .any (Rows.fnExactNeedsOfSpec.pre6 enc Try.prog Try.f3 Rows.fnExactNeedsOfRow.domain false) (Rows.fnExactNeedsOfSpec.post enc Try.prog Try.f3 false true false false) := by
  refine returnsInHanded_of_change (C := Try.checked) own_knob started (by kernel_rfl) Try.func3
    (ChangeSpec.witness6 (enc := enc) (C := Try.checked) false ⟨#[], #[.slice none 0 0, .int .i64 0, .int .i64 0], []⟩ 8 (by kernel_rfl) (by kernel_rfl) (by kernel_rfl) (by kernel_rfl)) ?_
  intro W base args ds gs before hval0 hW hcnd _
  have hval : ∀ (j : Nat) t v, Try.f3.params[j]? = some t → args[j]? = some v → Value.okWide Try.prog W .any base t v := hval0
  have hW' := hW
  obtain ⟨p, q, hA0, hV, rfl, hfz, hnd⟩ := hW
  have hA : DataW.TrodAll enc Try.prog W 0 (fun _ => true) true Try.f3.params.toList args.toList ds p := hA0
  rw [Try.params3] at hA hval
  obtain ⟨v0, vs0, d0, ds0, p0, q0, hargs, rfl, rfl, h0, u0⟩ := trodAll_cons hA
  obtain ⟨v1, vs1, d1, ds1, p1, q1, rfl, rfl, rfl, h1, u1⟩ := trodAll_cons u0
  obtain ⟨v2, vs2, d2, ds2, p2, q2, rfl, rfl, rfl, h2, u2⟩ := trodAll_cons u1
  obtain ⟨rfl, rfl, rfl⟩ := trodAll_nil u2
  obtain rfl : args = #[v0, v1, v2] := by cases args; simp_all
  obtain ⟨A0, m0, c0, rs0, hrs0⟩ := open_rd_rules Try.underlying22 Try.underlying51 (by kernel_rfl) rfl rfl rfl rfl rfl (by kernel_rfl) (by kernel_rfl) (by kernel_rfl) (by kernel_rfl) (by kernel_rfl) Try.underlying2 Try.underlying24 Try.underlying2 Try.underlying2 Try.underlying2 Try.underlying2 (by kernel_rfl) (hval 0 22 v0 rfl rfl) h0
  obtain ⟨rfl, r0, b0⟩ := open_rs (enc := enc) hrs0
  obtain ⟨z1, rfl, rfl, rfl, b1'⟩ := open_int Try.underlying2 (hval 1 2 v1 rfl rfl) h1
  have b1 := i64_bounds b1'
  obtain ⟨z2, rfl, rfl, rfl, b2'⟩ := open_int Try.underlying2 (hval 2 2 v2 rfl rfl) h2
  have b2 := i64_bounds b2'
  clear hA0 hval0
  refine (lawNeedsOf_walk A0 m0 c0 (rs0.map Ru.dat) z1 z2 W r0 b0 b1 b2).mono fun e W' ⟨he, hb⟩ => ?_
  subst he
  exact ⟨_, rfl, post_true 4 Try.underlying4 (by kernel_rfl) laid_out (by kernel_rfl) rfl rfl hW' hb⟩
theorem lawNeedsOf_over : Rows.fnExactNeedsOfRow.holds Try.pinned (OpenSpec.ofChange Rows.fnExactNeedsOfSpec) :=
  OpenClaim.holds_of_wide 3 Try.f3 rfl rfl rfl rfl rfl rfl rfl ⟨rfl, rfl, rfl, rfl, rfl⟩ rfl rfl rfl rfl rfl (by kernel_rfl) Try.func3 (by kernel_rfl)
    (of_decide_eq_true (by kernel_rfl)) (by unfold Func.isWrapper; first | (rw [if_pos (by decide +kernel)]; kernel_rfl) | (rw [if_neg (by decide +kernel)]; exact ⟨rfl, rfl⟩))
    (fun os started H enc _ => lawNeedsOf_lifted os started H enc)
theorem lawNeedsOf_proved : Rows.FnExactNeedsOfSaid := lawNeedsOf_over
#print axioms lawNeedsOf_proved
end Go.Proofs.Ytinocfehjdlohaa
