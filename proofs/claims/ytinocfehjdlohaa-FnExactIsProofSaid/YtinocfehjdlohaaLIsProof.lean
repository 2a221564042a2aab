/-
  THE LAW FnExactIsProof: for every input the program's IsProof returns what the reference's returns, and changes no argument. Conditions: none.
-/
import Derived.Test.YtinocfehjdlohaaIsS
namespace Go.Proofs.Ytinocfehjdlohaa
open Go.ChangeShapes Go.WideShapes Go.ChangeAt Go.RowKit
set_option linter.unusedVariables false
set_option maxHeartbeats 400000 in
theorem lawIsProof_walk_long0 (A0 : Option Addr) (m0 c0 : Nat) (d0 : List Rl) (A1 : Option Addr) (m1 c1 : Nat) (z1 : List Int) (z2 : Int) (A3 : Option Addr) (m3 c3 : Nat) (z3 : List Int) (z4 : Int) (W : World) (r0 : RsRd W W.heap.size A0 m0 d0) (b0 : (∀ d ∈ d0, RlB d) ∧ m0 ≤ 9223372036854775807) (r1 : Rd W W.heap.size 1 A1 m1 (ints z1)) (b1 : I64s z1) (b2 : -9223372036854775808 ≤ z2 ∧ z2 ≤ 9223372036854775807) (r3 : Rd W W.heap.size 1 A3 m3 (ints z3)) (b3 : I64s z3) (b4 : -9223372036854775808 ≤ z4 ∧ z4 ≤ 9223372036854775807) (y0 : 1048576 < m1) :
    Calls Try.prog 6 #[.slice A0 m0 c0, .slice A1 m1 c1, .int .i64 z2, .slice A3 m3 c3, .int .i64 z4] W fun e w' => e = .returned (.bool true) ∧ Below W.heap.size W w' := by
  have hB : Below W.heap.size W W := Below.refl _ _
  go_enter Try.func6, Try.ntmps6
  go_wp2_with fail
  go_ret
  exact ⟨rfl, hB⟩
set_option maxHeartbeats 400000 in
theorem lawIsProof_walk_long1 (A0 : Option Addr) (m0 c0 : Nat) (d0 : List Rl) (A1 : Option Addr) (m1 c1 : Nat) (z1 : List Int) (z2 : Int) (A3 : Option Addr) (m3 c3 : Nat) (z3 : List Int) (z4 : Int) (W : World) (r0 : RsRd W W.heap.size A0 m0 d0) (b0 : (∀ d ∈ d0, RlB d) ∧ m0 ≤ 9223372036854775807) (r1 : Rd W W.heap.size 1 A1 m1 (ints z1)) (b1 : I64s z1) (b2 : -9223372036854775808 ≤ z2 ∧ z2 ≤ 9223372036854775807) (r3 : Rd W W.heap.size 1 A3 m3 (ints z3)) (b3 : I64s z3) (b4 : -9223372036854775808 ≤ z4 ∧ z4 ≤ 9223372036854775807) (y0 : m1 ≤ 1048576) (y1 : 1048576 < m3) :
    Calls Try.prog 6 #[.slice A0 m0 c0, .slice A1 m1 c1, .int .i64 z2, .slice A3 m3 c3, .int .i64 z4] W fun e w' => e = .returned (.bool true) ∧ Below W.heap.size W w' := by
  have hB : Below W.heap.size W W := Below.refl _ _
  go_enter Try.func6, Try.ntmps6
  go_wp2_with fail
  go_ret
  exact ⟨rfl, hB⟩
set_option maxHeartbeats 400000 in
theorem lawIsProof_walk_long2 (A0 : Option Addr) (m0 c0 : Nat) (d0 : List Rl) (A1 : Option Addr) (m1 c1 : Nat) (z1 : List Int) (z2 : Int) (A3 : Option Addr) (m3 c3 : Nat) (z3 : List Int) (z4 : Int) (W : World) (r0 : RsRd W W.heap.size A0 m0 d0) (b0 : (∀ d ∈ d0, RlB d) ∧ m0 ≤ 9223372036854775807) (r1 : Rd W W.heap.size 1 A1 m1 (ints z1)) (b1 : I64s z1) (b2 : -9223372036854775808 ≤ z2 ∧ z2 ≤ 9223372036854775807) (r3 : Rd W W.heap.size 1 A3 m3 (ints z3)) (b3 : I64s z3) (b4 : -9223372036854775808 ≤ z4 ∧ z4 ≤ 9223372036854775807) (y0 : m1 ≤ 1048576) (y1 : m3 ≤ 1048576) (y2 : 1048576 < szD d0) :
    Calls Try.prog 6 #[.slice A0 m0 c0, .slice A1 m1 c1, .int .i64 z2, .slice A3 m3 c3, .int .i64 z4] W fun e w' => e = .returned (.bool true) ∧ Below W.heap.size W w' := by
  have hB : Below W.heap.size W W := Below.refl _ _
  go_enter Try.func6, Try.ntmps6
  go_wp2_with fail
  refine (szRs_no _ _ _ d0 _ _ ((r0.below hB).more hB.size) ⟨by omega, by omega⟩ b0 (by omega)).mono ?_
  rintro e w1 ⟨rfl, hb⟩
  have S1 := Lib.hid hb.size
  replace hB := below_step hB hb
  clear hb
  go_wp2_with fail
  go_ret
  exact ⟨rfl, hB⟩
set_option maxRecDepth 100000 in
set_option maxHeartbeats 12800000 in
theorem lawIsProof_walk_short (A0 : Option Addr) (m0 c0 : Nat) (d0 : List Rl) (A1 : Option Addr) (m1 c1 : Nat) (z1 : List Int) (z2 : Int) (A3 : Option Addr) (m3 c3 : Nat) (z3 : List Int) (z4 : Int) (W : World) (r0 : RsRd W W.heap.size A0 m0 d0) (b0 : (∀ d ∈ d0, RlB d) ∧ m0 ≤ 9223372036854775807) (r1 : Rd W W.heap.size 1 A1 m1 (ints z1)) (b1 : I64s z1) (b2 : -9223372036854775808 ≤ z2 ∧ z2 ≤ 9223372036854775807) (r3 : Rd W W.heap.size 1 A3 m3 (ints z3)) (b3 : I64s z3) (b4 : -9223372036854775808 ≤ z4 ∧ z4 ≤ 9223372036854775807) (y0 : m1 ≤ 1048576) (y1 : m3 ≤ 1048576) (y2 : szD d0 ≤ 1048576) :
    Calls Try.prog 6 #[.slice A0 m0 c0, .slice A1 m1 c1, .int .i64 z2, .slice A3 m3 c3, .int .i64 z4] W fun e w' => e = .returned (.bool true) ∧ Below W.heap.size W w' := by
  have hB : Below W.heap.size W W := Below.refl _ _
  have s0 : szD d0 ≤ 1048576 := by omega
  have s1 : m1 ≤ 1048576 := by omega
  have s3 : m3 ≤ 1048576 := by omega
  go_enter Try.func6, Try.ntmps6
  go_wp2_with fail
  refine (szRs_yes _ _ _ d0 _ _ ((r0.below hB).more hB.size) ⟨by omega, by omega⟩ b0 (by omega)).mono ?_
  rintro e w1 ⟨l2, rfl, el2, hl2, hb⟩
  have El2 := Lib.hid el2; clear el2
  have S1 := Lib.hid hb.size
  replace hB := below_step hB hb
  clear hb
  go_wp2_with fail
  refine (toRs_any _ _ _ d0 _ ((r0.below hB).more hB.size) s0).mono ?_
  rintro e w2 ⟨Q1, q1, rfl, o1, hb⟩
  have S2 := Lib.hid hb.size
  replace hB := below_step hB hb
  clear hb
  go_wp2_with fail
  refine (toInt64S_any _ _ _ z1 _ ((r1.below hB).more hB.size) s1).mono ?_
  rintro e w3 ⟨g2, rfl, o2, hb⟩
  replace o2 := ObjI.mk' o2
  replace o1 := o1.on hb
  have S3 := Lib.hid hb.size
  replace hB := below_step hB hb
  clear hb
  go_wp2_with fail
  refine (toInt64S_any _ _ _ z3 _ ((r3.below hB).more hB.size) s3).mono ?_
  rintro e w4 ⟨g3, rfl, o3, hb⟩
  replace o3 := ObjI.mk' o3
  replace o1 := o1.on hb
  replace o2 := o2.on hb
  have S4 := Lib.hid hb.size
  replace hB := below_step hB hb
  clear hb
  go_wp2_with fail
  refine (spec_IsProof _ _ _ d0 _ _ _ z1 z2 _ _ _ z3 z4 _ o1.rd s0 b0.1 o2.rd s1 b1 b2 o3.rd s3 b3 b4).mono ?_
  rintro e w5 ⟨rfl, hb⟩
  clear o1
  clear o2
  clear o3
  have S5 := Lib.hid hb.size
  replace hB := below_step hB hb
  clear hb
  go_wp2_with fail
  refine (toRs_any _ _ _ d0 _ ((r0.below hB).more hB.size) s0).mono ?_
  rintro e w6 ⟨Q4, q4, rfl, o4, hb⟩
  have S6 := Lib.hid hb.size
  replace hB := below_step hB hb
  clear hb
  go_wp2_with fail
  refine (toInt64S_any _ _ _ z1 _ ((r1.below hB).more hB.size) s1).mono ?_
  rintro e w7 ⟨g5, rfl, o5, hb⟩
  replace o5 := ObjI.mk' o5
  replace o4 := o4.on hb
  have S7 := Lib.hid hb.size
  replace hB := below_step hB hb
  clear hb
  go_wp2_with fail
  refine (toInt64S_any _ _ _ z3 _ ((r3.below hB).more hB.size) s3).mono ?_
  rintro e w8 ⟨g6, rfl, o6, hb⟩
  replace o6 := ObjI.mk' o6
  replace o4 := o4.on hb
  replace o5 := o5.on hb
  have S8 := Lib.hid hb.size
  replace hB := below_step hB hb
  clear hb
  go_wp2_with fail
  refine (impl_IsProof _ _ _ d0 _ _ _ z1 z2 _ _ _ z3 z4 _ o4.rd s0 b0.1 o5.rd s1 b1 b2 o6.rd s3 b3 b4).mono ?_
  rintro e w9 ⟨rfl, hb⟩
  replace o4 := o4.on hb
  replace o5 := o5.on hb
  replace o6 := o6.on hb
  have S9 := Lib.hid hb.size
  replace hB := below_step hB hb
  clear hb
  go_wp2_with fail
  refine (toRs_any _ _ _ d0 _ ((r0.below hB).more hB.size) s0).mono ?_
  rintro e w10 ⟨Q7, q7, rfl, o7, hb⟩
  replace o4 := o4.on hb
  replace o5 := o5.on hb
  replace o6 := o6.on hb
  have S10 := Lib.hid hb.size
  replace hB := below_step hB hb
  clear hb
  go_wp2_with fail
  refine (eqRs_yes _ _ _ _ _ d0 _ o4.rd o7.rd (by have := s0; omega)).mono ?_
  rintro e w11 ⟨rfl, hb⟩
  clear o7
  replace o4 := o4.on hb
  replace o5 := o5.on hb
  replace o6 := o6.on hb
  have S11 := Lib.hid hb.size
  replace hB := below_step hB hb
  clear hb
  go_wp2_with fail
  refine (toInt64S_any _ _ _ z1 _ ((r1.below hB).more hB.size) s1).mono ?_
  rintro e w12 ⟨g8, rfl, o8, hb⟩
  replace o8 := ObjI.mk' o8
  replace o4 := o4.on hb
  replace o5 := o5.on hb
  replace o6 := o6.on hb
  have S12 := Lib.hid hb.size
  replace hB := below_step hB hb
  clear hb
  go_wp2_with fail
  refine (eqInt64S_yes _ _ _ _ _ z1 _ o5.rd o8.rd (by have := s1; omega)).mono ?_
  rintro e w13 ⟨rfl, hb⟩
  clear o8
  replace o4 := o4.on hb
  replace o5 := o5.on hb
  replace o6 := o6.on hb
  have S13 := Lib.hid hb.size
  replace hB := below_step hB hb
  clear hb
  go_wp2_with fail
  refine (toInt64S_any _ _ _ z3 _ ((r3.below hB).more hB.size) s3).mono ?_
  rintro e w14 ⟨g9, rfl, o9, hb⟩
  replace o9 := ObjI.mk' o9
  replace o4 := o4.on hb
  replace o5 := o5.on hb
  replace o6 := o6.on hb
  have S14 := Lib.hid hb.size
  replace hB := below_step hB hb
  clear hb
  go_wp2_with fail
  refine (eqInt64S_yes _ _ _ _ _ z3 _ o6.rd o9.rd (by have := s3; omega)).mono ?_
  rintro e w15 ⟨rfl, hb⟩
  clear o9
  replace o4 := o4.on hb
  replace o5 := o5.on hb
  replace o6 := o6.on hb
  have S15 := Lib.hid hb.size
  replace hB := below_step hB hb
  clear hb
  go_wp2_with fail
  go_ret
  exact ⟨rfl, hB⟩
theorem lawIsProof_walk (A0 : Option Addr) (m0 c0 : Nat) (d0 : List Rl) (A1 : Option Addr) (m1 c1 : Nat) (z1 : List Int) (z2 : Int) (A3 : Option Addr) (m3 c3 : Nat) (z3 : List Int) (z4 : Int) (W : World) (r0 : RsRd W W.heap.size A0 m0 d0) (b0 : (∀ d ∈ d0, RlB d) ∧ m0 ≤ 9223372036854775807) (r1 : Rd W W.heap.size 1 A1 m1 (ints z1)) (b1 : I64s z1) (b2 : -9223372036854775808 ≤ z2 ∧ z2 ≤ 9223372036854775807) (r3 : Rd W W.heap.size 1 A3 m3 (ints z3)) (b3 : I64s z3) (b4 : -9223372036854775808 ≤ z4 ∧ z4 ≤ 9223372036854775807) :
    Calls Try.prog 6 #[.slice A0 m0 c0, .slice A1 m1 c1, .int .i64 z2, .slice A3 m3 c3, .int .i64 z4] W fun e w' => e = .returned (.bool true) ∧ Below W.heap.size W w' := by
  by_cases y0 : m1 ≤ 1048576
  case neg => exact lawIsProof_walk_long0 A0 m0 c0 d0 A1 m1 c1 z1 z2 A3 m3 c3 z3 z4 W r0 b0 r1 b1 b2 r3 b3 b4  (by omega)
  by_cases y1 : m3 ≤ 1048576
  case neg => exact lawIsProof_walk_long1 A0 m0 c0 d0 A1 m1 c1 z1 z2 A3 m3 c3 z3 z4 W r0 b0 r1 b1 b2 r3 b3 b4 y0 (by omega)
  by_cases y2 : szD d0 ≤ 1048576
  case neg => exact lawIsProof_walk_long2 A0 m0 c0 d0 A1 m1 c1 z1 z2 A3 m3 c3 z3 z4 W r0 b0 r1 b1 b2 r3 b3 b4 y0 y1 (by omega)
  exact lawIsProof_walk_short A0 m0 c0 d0 A1 m1 c1 z1 z2 A3 m3 c3 z3 z4 W r0 b0 r1 b1 b2 r3 b3 b4 y0 y1 y2
set_option maxRecDepth 100000 in
theorem lawIsProof_lifted (os : Os) (started : os.Started) (H : Type) (enc : TypeId × Value → H) :
    ReturnsInHanded {} Try.checked os 6 .any (Rows.fnExactIsProofSpec.pre6 enc Try.prog Try.f6 Rows.fnExactIsProofRow.domain false) (Rows.fnExactIsProofSpec.post enc Try.prog Try.f6 false true false false) := by
  refine returnsInHanded_of_change (C := Try.checked) own_knob started (by kernel_rfl) Try.func6
    (ChangeSpec.witness6 (enc := enc) (C := Try.checked) false ⟨#[], #[.slice none 0 0, .slice none 0 0, .int .i64 0, .slice none 0 0, .int .i64 0], []⟩ 8 (by kernel_rfl) (by kernel_rfl) (by kernel_rfl) (by kernel_rfl)) ?_
  intro W base args ds gs before hval0 hW hcnd _
  have hval : ∀ (j : Nat) t v, Try.f6.params[j]? = some t → args[j]? = some v → Value.okWide Try.prog W .any base t v := hval0
  have hW' := hW
  obtain ⟨p, q, hA0, hV, rfl, hfz, hnd⟩ := hW
  have hA : DataW.TrodAll enc Try.prog W 0 (fun _ => true) true Try.f6.params.toList args.toList ds p := hA0
  rw [Try.params6] at hA hval
  obtain ⟨v0, vs0, d0, ds0, p0, q0, hargs, rfl, rfl, h0, u0⟩ := trodAll_cons hA
  obtain ⟨v1, vs1, d1, ds1, p1, q1, rfl, rfl, rfl, h1, u1⟩ := trodAll_cons u0
  obtain ⟨v2, vs2, d2, ds2, p2, q2, rfl, rfl, rfl, h2, u2⟩ := trodAll_cons u1
  obtain ⟨v3, vs3, d3, ds3, p3, q3, rfl, rfl, rfl, h3, u3⟩ := trodAll_cons u2
  obtain ⟨v4, vs4, d4, ds4, p4, q4, rfl, rfl, rfl, h4, u4⟩ := trodAll_cons u3
  obtain ⟨rfl, rfl, rfl⟩ := trodAll_nil u4
  obtain rfl : args = #[v0, v1, v2, v3, v4] := by cases args; simp_all
  obtain ⟨A0, m0, c0, rs0, hrs0⟩ := open_rd_rules Try.underlying22 Try.underlying51 (by kernel_rfl) rfl rfl rfl rfl rfl (by kernel_rfl) (by kernel_rfl) (by kernel_rfl) (by kernel_rfl) (by kernel_rfl) Try.underlying2 Try.underlying24 Try.underlying2 Try.underlying2 Try.underlying2 Try.underlying2 (by kernel_rfl) (hval 0 22 v0 rfl rfl) h0
  obtain ⟨rfl, r0, b0⟩ := open_rs (enc := enc) hrs0
  obtain ⟨A1, m1, c1, z1, rfl, r1, b1⟩ := open_rd_ints Try.underlying24 Try.underlying2 cells_i64 (hval 1 24 v1 rfl rfl) h1
  obtain ⟨z2, rfl, rfl, rfl, b2'⟩ := open_int Try.underlying2 (hval 2 2 v2 rfl rfl) h2
  have b2 := i64_bounds b2'
  obtain ⟨A3, m3, c3, z3, rfl, r3, b3⟩ := open_rd_ints Try.underlying24 Try.underlying2 cells_i64 (hval 3 24 v3 rfl rfl) h3
  obtain ⟨z4, rfl, rfl, rfl, b4'⟩ := open_int Try.underlying2 (hval 4 2 v4 rfl rfl) h4
  have b4 := i64_bounds b4'
  clear hA0 hval0
  refine (lawIsProof_walk A0 m0 c0 (rs0.map Ru.dat) A1 m1 c1 z1 z2 A3 m3 c3 z3 z4 W r0 b0 r1 b1 b2 r3 b3 b4).mono fun e W' ⟨he, hb⟩ => ?_
  subst he
  exact ⟨_, rfl, post_true 4 Try.underlying4 (by kernel_rfl) laid_out (by kernel_rfl) rfl rfl hW' hb⟩
theorem lawIsProof_over : Rows.fnExactIsProofRow.holds Try.pinned (OpenSpec.ofChange Rows.fnExactIsProofSpec) :=
  OpenClaim.holds_of_wide 6 Try.f6 rfl rfl rfl rfl rfl rfl rfl ⟨rfl, rfl, rfl, rfl, rfl⟩ rfl rfl rfl rfl rfl (by kernel_rfl) Try.func6 (by kernel_rfl)
    (of_decide_eq_true (by kernel_rfl)) (by unfold Func.isWrapper; first | (rw [if_pos (by decide +kernel)]; kernel_rfl) | (rw [if_neg (by decide +kernel)]; exact ⟨rfl, rfl⟩))
    (fun os started H enc _ => lawIsProof_lifted os started H enc)
theorem lawIsProof_proved : Rows.FnExactIsProofSaid := lawIsProof_over
#print axioms lawIsProof_proved
end Go.Proofs.Ytinocfehjdlohaa
