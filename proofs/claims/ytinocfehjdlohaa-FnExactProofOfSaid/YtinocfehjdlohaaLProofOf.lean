/-
  THE LAW FnExactProofOf: for every input the program's ProofOf returns what the reference's returns, and changes no argument. Conditions: none.
-/
import Derived.Test.YtinocfehjdlohaaPofB
namespace Go.Proofs.Ytinocfehjdlohaa
open Go.ChangeShapes Go.WideShapes Go.ChangeAt Go.RowKit
set_option linter.unusedVariables false
set_option maxHeartbeats 400000 in
theorem lawProofOf_walk_long0 (A0 : Option Addr) (m0 c0 : Nat) (d0 : List Rl) (A1 : Option Addr) (m1 c1 : Nat) (z1 : List Int) (z2 : Int) (z3 : Int) (W : World) (r0 : RsRd W W.heap.size A0 m0 d0) (b0 : (∀ d ∈ d0, RlB d) ∧ m0 ≤ 9223372036854775807) (r1 : Rd W W.heap.size 1 A1 m1 (ints z1)) (b1 : I64s z1) (b2 : -9223372036854775808 ≤ z2 ∧ z2 ≤ 9223372036854775807) (b3 : -9223372036854775808 ≤ z3 ∧ z3 ≤ 9223372036854775807) (y0 : 1048576 < m1) :
    Calls Try.prog 9 #[.slice A0 m0 c0, .slice A1 m1 c1, .int .i64 z2, .int .i64 z3] W fun e w' => e = .returned (.bool true) ∧ Below W.heap.size W w' := by
  have hB : Below W.heap.size W W := Below.refl _ _
  go_enter Try.func9, Try.ntmps9
  go_wp2_with fail
  go_ret
  exact ⟨rfl, hB⟩
set_option maxHeartbeats 400000 in
theorem lawProofOf_walk_long1 (A0 : Option Addr) (m0 c0 : Nat) (d0 : List Rl) (A1 : Option Addr) (m1 c1 : Nat) (z1 : List Int) (z2 : Int) (z3 : Int) (W : World) (r0 : RsRd W W.heap.size A0 m0 d0) (b0 : (∀ d ∈ d0, RlB d) ∧ m0 ≤ 9223372036854775807) (r1 : Rd W W.heap.size 1 A1 m1 (ints z1)) (b1 : I64s z1) (b2 : -9223372036854775808 ≤ z2 ∧ z2 ≤ 9223372036854775807) (b3 : -9223372036854775808 ≤ z3 ∧ z3 ≤ 9223372036854775807) (y0 : m1 ≤ 1048576) (y1 : 1048576 < szD d0) :
    Calls Try.prog 9 #[.slice A0 m0 c0, .slice A1 m1 c1, .int .i64 z2, .int .i64 z3] W fun e w' => e = .returned (.bool true) ∧ Below W.heap.size W w' := by
  have hB : Below W.heap.size W W := Below.refl _ _
  go_enter Try.func9, Try.ntmps9
  go_wp2_with fail
  refine (szRs_no _ _ _ d0 _ _ ((r0.below hB).more hB.size) ⟨by omega, by omega⟩ b0 (by omega)).mono ?_
  rintro e w1 ⟨rfl, hb⟩
  have S1 := Lib.hid hb.size
  replace hB := below_step hB hb
  clear hb
  go_wp2_with fail
  go_ret
  exact ⟨rfl, hB⟩
set_option maxRecDepth 100000 in
set_option maxHeartbeats 12800000 in
theorem lawProofOf_walk_short (A0 : Option Addr) (m0 c0 : Nat) (d0 : List Rl) (A1 : Option Addr) (m1 c1 : Nat) (z1 : List Int) (z2 : Int) (z3 : Int) (W : World) (r0 : RsRd W W.heap.size A0 m0 d0) (b0 : (∀ d ∈ d0, RlB d) ∧ m0 ≤ 9223372036854775807) (r1 : Rd W W.heap.size 1 A1 m1 (ints z1)) (b1 : I64s z1) (b2 : -9223372036854775808 ≤ z2 ∧ z2 ≤ 9223372036854775807) (b3 : -9223372036854775808 ≤ z3 ∧ z3 ≤ 9223372036854775807) (y0 : m1 ≤ 1048576) (y1 : szD d0 ≤ 1048576) :
    Calls Try.prog 9 #[.slice A0 m0 c0, .slice A1 m1 c1, .int .i64 z2, .int .i64 z3] W fun e w' => e = .returned (.bool true) ∧ Below W.heap.size W w' := by
  have hB : Below W.heap.size W W := Below.refl _ _
  have s0 : szD d0 ≤ 1048576 := by omega
  have s1 : m1 ≤ 1048576 := by omega
  go_enter Try.func9, Try.ntmps9
  go_wp2_with fail
  refine (szRs_yes _ _ _ d0 _ _ ((r0.below hB).more hB.size) ⟨by omega, by omega⟩ b0 (by omega)).mono ?_
  rintro e w1 ⟨l1, rfl, el1, hl1, hb⟩
  have El1 := Lib.hid el1; clear el1
  have S1 := Lib.hid hb.size
  replace hB := below_step hB hb
  clear hb
  go_wp2_with fail
  refine (toRs_any _ _ _ d0 _ ((r0.below hB).more hB.size) s0).mono ?_
  rintro e w2 ⟨Q1, q1, rfl, o1, hb⟩
  have S2 := Lib.hid hb.size
  replace hB := below_step hB hb
  clear hb
  go_wp2_with fail
  refine (toInt64S_any _ _ _ z1 _ ((r1.below hB).more hB.size) s1).mono ?_
  rintro e w3 ⟨g2, rfl, o2, hb⟩
  replace o2 := ObjI.mk' o2
  replace o1 := o1.on hb
  have S3 := Lib.hid hb.size
  replace hB := below_step hB hb
  clear hb
  go_wp2_with fail
  refine (spec_ProofOf _ _ _ d0 _ _ _ z1 z2 z3 _ o1.rd s0 b0.1 o2.rd s1 b1 b2 b3).mono ?_
  rintro e w4 ⟨vw0, rfl, ow0, hb⟩
  clear o1
  clear o2
  have S4 := Lib.hid hb.size
  replace hB := below_step hB hb
  clear hb
  replace ow0 := ObjI.mk' ow0
  obtain ⟨Aw0, cw0, rfl⟩ := ow0.form
  have Lw0 := Lib.hid (ProofOf_len d0 z1 z2 z3)
  go_wp2_with fail
  refine (toRs_any _ _ _ d0 _ ((r0.below hB).more hB.size) s0).mono ?_
  rintro e w5 ⟨Q3, q3, rfl, o3, hb⟩
  replace ow0 := ow0.on hb
  have S5 := Lib.hid hb.size
  replace hB := below_step hB hb
  clear hb
  go_wp2_with fail
  refine (toInt64S_any _ _ _ z1 _ ((r1.below hB).more hB.size) s1).mono ?_
  rintro e w6 ⟨g4, rfl, o4, hb⟩
  replace o4 := ObjI.mk' o4
  replace ow0 := ow0.on hb
  replace o3 := o3.on hb
  have S6 := Lib.hid hb.size
  replace hB := below_step hB hb
  clear hb
  go_wp2_with fail
  refine (impl_ProofOf _ _ _ d0 _ _ _ z1 z2 z3 _ o3.rd s0 b0.1 o4.rd s1 b1 b2 b3).mono ?_
  rintro e w7 ⟨vg0, rfl, og0, hb⟩
  replace ow0 := ow0.on hb
  replace o3 := o3.on hb
  replace o4 := o4.on hb
  have S7 := Lib.hid hb.size
  replace hB := below_step hB hb
  clear hb
  replace og0 := ObjI.mk' og0
  obtain ⟨Ag0, cg0, rfl⟩ := og0.form
  have Lg0 := Lib.hid (ProofOf_len d0 z1 z2 z3)
  go_wp2_with fail
  refine (eqInt64S_yes _ _ _ _ _ (ProofOf_r0 d0 z1 z2 z3) _ og0.rd ow0.rd (by have := Lg0.out; omega)).mono ?_
  rintro e w8 ⟨rfl, hb⟩
  replace ow0 := ow0.on hb
  replace o3 := o3.on hb
  replace o4 := o4.on hb
  replace og0 := og0.on hb
  have S8 := Lib.hid hb.size
  replace hB := below_step hB hb
  clear hb
  go_wp2_with fail
  refine (toRs_any _ _ _ d0 _ ((r0.below hB).more hB.size) s0).mono ?_
  rintro e w9 ⟨Q5, q5, rfl, o5, hb⟩
  replace ow0 := ow0.on hb
  replace o3 := o3.on hb
  replace o4 := o4.on hb
  replace og0 := og0.on hb
  have S9 := Lib.hid hb.size
  replace hB := below_step hB hb
  clear hb
  go_wp2_with fail
  refine (eqRs_yes _ _ _ _ _ d0 _ o3.rd o5.rd (by have := s0; omega)).mono ?_
  rintro e w10 ⟨rfl, hb⟩
  clear o5
  replace ow0 := ow0.on hb
  replace o3 := o3.on hb
  replace o4 := o4.on hb
  replace og0 := og0.on hb
  have S10 := Lib.hid hb.size
  replace hB := below_step hB hb
  clear hb
  go_wp2_with fail
  refine (toInt64S_any _ _ _ z1 _ ((r1.below hB).more hB.size) s1).mono ?_
  rintro e w11 ⟨g6, rfl, o6, hb⟩
  replace o6 := ObjI.mk' o6
  replace ow0 := ow0.on hb
  replace o3 := o3.on hb
  replace o4 := o4.on hb
  replace og0 := og0.on hb
  have S11 := Lib.hid hb.size
  replace hB := below_step hB hb
  clear hb
  go_wp2_with fail
  refine (eqInt64S_yes _ _ _ _ _ z1 _ o4.rd o6.rd (by have := s1; omega)).mono ?_
  rintro e w12 ⟨rfl, hb⟩
  clear o6
  replace ow0 := ow0.on hb
  replace o3 := o3.on hb
  replace o4 := o4.on hb
  replace og0 := og0.on hb
  have S12 := Lib.hid hb.size
  replace hB := below_step hB hb
  clear hb
  go_wp2_with fail
  refine (markRs_any _ _ _ _ _ d0 _ o3 (by have := s0; omega) (by omega) (by omega)).mono ?_
  rintro e w13 ⟨rfl, p, hO⟩
  clear o3
  replace ow0 := ow0.only hO (by have := S1.out; have := S2.out; have := S3.out; have := S4.out; have := S5.out; have := S6.out; have := S7.out; have := S8.out; have := S9.out; have := S10.out; have := S11.out; have := S12.out; omega)
  replace o4 := o4.only hO (by have := S1.out; have := S2.out; have := S3.out; have := S4.out; have := S5.out; have := S6.out; have := S7.out; have := S8.out; have := S9.out; have := S10.out; have := S11.out; have := S12.out; omega)
  replace og0 := og0.only hO (by have := S1.out; have := S2.out; have := S3.out; have := S4.out; have := S5.out; have := S6.out; have := S7.out; have := S8.out; have := S9.out; have := S10.out; have := S11.out; have := S12.out; omega)
  have S13 := Lib.hid hO.size
  replace hB := below_only hB hO (by have := S1.out; have := S2.out; have := S3.out; have := S4.out; have := S5.out; have := S6.out; have := S7.out; have := S8.out; have := S9.out; have := S10.out; have := S11.out; have := S12.out; omega)
  clear hO
  have o3 := p; clear p
  go_wp2_with fail
  refine (markI_any _ _ _ _ _ z1 _ o4 (by have := s1; omega) (by have := s0; have := tot_sz d0; omega) (by have := s0; have := tot_sz d0; omega)).mono ?_
  rintro e w14 ⟨rfl, p, hO⟩
  clear o4
  replace ow0 := ow0.only hO (by have := S1.out; have := S2.out; have := S3.out; have := S4.out; have := S5.out; have := S6.out; have := S7.out; have := S8.out; have := S9.out; have := S10.out; have := S11.out; have := S12.out; have := S13.out; omega)
  replace og0 := og0.only hO (by have := S1.out; have := S2.out; have := S3.out; have := S4.out; have := S5.out; have := S6.out; have := S7.out; have := S8.out; have := S9.out; have := S10.out; have := S11.out; have := S12.out; have := S13.out; omega)
  replace o3 := o3.only hO (by have := S1.out; have := S2.out; have := S3.out; have := S4.out; have := S5.out; have := S6.out; have := S7.out; have := S8.out; have := S9.out; have := S10.out; have := S11.out; have := S12.out; have := S13.out; omega)
  have S14 := Lib.hid hO.size
  replace hB := below_only hB hO (by have := S1.out; have := S2.out; have := S3.out; have := S4.out; have := S5.out; have := S6.out; have := S7.out; have := S8.out; have := S9.out; have := S10.out; have := S11.out; have := S12.out; have := S13.out; omega)
  clear hO
  have o4 := p; clear p
  go_wp2_with fail
  refine (eqInt64S_yes _ _ _ _ _ (ProofOf_r0 d0 z1 z2 z3) _ og0.rd ow0.rd (by have := Lg0.out; omega)).mono ?_
  rintro e w15 ⟨rfl, hb⟩
  replace ow0 := ow0.on hb
  replace og0 := og0.on hb
  replace o3 := o3.on hb
  replace o4 := o4.on hb
  have S15 := Lib.hid hb.size
  replace hB := below_step hB hb
  clear hb
  go_wp2_with fail
  refine (markI_any _ _ _ _ _ (ProofOf_r0 d0 z1 z2 z3) _ og0 (by have := Lg0.out; omega) (by omega) (by omega)).mono ?_
  rintro e w16 ⟨rfl, p, hO⟩
  clear og0
  replace ow0 := ow0.only hO (by have := S1.out; have := S2.out; have := S3.out; have := S4.out; have := S5.out; have := S6.out; have := S7.out; have := S8.out; have := S9.out; have := S10.out; have := S11.out; have := S12.out; have := S13.out; have := S14.out; have := S15.out; omega)
  replace o3 := o3.only hO (by have := S1.out; have := S2.out; have := S3.out; have := S4.out; have := S5.out; have := S6.out; have := S7.out; have := S8.out; have := S9.out; have := S10.out; have := S11.out; have := S12.out; have := S13.out; have := S14.out; have := S15.out; omega)
  replace o4 := o4.only hO (by have := S1.out; have := S2.out; have := S3.out; have := S4.out; have := S5.out; have := S6.out; have := S7.out; have := S8.out; have := S9.out; have := S10.out; have := S11.out; have := S12.out; have := S13.out; have := S14.out; have := S15.out; omega)
  have S16 := Lib.hid hO.size
  replace hB := below_only hB hO (by have := S1.out; have := S2.out; have := S3.out; have := S4.out; have := S5.out; have := S6.out; have := S7.out; have := S8.out; have := S9.out; have := S10.out; have := S11.out; have := S12.out; have := S13.out; have := S14.out; have := S15.out; omega)
  clear hO
  have og0 := p; clear p
  go_wp2_with fail
  refine (heldInt64S_any _ _ _ _ _ og0.rd (by have := Lg0.out; omega) (by omega) (by omega)).mono ?_
  rintro e w0 ⟨rfl, rfl⟩
  go_wp2_with fail
  refine (toRs_any _ _ _ d0 _ ((r0.below hB).more hB.size) s0).mono ?_
  rintro e w17 ⟨Q7, q7, rfl, o7, hb⟩
  replace ow0 := ow0.on hb
  replace o3 := o3.on hb
  replace o4 := o4.on hb
  replace og0 := og0.on hb
  have S17 := Lib.hid hb.size
  replace hB := below_step hB hb
  clear hb
  go_wp2_with fail
  refine (toInt64S_any _ _ _ z1 _ ((r1.below hB).more hB.size) s1).mono ?_
  rintro e w18 ⟨g8, rfl, o8, hb⟩
  replace o8 := ObjI.mk' o8
  replace ow0 := ow0.on hb
  replace o3 := o3.on hb
  replace o4 := o4.on hb
  replace og0 := og0.on hb
  replace o7 := o7.on hb
  have S18 := Lib.hid hb.size
  replace hB := below_step hB hb
  clear hb
  go_wp2_with fail
  refine (impl_ProofOf _ _ _ d0 _ _ _ z1 z2 z3 _ o7.rd s0 b0.1 o8.rd s1 b1 b2 b3).mono ?_
  rintro e w19 ⟨vh0, rfl, oh0, hb⟩
  clear o7
  clear o8
  replace ow0 := ow0.on hb
  replace o3 := o3.on hb
  replace o4 := o4.on hb
  replace og0 := og0.on hb
  have S19 := Lib.hid hb.size
  replace hB := below_step hB hb
  clear hb
  replace oh0 := ObjI.mk' oh0
  obtain ⟨Ah0, ch0, rfl⟩ := oh0.form
  have Lh0 := Lib.hid (ProofOf_len d0 z1 z2 z3)
  go_wp2_with fail
  refine (eqInt64S_yes _ _ _ _ _ (ProofOf_r0 d0 z1 z2 z3) _ oh0.rd ow0.rd (by have := Lh0.out; omega)).mono ?_
  rintro e w20 ⟨rfl, hb⟩
  replace ow0 := ow0.on hb
  replace o3 := o3.on hb
  replace o4 := o4.on hb
  replace og0 := og0.on hb
  replace oh0 := oh0.on hb
  have S20 := Lib.hid hb.size
  replace hB := below_step hB hb
  clear hb
  go_wp2_with fail
  refine (heldInt64S_any _ _ _ _ _ og0.rd (by have := Lg0.out; omega) (by omega) (by omega)).mono ?_
  rintro e w0 ⟨rfl, rfl⟩
  go_wp2_with fail
  go_ret
  exact ⟨rfl, hB⟩
theorem lawProofOf_walk (A0 : Option Addr) (m0 c0 : Nat) (d0 : List Rl) (A1 : Option Addr) (m1 c1 : Nat) (z1 : List Int) (z2 : Int) (z3 : Int) (W : World) (r0 : RsRd W W.heap.size A0 m0 d0) (b0 : (∀ d ∈ d0, RlB d) ∧ m0 ≤ 9223372036854775807) (r1 : Rd W W.heap.size 1 A1 m1 (ints z1)) (b1 : I64s z1) (b2 : -9223372036854775808 ≤ z2 ∧ z2 ≤ 9223372036854775807) (b3 : -9223372036854775808 ≤ z3 ∧ z3 ≤ 9223372036854775807) :
    Calls Try.prog 9 #[.slice A0 m0 c0, .slice A1 m1 c1, .int .i64 z2, .int .i64 z3] W fun e w' => e = .returned (.bool true) ∧ Below W.heap.size W w' := by
  by_cases y0 : m1 ≤ 1048576
  case neg => exact lawProofOf_walk_long0 A0 m0 c0 d0 A1 m1 c1 z1 z2 z3 W r0 b0 r1 b1 b2 b3  (by omega)
  by_cases y1 : szD d0 ≤ 1048576
  case neg => exact lawProofOf_walk_long1 A0 m0 c0 d0 A1 m1 c1 z1 z2 z3 W r0 b0 r1 b1 b2 b3 y0 (by omega)
  exact lawProofOf_walk_short A0 m0 c0 d0 A1 m1 c1 z1 z2 z3 W r0 b0 r1 b1 b2 b3 y0 y1
set_option maxRecDepth 100000 in
theorem lawProofOf_lifted (os : Os) (started : os.Started) (H : Type) (enc : TypeId × Value → H) :
    ReturnsInHanded {} Try.checked os 9 .any (Rows.fnExactProofOfSpec.pre6 enc Try.prog Try.f9 Rows.fnExactProofOfRow.domain false) (Rows.fnExactProofOfSpec.post enc Try.prog Try.f9 false true false false) := by
  refine returnsInHanded_of_change (C := Try.checked) own_knob started (by kernel_rfl) Try.func9
    (ChangeSpec.witness6 (enc := enc) (C := Try.checked) false ⟨#[], #[.slice none 0 0, .slice none 0 0, .int .i64 0, .int .i64 0], []⟩ 8 (by kernel_rfl) (by kernel_rfl) (by kernel_rfl) (by kernel_rfl)) ?_
  intro W base args ds gs before hval0 hW hcnd _
  have hval : ∀ (j : Nat) t v, Try.f9.params[j]? = some t → args[j]? = some v → Value.okWide Try.prog W .any base t v := hval0
  have hW' := hW
  obtain ⟨p, q, hA0, hV, rfl, hfz, hnd⟩ := hW
  have hA : DataW.TrodAll enc Try.prog W 0 (fun _ => true) true Try.f9.params.toList args.toList ds p := hA0
  rw [Try.params9] at hA hval
  obtain ⟨v0, vs0, d0, ds0, p0, q0, hargs, rfl, rfl, h0, u0⟩ := trodAll_cons hA
  obtain ⟨v1, vs1, d1, ds1, p1, q1, rfl, rfl, rfl, h1, u1⟩ := trodAll_cons u0
  obtain ⟨v2, vs2, d2, ds2, p2, q2, rfl, rfl, rfl, h2, u2⟩ := trodAll_cons u1
  obtain ⟨v3, vs3, d3, ds3, p3, q3, rfl, rfl, rfl, h3, u3⟩ := trodAll_cons u2
  obtain ⟨rfl, rfl, rfl⟩ := trodAll_nil u3
  obtain rfl : args = #[v0, v1, v2, v3] := by cases args; simp_all
  obtain ⟨A0, m0, c0, rs0, hrs0⟩ := open_rd_rules Try.underlying22 Try.underlying51 (by kernel_rfl) rfl rfl rfl rfl rfl (by kernel_rfl) (by kernel_rfl) (by kernel_rfl) (by kernel_rfl) (by kernel_rfl) Try.underlying2 Try.underlying24 Try.underlying2 Try.underlying2 Try.underlying2 Try.underlying2 (by kernel_rfl) (hval 0 22 v0 rfl rfl) h0
  obtain ⟨rfl, r0, b0⟩ := open_rs (enc := enc) hrs0
  obtain ⟨A1, m1, c1, z1, rfl, r1, b1⟩ := open_rd_ints Try.underlying24 Try.underlying2 cells_i64 (hval 1 24 v1 rfl rfl) h1
  obtain ⟨z2, rfl, rfl, rfl, b2'⟩ := open_int Try.underlying2 (hval 2 2 v2 rfl rfl) h2
  have b2 := i64_bounds b2'
  obtain ⟨z3, rfl, rfl, rfl, b3'⟩ := open_int Try.underlying2 (hval 3 2 v3 rfl rfl) h3
  have b3 := i64_bounds b3'
  clear hA0 hval0
  refine (lawProofOf_walk A0 m0 c0 (rs0.map Ru.dat) A1 m1 c1 z1 z2 z3 W r0 b0 r1 b1 b2 b3).mono fun e W' ⟨he, hb⟩ => ?_
  subst he
  exact ⟨_, rfl, post_true 4 Try.underlying4 (by kernel_rfl) laid_out (by kernel_rfl) rfl rfl hW' hb⟩
theorem lawProofOf_over : Rows.fnExactProofOfRow.holds Try.pinned (OpenSpec.ofChange Rows.fnExactProofOfSpec) :=
  OpenClaim.holds_of_wide 9 Try.f9 rfl rfl rfl rfl rfl rfl rfl ⟨rfl, rfl, rfl, rfl, rfl⟩ rfl rfl rfl rfl rfl (by kernel_rfl) Try.func9 (by kernel_rfl)
    (of_decide_eq_true (by kernel_rfl)) (by unfold Func.isWrapper; first | (rw [if_pos (by decide +kernel)]; kernel_rfl) | (rw [if_neg (by decide +kernel)]; exact ⟨rfl, rfl⟩))
    (fun os started H enc _ => lawProofOf_lifted os started H enc)
theorem lawProofOf_proved : Rows.FnExactProofOfSaid := lawProofOf_over
#print axioms lawProofOf_proved
end Go.Proofs.Ytinocfehjdlohaa
