/-
  THE LAW FnExactSplitPoints: for every input the program's SplitPoints returns what the reference's returns, and changes no argument. Conditions: none.
-/
import Derived.Test.YtpealngmghcmdaaSplit
import Derived.Test.YtpealngmghcmdaaFrame
import Derived.Test.YtpealngmghcmdaaLawI
namespace Go.Proofs.Ytpealngmghcmdaa
open Go.ChangeShapes Go.WideShapes Go.ChangeAt Go.RowKit
set_option linter.unusedVariables false
set_option maxHeartbeats 400000 in
theorem lawSplitPoints_walk_long0 (A0 : Option Addr) (n0 c0 : Nat) (z0 : List Int) (A1 : Option Addr) (n1 c1 : Nat) (z1 : List Int) (z2 : Int) (z3 : Int) (W : World) (r0 : Rd W W.heap.size 1 A0 n0 (ints z0)) (b0 : I64s z0) (r1 : Rd W W.heap.size 1 A1 n1 (ints z1)) (b1 : I64s z1) (b2 : -9223372036854775808 ≤ z2 ∧ z2 ≤ 9223372036854775807) (b3 : -9223372036854775808 ≤ z3 ∧ z3 ≤ 9223372036854775807) (m0 : 1048576 < n0) :
    Calls Try.prog 8 #[.slice A0 n0 c0, .slice A1 n1 c1, .int .i64 z2, .int .i64 z3] W fun e w' => e = .returned (.bool true) ∧ Below W.heap.size W w' := by
  go_enter Try.func8, Try.ntmps8
  go_wp2_with fail
  go_ret
  exact ⟨rfl, Below.refl _ _⟩
set_option maxHeartbeats 400000 in
theorem lawSplitPoints_walk_long1 (A0 : Option Addr) (n0 c0 : Nat) (z0 : List Int) (A1 : Option Addr) (n1 c1 : Nat) (z1 : List Int) (z2 : Int) (z3 : Int) (W : World) (r0 : Rd W W.heap.size 1 A0 n0 (ints z0)) (b0 : I64s z0) (r1 : Rd W W.heap.size 1 A1 n1 (ints z1)) (b1 : I64s z1) (b2 : -9223372036854775808 ≤ z2 ∧ z2 ≤ 9223372036854775807) (b3 : -9223372036854775808 ≤ z3 ∧ z3 ≤ 9223372036854775807) (m0 : n0 ≤ 1048576) (m1 : 1048576 < n1) :
    Calls Try.prog 8 #[.slice A0 n0 c0, .slice A1 n1 c1, .int .i64 z2, .int .i64 z3] W fun e w' => e = .returned (.bool true) ∧ Below W.heap.size W w' := by
  go_enter Try.func8, Try.ntmps8
  go_wp2_with fail
  go_ret
  exact ⟨rfl, Below.refl _ _⟩
set_option maxRecDepth 100000 in
set_option maxHeartbeats 3200000 in
theorem lawSplitPoints_walk_short (A0 : Option Addr) (n0 c0 : Nat) (z0 : List Int) (A1 : Option Addr) (n1 c1 : Nat) (z1 : List Int) (z2 : Int) (z3 : Int) (W : World) (r0 : Rd W W.heap.size 1 A0 n0 (ints z0)) (b0 : I64s z0) (r1 : Rd W W.heap.size 1 A1 n1 (ints z1)) (b1 : I64s z1) (b2 : -9223372036854775808 ≤ z2 ∧ z2 ≤ 9223372036854775807) (b3 : -9223372036854775808 ≤ z3 ∧ z3 ≤ 9223372036854775807) (m0 : n0 ≤ 1048576) (m1 : n1 ≤ 1048576) :
    Calls Try.prog 8 #[.slice A0 n0 c0, .slice A1 n1 c1, .int .i64 z2, .int .i64 z3] W fun e w' => e = .returned (.bool true) ∧ Below W.heap.size W w' := by
  have hB : Below W.heap.size W W := Below.refl _ _
  go_enter Try.func8, Try.ntmps8
  have hS := hB.size
  go_wp2_with fail
  refine (toInt64S_any _ _ _ z0 _ ((r0.below hB).more hB.size) m0).mono ?_
  rintro e w1 ⟨g1, rfl, o1, hb⟩
  replace o1 := own_base o1 hS
  replace hB := below_step hB hb
  clear hb
  clear hS
  have hS := hB.size
  go_wp2_with fail
  refine (toInt64S_any _ _ _ z1 _ ((r1.below hB).more hB.size) m1).mono ?_
  rintro e w2 ⟨g2, rfl, o2, hb⟩
  replace o2 := own_base o2 hS
  replace o1 := own_on o1 hb
  replace hB := below_step hB hb
  clear hb
  clear hS
  have hS := hB.size
  go_wp2_with fail
  refine (spec_SplitPoints _ _ _ z0 _ _ _ z1 z2 z3 _ (Rd.of_own o1) m0 b0 (Rd.of_own o2) m1 b1 b2 b3).mono ?_
  rintro e w3 ⟨vw0, vw1, rfl, o_w0, o_w1, ap_new, hb⟩
  have ap_o_w1_o_w0 := ap_new
  clear ap_new
  replace o_w0 := own_base o_w0 hS
  replace o_w1 := own_base o_w1 hS
  replace o1 := own_on o1 hb
  replace o2 := own_on o2 hb
  replace hB := below_step hB hb
  clear hb
  clear hS
  clear o1
  clear o2
  obtain ⟨Ao_w0, co_w0, rfl, _⟩ := own_form o_w0
  obtain ⟨Ao_w1, co_w1, rfl, _⟩ := own_form o_w1
  have hS := hB.size
  go_wp2_with fail
  refine (toInt64S_any _ _ _ z0 _ ((r0.below hB).more hB.size) m0).mono ?_
  rintro e w4 ⟨g3, rfl, o3, hb⟩
  have ap_o3_o_w0 := own_apart o_w0 o3; have ap_o3_o_w1 := own_apart o_w1 o3; replace o3 := own_base o3 hS
  replace o_w0 := own_on o_w0 hb
  replace o_w1 := own_on o_w1 hb
  replace hB := below_step hB hb
  clear hb
  clear hS
  have hS := hB.size
  go_wp2_with fail
  refine (toInt64S_any _ _ _ z1 _ ((r1.below hB).more hB.size) m1).mono ?_
  rintro e w5 ⟨g4, rfl, o4, hb⟩
  have ap_o4_o_w0 := own_apart o_w0 o4; have ap_o4_o_w1 := own_apart o_w1 o4; have ap_o4_o3 := own_apart o3 o4; replace o4 := own_base o4 hS
  replace o_w0 := own_on o_w0 hb
  replace o_w1 := own_on o_w1 hb
  replace o3 := own_on o3 hb
  replace hB := below_step hB hb
  clear hb
  clear hS
  have hS := hB.size
  go_wp2_with fail
  refine (impl_SplitPoints _ _ _ z0 _ _ _ z1 z2 z3 _ (Rd.of_own o3) m0 b0 (Rd.of_own o4) m1 b1 b2 b3).mono ?_
  rintro e w6 ⟨vg0, vg1, rfl, o_g0, o_g1, ap_new, hb⟩
  have ap_o_g0_o_w0 := own_apart o_w0 o_g0
  have ap_o_g0_o_w1 := own_apart o_w1 o_g0
  have ap_o_g0_o3 := own_apart o3 o_g0
  have ap_o_g0_o4 := own_apart o4 o_g0
  have ap_o_g1_o_w0 := own_apart o_w0 o_g1
  have ap_o_g1_o_w1 := own_apart o_w1 o_g1
  have ap_o_g1_o3 := own_apart o3 o_g1
  have ap_o_g1_o4 := own_apart o4 o_g1
  have ap_o_g1_o_g0 := ap_new
  clear ap_new
  replace o_g0 := own_base o_g0 hS
  replace o_g1 := own_base o_g1 hS
  replace o_w0 := own_on o_w0 hb
  replace o_w1 := own_on o_w1 hb
  replace o3 := own_on o3 hb
  replace o4 := own_on o4 hb
  replace hB := below_step hB hb
  clear hb
  clear hS
  obtain ⟨Ao_g0, co_g0, rfl, _⟩ := own_form o_g0
  obtain ⟨Ao_g1, co_g1, rfl, _⟩ := own_form o_g1
  go_wp2_with fail
  refine (eqInt64S_yes _ _ _ _ _ _ _ (Rd.of_own o_g0) (Rd.of_own o_w0) (by have := (SplitPoints_len0 z0 z1 z2 z3); omega)).mono ?_
  rintro e w7 ⟨rfl, hb⟩
  replace o_w0 := own_on o_w0 hb
  replace o_w1 := own_on o_w1 hb
  replace o3 := own_on o3 hb
  replace o4 := own_on o4 hb
  replace o_g0 := own_on o_g0 hb
  replace o_g1 := own_on o_g1 hb
  replace hB := below_step hB hb
  clear hb
  go_wp2_with fail
  refine (eqInt64S_yes _ _ _ _ _ _ _ (Rd.of_own o_g1) (Rd.of_own o_w1) (by have := (SplitPoints_len1 z0 z1 z2 z3); omega)).mono ?_
  rintro e w8 ⟨rfl, hb⟩
  replace o_w0 := own_on o_w0 hb
  replace o_w1 := own_on o_w1 hb
  replace o3 := own_on o3 hb
  replace o4 := own_on o4 hb
  replace o_g0 := own_on o_g0 hb
  replace o_g1 := own_on o_g1 hb
  replace hB := below_step hB hb
  clear hb
  have hS := hB.size
  go_wp2_with fail
  refine (toInt64S_any _ _ _ z0 _ ((r0.below hB).more hB.size) m0).mono ?_
  rintro e w9 ⟨g5, rfl, o5, hb⟩
  replace o5 := own_base o5 hS
  replace o_w0 := own_on o_w0 hb
  replace o_w1 := own_on o_w1 hb
  replace o3 := own_on o3 hb
  replace o4 := own_on o4 hb
  replace o_g0 := own_on o_g0 hb
  replace o_g1 := own_on o_g1 hb
  replace hB := below_step hB hb
  clear hb
  clear hS
  go_wp2_with fail
  refine (eqInt64S_yes _ _ _ _ _ _ _ (Rd.of_own o3) (Rd.of_own o5) (by have := m0; omega)).mono ?_
  rintro e w10 ⟨rfl, hb⟩
  replace o_w0 := own_on o_w0 hb
  replace o_w1 := own_on o_w1 hb
  replace o3 := own_on o3 hb
  replace o4 := own_on o4 hb
  replace o_g0 := own_on o_g0 hb
  replace o_g1 := own_on o_g1 hb
  replace o5 := own_on o5 hb
  replace hB := below_step hB hb
  clear hb
  clear o5
  have hS := hB.size
  go_wp2_with fail
  refine (toInt64S_any _ _ _ z1 _ ((r1.below hB).more hB.size) m1).mono ?_
  rintro e w11 ⟨g6, rfl, o6, hb⟩
  replace o6 := own_base o6 hS
  replace o_w0 := own_on o_w0 hb
  replace o_w1 := own_on o_w1 hb
  replace o3 := own_on o3 hb
  replace o4 := own_on o4 hb
  replace o_g0 := own_on o_g0 hb
  replace o_g1 := own_on o_g1 hb
  replace hB := below_step hB hb
  clear hb
  clear hS
  go_wp2_with fail
  refine (eqInt64S_yes _ _ _ _ _ _ _ (Rd.of_own o4) (Rd.of_own o6) (by have := m1; omega)).mono ?_
  rintro e w12 ⟨rfl, hb⟩
  replace o_w0 := own_on o_w0 hb
  replace o_w1 := own_on o_w1 hb
  replace o3 := own_on o3 hb
  replace o4 := own_on o4 hb
  replace o_g0 := own_on o_g0 hb
  replace o_g1 := own_on o_g1 hb
  replace o6 := own_on o6 hb
  replace hB := below_step hB hb
  clear hb
  clear o6
  go_wp2_with fail
  refine (markInt64S_any _ _ _ _ _ _ o3 (by have := m0; omega) (by omega) (by omega)).mono ?_
  rintro e w13 ⟨rfl, p_o3, hg⟩
  replace o_w0 := World.ownsRow.kept o_w0 hg (ap_o3_o_w0.2)
  replace o_w1 := World.ownsRow.kept o_w1 hg (ap_o3_o_w1.2)
  replace o4 := World.ownsRow.kept o4 hg (ap_o4_o3.1)
  replace o_g0 := World.ownsRow.kept o_g0 hg (ap_o_g0_o3.1)
  replace o_g1 := World.ownsRow.kept o_g1 hg (ap_o_g1_o3.1)
  replace hB := below_grown hB hg (fun k hk => (p_o3.lt k hk).1)
  clear hg o3
  have o3 := p_o3; clear p_o3
  go_wp2_with fail
  refine (markInt64S_any _ _ _ _ _ _ o4 (by have := m1; omega) (by have := m0; omega) (by have := m0; omega)).mono ?_
  rintro e w14 ⟨rfl, p_o4, hg⟩
  replace o_w0 := World.ownsRow.kept o_w0 hg (ap_o4_o_w0.2)
  replace o_w1 := World.ownsRow.kept o_w1 hg (ap_o4_o_w1.2)
  replace o3 := World.ownsRow.kept o3 hg (ap_o4_o3.2)
  replace o_g0 := World.ownsRow.kept o_g0 hg (ap_o_g0_o4.1)
  replace o_g1 := World.ownsRow.kept o_g1 hg (ap_o_g1_o4.1)
  replace hB := below_grown hB hg (fun k hk => (p_o4.lt k hk).1)
  clear hg o4
  have o4 := p_o4; clear p_o4
  go_wp2_with fail
  refine (eqInt64S_yes _ _ _ _ _ _ _ (Rd.of_own o_g0) (Rd.of_own o_w0) (by have := (SplitPoints_len0 z0 z1 z2 z3); omega)).mono ?_
  rintro e w15 ⟨rfl, hb⟩
  replace o_w0 := own_on o_w0 hb
  replace o_w1 := own_on o_w1 hb
  replace o3 := own_on o3 hb
  replace o4 := own_on o4 hb
  replace o_g0 := own_on o_g0 hb
  replace o_g1 := own_on o_g1 hb
  replace hB := below_step hB hb
  clear hb
  go_wp2_with fail
  refine (eqInt64S_yes _ _ _ _ _ _ _ (Rd.of_own o_g1) (Rd.of_own o_w1) (by have := (SplitPoints_len1 z0 z1 z2 z3); omega)).mono ?_
  rintro e w16 ⟨rfl, hb⟩
  replace o_w0 := own_on o_w0 hb
  replace o_w1 := own_on o_w1 hb
  replace o3 := own_on o3 hb
  replace o4 := own_on o4 hb
  replace o_g0 := own_on o_g0 hb
  replace o_g1 := own_on o_g1 hb
  replace hB := below_step hB hb
  clear hb
  go_wp2_with fail
  refine (markInt64S_any _ _ _ _ _ _ o_g0 (by have := (SplitPoints_len0 z0 z1 z2 z3); omega) (by omega) (by omega)).mono ?_
  rintro e w17 ⟨rfl, p_o_g0, hg⟩
  replace o_w0 := World.ownsRow.kept o_w0 hg (ap_o_g0_o_w0.2)
  replace o_w1 := World.ownsRow.kept o_w1 hg (ap_o_g0_o_w1.2)
  replace o3 := World.ownsRow.kept o3 hg (ap_o_g0_o3.2)
  replace o4 := World.ownsRow.kept o4 hg (ap_o_g0_o4.2)
  replace o_g1 := World.ownsRow.kept o_g1 hg (ap_o_g1_o_g0.1)
  replace hB := below_grown hB hg (fun k hk => (p_o_g0.lt k hk).1)
  clear hg o_g0
  have o_g0 := p_o_g0; clear p_o_g0
  go_wp2_with fail
  refine (markInt64S_any _ _ _ _ _ _ o_g1 (by have := (SplitPoints_len1 z0 z1 z2 z3); omega) (by have := (SplitPoints_len0 z0 z1 z2 z3); omega) (by have := (SplitPoints_len0 z0 z1 z2 z3); omega)).mono ?_
  rintro e w18 ⟨rfl, p_o_g1, hg⟩
  replace o_w0 := World.ownsRow.kept o_w0 hg (ap_o_g1_o_w0.2)
  replace o_w1 := World.ownsRow.kept o_w1 hg (ap_o_g1_o_w1.2)
  replace o3 := World.ownsRow.kept o3 hg (ap_o_g1_o3.2)
  replace o4 := World.ownsRow.kept o4 hg (ap_o_g1_o4.2)
  replace o_g0 := World.ownsRow.kept o_g0 hg (ap_o_g1_o_g0.2)
  replace hB := below_grown hB hg (fun k hk => (p_o_g1.lt k hk).1)
  clear hg o_g1
  have o_g1 := p_o_g1; clear p_o_g1
  go_wp2_with fail
  refine (heldInt64S_any _ _ _ _ _ (Rd.of_own o_g0) (by have := (SplitPoints_len0 z0 z1 z2 z3); omega) (by omega) (by omega)).mono ?_
  rintro e w19 ⟨rfl, rfl⟩
  go_wp2_with fail
  refine (heldInt64S_any _ _ _ _ _ (Rd.of_own o_g1) (by have := (SplitPoints_len1 z0 z1 z2 z3); omega) (by have := (SplitPoints_len0 z0 z1 z2 z3); omega) (by have := (SplitPoints_len0 z0 z1 z2 z3); omega)).mono ?_
  rintro e w20 ⟨rfl, rfl⟩
  have hS := hB.size
  go_wp2_with fail
  refine (toInt64S_any _ _ _ z0 _ ((r0.below hB).more hB.size) m0).mono ?_
  rintro e w21 ⟨g7, rfl, o7, hb⟩
  replace o7 := own_base o7 hS
  replace o_w0 := own_on o_w0 hb
  replace o_w1 := own_on o_w1 hb
  replace o3 := own_on o3 hb
  replace o4 := own_on o4 hb
  replace o_g0 := own_on o_g0 hb
  replace o_g1 := own_on o_g1 hb
  replace hB := below_step hB hb
  clear hb
  clear hS
  have hS := hB.size
  go_wp2_with fail
  refine (toInt64S_any _ _ _ z1 _ ((r1.below hB).more hB.size) m1).mono ?_
  rintro e w22 ⟨g8, rfl, o8, hb⟩
  replace o8 := own_base o8 hS
  replace o_w0 := own_on o_w0 hb
  replace o_w1 := own_on o_w1 hb
  replace o3 := own_on o3 hb
  replace o4 := own_on o4 hb
  replace o_g0 := own_on o_g0 hb
  replace o_g1 := own_on o_g1 hb
  replace o7 := own_on o7 hb
  replace hB := below_step hB hb
  clear hb
  clear hS
  have hS := hB.size
  go_wp2_with fail
  refine (impl_SplitPoints _ _ _ z0 _ _ _ z1 z2 z3 _ (Rd.of_own o7) m0 b0 (Rd.of_own o8) m1 b1 b2 b3).mono ?_
  rintro e w23 ⟨vh0, vh1, rfl, o_h0, o_h1, ap_new, hb⟩
  have ap_o_h0_o_w0 := own_apart o_w0 o_h0
  have ap_o_h0_o_w1 := own_apart o_w1 o_h0
  have ap_o_h0_o3 := own_apart o3 o_h0
  have ap_o_h0_o4 := own_apart o4 o_h0
  have ap_o_h0_o_g0 := own_apart o_g0 o_h0
  have ap_o_h0_o_g1 := own_apart o_g1 o_h0
  have ap_o_h1_o_w0 := own_apart o_w0 o_h1
  have ap_o_h1_o_w1 := own_apart o_w1 o_h1
  have ap_o_h1_o3 := own_apart o3 o_h1
  have ap_o_h1_o4 := own_apart o4 o_h1
  have ap_o_h1_o_g0 := own_apart o_g0 o_h1
  have ap_o_h1_o_g1 := own_apart o_g1 o_h1
  have ap_o_h1_o_h0 := ap_new
  clear ap_new
  replace o_h0 := own_base o_h0 hS
  replace o_h1 := own_base o_h1 hS
  replace o_w0 := own_on o_w0 hb
  replace o_w1 := own_on o_w1 hb
  replace o3 := own_on o3 hb
  replace o4 := own_on o4 hb
  replace o_g0 := own_on o_g0 hb
  replace o_g1 := own_on o_g1 hb
  replace o7 := own_on o7 hb
  replace o8 := own_on o8 hb
  replace hB := below_step hB hb
  clear hb
  clear hS
  clear o7
  clear o8
  obtain ⟨Ao_h0, co_h0, rfl, _⟩ := own_form o_h0
  obtain ⟨Ao_h1, co_h1, rfl, _⟩ := own_form o_h1
  go_wp2_with fail
  refine (eqInt64S_yes _ _ _ _ _ _ _ (Rd.of_own o_h0) (Rd.of_own o_w0) (by have := (SplitPoints_len0 z0 z1 z2 z3); omega)).mono ?_
  rintro e w24 ⟨rfl, hb⟩
  replace o_w0 := own_on o_w0 hb
  replace o_w1 := own_on o_w1 hb
  replace o3 := own_on o3 hb
  replace o4 := own_on o4 hb
  replace o_g0 := own_on o_g0 hb
  replace o_g1 := own_on o_g1 hb
  replace o_h0 := own_on o_h0 hb
  replace o_h1 := own_on o_h1 hb
  replace hB := below_step hB hb
  clear hb
  go_wp2_with fail
  refine (eqInt64S_yes _ _ _ _ _ _ _ (Rd.of_own o_h1) (Rd.of_own o_w1) (by have := (SplitPoints_len1 z0 z1 z2 z3); omega)).mono ?_
  rintro e w25 ⟨rfl, hb⟩
  replace o_w0 := own_on o_w0 hb
  replace o_w1 := own_on o_w1 hb
  replace o3 := own_on o3 hb
  replace o4 := own_on o4 hb
  replace o_g0 := own_on o_g0 hb
  replace o_g1 := own_on o_g1 hb
  replace o_h0 := own_on o_h0 hb
  replace o_h1 := own_on o_h1 hb
  replace hB := below_step hB hb
  clear hb
  go_wp2_with fail
  refine (heldInt64S_any _ _ _ _ _ (Rd.of_own o_g0) (by have := (SplitPoints_len0 z0 z1 z2 z3); omega) (by omega) (by omega)).mono ?_
  rintro e w26 ⟨rfl, rfl⟩
  go_wp2_with fail
  refine (heldInt64S_any _ _ _ _ _ (Rd.of_own o_g1) (by have := (SplitPoints_len1 z0 z1 z2 z3); omega) (by have := (SplitPoints_len0 z0 z1 z2 z3); omega) (by have := (SplitPoints_len0 z0 z1 z2 z3); omega)).mono ?_
  rintro e w27 ⟨rfl, rfl⟩
  go_wp2_with fail
  go_ret
  exact ⟨rfl, hB⟩
theorem lawSplitPoints_walk (A0 : Option Addr) (n0 c0 : Nat) (z0 : List Int) (A1 : Option Addr) (n1 c1 : Nat) (z1 : List Int) (z2 : Int) (z3 : Int) (W : World) (r0 : Rd W W.heap.size 1 A0 n0 (ints z0)) (b0 : I64s z0) (r1 : Rd W W.heap.size 1 A1 n1 (ints z1)) (b1 : I64s z1) (b2 : -9223372036854775808 ≤ z2 ∧ z2 ≤ 9223372036854775807) (b3 : -9223372036854775808 ≤ z3 ∧ z3 ≤ 9223372036854775807) :
    Calls Try.prog 8 #[.slice A0 n0 c0, .slice A1 n1 c1, .int .i64 z2, .int .i64 z3] W fun e w' => e = .returned (.bool true) ∧ Below W.heap.size W w' := by
  by_cases m0 : n0 ≤ 1048576
  case neg => exact lawSplitPoints_walk_long0 A0 n0 c0 z0 A1 n1 c1 z1 z2 z3 W r0 b0 r1 b1 b2 b3  (by omega)
  by_cases m1 : n1 ≤ 1048576
  case neg => exact lawSplitPoints_walk_long1 A0 n0 c0 z0 A1 n1 c1 z1 z2 z3 W r0 b0 r1 b1 b2 b3 m0 (by omega)
  exact lawSplitPoints_walk_short A0 n0 c0 z0 A1 n1 c1 z1 z2 z3 W r0 b0 r1 b1 b2 b3 m0 m1
set_option maxRecDepth 100000 in
theorem lawSplitPoints_lifted (os : Os) (started : os.Started) (H : Type) (enc : TypeId × Value → H) :
    ReturnsInHanded {} Try.checked os 8 .any (Rows.fnExactSplitPointsSpec.pre6 enc Try.prog Try.f8 Rows.fnExactSplitPointsRow.domain false) (Rows.fnExactSplitPointsSpec.post enc Try.prog Try.f8 false true false false) := by
  refine returnsInHanded_of_change (C := Try.checked) own_knob started (by kernel_rfl) Try.func8
    (ChangeSpec.witness6 (enc := enc) (C := Try.checked) false ⟨#[], #[.slice none 0 0, .slice none 0 0, .int .i64 0, .int .i64 0], []⟩ 8 (by kernel_rfl) (by kernel_rfl) (by kernel_rfl) (by kernel_rfl)) ?_
  intro W base args ds gs before hval0 hW hcnd _
  have hval : ∀ (j : Nat) t v, Try.f8.params[j]? = some t → args[j]? = some v → Value.okWide Try.prog W .any base t v := hval0
  have hW' := hW
  obtain ⟨p, q, hA0, hV, rfl, hfz, hnd⟩ := hW
  have hA : DataW.TrodAll enc Try.prog W 0 (fun _ => true) true Try.f8.params.toList args.toList ds p := hA0
  rw [Try.params8] at hA hval
  obtain ⟨v0, vs0, d0, ds0, p0, q0, hargs, rfl, rfl, h0, u0⟩ := trodAll_cons hA
  obtain ⟨v1, vs1, d1, ds1, p1, q1, rfl, rfl, rfl, h1, u1⟩ := trodAll_cons u0
  obtain ⟨v2, vs2, d2, ds2, p2, q2, rfl, rfl, rfl, h2, u2⟩ := trodAll_cons u1
  obtain ⟨v3, vs3, d3, ds3, p3, q3, rfl, rfl, rfl, h3, u3⟩ := trodAll_cons u2
  obtain ⟨rfl, rfl, rfl⟩ := trodAll_nil u3
  obtain rfl : args = #[v0, v1, v2, v3] := by cases args; simp_all
  obtain ⟨A0, n0, c0, z0, rfl, r0, b0⟩ := open_rd_ints Try.underlying27 Try.underlying2 cells_i64 (hval 0 27 v0 rfl rfl) h0
  obtain ⟨A1, n1, c1, z1, rfl, r1, b1⟩ := open_rd_ints Try.underlying27 Try.underlying2 cells_i64 (hval 1 27 v1 rfl rfl) h1
  obtain ⟨z2, rfl, rfl, rfl, b2'⟩ := open_int Try.underlying2 (hval 2 2 v2 rfl rfl) h2
  have b2 := i64_bounds b2'
  obtain ⟨z3, rfl, rfl, rfl, b3'⟩ := open_int Try.underlying2 (hval 3 2 v3 rfl rfl) h3
  have b3 := i64_bounds b3'
  clear hA0 hval0
  refine (lawSplitPoints_walk A0 n0 c0 z0 A1 n1 c1 z1 z2 z3 W r0 b0 r1 b1 b2 b3).mono fun e W' ⟨he, hb⟩ => ?_
  subst he
  exact ⟨_, rfl, post_true 4 Try.underlying4 (by kernel_rfl) laid_out (by kernel_rfl) rfl rfl hW' hb⟩
theorem lawSplitPoints_over : Rows.fnExactSplitPointsRow.holds Try.pinned (OpenSpec.ofChange Rows.fnExactSplitPointsSpec) :=
  OpenClaim.holds_of_wide 8 Try.f8 rfl rfl rfl rfl rfl rfl rfl ⟨rfl, rfl, rfl, rfl, rfl⟩ rfl rfl rfl rfl rfl (by kernel_rfl) Try.func8 (by kernel_rfl)
    (of_decide_eq_true (by kernel_rfl)) (by unfold Func.isWrapper; first | (rw [if_pos (by decide +kernel)]; kernel_rfl) | (rw [if_neg (by decide +kernel)]; exact ⟨rfl, rfl⟩))
    (fun os started H enc _ => lawSplitPoints_lifted os started H enc)
theorem lawSplitPoints_proved : Rows.FnExactSplitPointsSaid := lawSplitPoints_over
#print axioms lawSplitPoints_proved
end Go.Proofs.Ytpealngmghcmdaa
