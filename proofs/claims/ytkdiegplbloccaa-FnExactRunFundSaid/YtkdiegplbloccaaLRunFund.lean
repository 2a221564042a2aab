/-
  THE LAW FnExactRunFund: for every input the program's RunFund returns what the reference's returns, and changes no argument. Conditions: none.
-/
import Derived.Test.YtkdiegplbloccaaFundR
import Derived.Test.YtkdiegplbloccaaFrame
import Derived.Test.YtkdiegplbloccaaLawI
import Derived.Test.YtkdiegplbloccaaLawF
namespace Go.Proofs.Ytkdiegplbloccaa
open Go.ChangeShapes Go.WideShapes Go.ChangeAt Go.RowKit
set_option linter.unusedVariables false
set_option maxHeartbeats 400000 in
theorem lawRunFund_walk_long1 (z0 : Nat) (A1 : Option Addr) (n1 c1 : Nat) (z1 : List Nat) (A2 : Option Addr) (n2 c2 : Nat) (z2 : List Nat) (A3 : Option Addr) (n3 c3 : Nat) (z3 : List Nat) (W : World) (b0 : z0 < 4294967296) (r1 : Rd W W.heap.size 1 A1 n1 (flts z1)) (b1 : F32s z1) (r2 : Rd W W.heap.size 1 A2 n2 (flts z2)) (b2 : F32s z2) (r3 : Rd W W.heap.size 1 A3 n3 (flts z3)) (b3 : F32s z3) (m1 : 1048576 < n1) :
    Calls Try.prog 5 #[.float .f32 z0, .slice A1 n1 c1, .slice A2 n2 c2, .slice A3 n3 c3] W fun e w' => e = .returned (.bool true) ∧ Below W.heap.size W w' := by
  go_enter Try.func5, Try.ntmps5
  go_wp2_with fail
  go_ret
  exact ⟨rfl, Below.refl _ _⟩
set_option maxHeartbeats 400000 in
theorem lawRunFund_walk_long2 (z0 : Nat) (A1 : Option Addr) (n1 c1 : Nat) (z1 : List Nat) (A2 : Option Addr) (n2 c2 : Nat) (z2 : List Nat) (A3 : Option Addr) (n3 c3 : Nat) (z3 : List Nat) (W : World) (b0 : z0 < 4294967296) (r1 : Rd W W.heap.size 1 A1 n1 (flts z1)) (b1 : F32s z1) (r2 : Rd W W.heap.size 1 A2 n2 (flts z2)) (b2 : F32s z2) (r3 : Rd W W.heap.size 1 A3 n3 (flts z3)) (b3 : F32s z3) (m1 : n1 ≤ 1048576) (m2 : 1048576 < n2) :
    Calls Try.prog 5 #[.float .f32 z0, .slice A1 n1 c1, .slice A2 n2 c2, .slice A3 n3 c3] W fun e w' => e = .returned (.bool true) ∧ Below W.heap.size W w' := by
  go_enter Try.func5, Try.ntmps5
  go_wp2_with fail
  go_ret
  exact ⟨rfl, Below.refl _ _⟩
set_option maxHeartbeats 400000 in
theorem lawRunFund_walk_long3 (z0 : Nat) (A1 : Option Addr) (n1 c1 : Nat) (z1 : List Nat) (A2 : Option Addr) (n2 c2 : Nat) (z2 : List Nat) (A3 : Option Addr) (n3 c3 : Nat) (z3 : List Nat) (W : World) (b0 : z0 < 4294967296) (r1 : Rd W W.heap.size 1 A1 n1 (flts z1)) (b1 : F32s z1) (r2 : Rd W W.heap.size 1 A2 n2 (flts z2)) (b2 : F32s z2) (r3 : Rd W W.heap.size 1 A3 n3 (flts z3)) (b3 : F32s z3) (m1 : n1 ≤ 1048576) (m2 : n2 ≤ 1048576) (m3 : 1048576 < n3) :
    Calls Try.prog 5 #[.float .f32 z0, .slice A1 n1 c1, .slice A2 n2 c2, .slice A3 n3 c3] W fun e w' => e = .returned (.bool true) ∧ Below W.heap.size W w' := by
  go_enter Try.func5, Try.ntmps5
  go_wp2_with fail
  go_ret
  exact ⟨rfl, Below.refl _ _⟩
set_option maxRecDepth 100000 in
set_option maxHeartbeats 3200000 in
theorem lawRunFund_walk_short (z0 : Nat) (A1 : Option Addr) (n1 c1 : Nat) (z1 : List Nat) (A2 : Option Addr) (n2 c2 : Nat) (z2 : List Nat) (A3 : Option Addr) (n3 c3 : Nat) (z3 : List Nat) (W : World) (b0 : z0 < 4294967296) (r1 : Rd W W.heap.size 1 A1 n1 (flts z1)) (b1 : F32s z1) (r2 : Rd W W.heap.size 1 A2 n2 (flts z2)) (b2 : F32s z2) (r3 : Rd W W.heap.size 1 A3 n3 (flts z3)) (b3 : F32s z3) (m1 : n1 ≤ 1048576) (m2 : n2 ≤ 1048576) (m3 : n3 ≤ 1048576) :
    Calls Try.prog 5 #[.float .f32 z0, .slice A1 n1 c1, .slice A2 n2 c2, .slice A3 n3 c3] W fun e w' => e = .returned (.bool true) ∧ Below W.heap.size W w' := by
  have hB : Below W.heap.size W W := Below.refl _ _
  go_enter Try.func5, Try.ntmps5
  have hS := hB.size
  go_wp2_with fail
  refine (toFloat32S_any _ _ _ z1 _ ((r1.below hB).more hB.size) m1).mono ?_
  rintro e w1 ⟨g1, rfl, o1, hb⟩
  replace o1 := own_base o1 hS
  replace hB := below_step hB hb
  clear hb
  clear hS
  have hS := hB.size
  go_wp2_with fail
  refine (toFloat32S_any _ _ _ z2 _ ((r2.below hB).more hB.size) m2).mono ?_
  rintro e w2 ⟨g2, rfl, o2, hb⟩
  replace o2 := own_base o2 hS
  replace o1 := own_on o1 hb
  replace hB := below_step hB hb
  clear hb
  clear hS
  have hS := hB.size
  go_wp2_with fail
  refine (toFloat32S_any _ _ _ z3 _ ((r3.below hB).more hB.size) m3).mono ?_
  rintro e w3 ⟨g3, rfl, o3, hb⟩
  replace o3 := own_base o3 hS
  replace o1 := own_on o1 hb
  replace o2 := own_on o2 hb
  replace hB := below_step hB hb
  clear hb
  clear hS
  have hS := hB.size
  go_wp2_with fail
  refine (spec_RunFund z0 _ _ _ z1 _ _ _ z2 _ _ _ z3 _ b0 (Rd.of_own o1) m1 b1 (Rd.of_own o2) m2 b2 (Rd.of_own o3) m3 b3).mono ?_
  rintro e w4 ⟨vw0, rfl, o_w0, hb⟩
  replace o_w0 := own_base o_w0 hS
  replace o1 := own_on o1 hb
  replace o2 := own_on o2 hb
  replace o3 := own_on o3 hb
  replace hB := below_step hB hb
  clear hb
  clear hS
  clear o1
  clear o2
  clear o3
  obtain ⟨Ao_w0, co_w0, rfl, _⟩ := own_form o_w0
  have hS := hB.size
  go_wp2_with fail
  refine (toFloat32S_any _ _ _ z1 _ ((r1.below hB).more hB.size) m1).mono ?_
  rintro e w5 ⟨g4, rfl, o4, hb⟩
  have ap_o4_o_w0 := own_apart o_w0 o4; replace o4 := own_base o4 hS
  replace o_w0 := own_on o_w0 hb
  replace hB := below_step hB hb
  clear hb
  clear hS
  have hS := hB.size
  go_wp2_with fail
  refine (toFloat32S_any _ _ _ z2 _ ((r2.below hB).more hB.size) m2).mono ?_
  rintro e w6 ⟨g5, rfl, o5, hb⟩
  have ap_o5_o_w0 := own_apart o_w0 o5; have ap_o5_o4 := own_apart o4 o5; replace o5 := own_base o5 hS
  replace o_w0 := own_on o_w0 hb
  replace o4 := own_on o4 hb
  replace hB := below_step hB hb
  clear hb
  clear hS
  have hS := hB.size
  go_wp2_with fail
  refine (toFloat32S_any _ _ _ z3 _ ((r3.below hB).more hB.size) m3).mono ?_
  rintro e w7 ⟨g6, rfl, o6, hb⟩
  have ap_o6_o_w0 := own_apart o_w0 o6; have ap_o6_o4 := own_apart o4 o6; have ap_o6_o5 := own_apart o5 o6; replace o6 := own_base o6 hS
  replace o_w0 := own_on o_w0 hb
  replace o4 := own_on o4 hb
  replace o5 := own_on o5 hb
  replace hB := below_step hB hb
  clear hb
  clear hS
  have hS := hB.size
  go_wp2_with fail
  refine (impl_RunFund z0 _ _ _ z1 _ _ _ z2 _ _ _ z3 _ b0 (Rd.of_own o4) m1 b1 (Rd.of_own o5) m2 b2 (Rd.of_own o6) m3 b3).mono ?_
  rintro e w8 ⟨vg0, rfl, o_g0, hb⟩
  have ap_o_g0_o_w0 := own_apart o_w0 o_g0
  have ap_o_g0_o4 := own_apart o4 o_g0
  have ap_o_g0_o5 := own_apart o5 o_g0
  have ap_o_g0_o6 := own_apart o6 o_g0
  replace o_g0 := own_base o_g0 hS
  replace o_w0 := own_on o_w0 hb
  replace o4 := own_on o4 hb
  replace o5 := own_on o5 hb
  replace o6 := own_on o6 hb
  replace hB := below_step hB hb
  clear hb
  clear hS
  obtain ⟨Ao_g0, co_g0, rfl, _⟩ := own_form o_g0
  go_wp2_with fail
  refine (eqFloat32S_yes _ _ _ _ _ _ _ (Rd.of_own o_g0) (Rd.of_own o_w0) (by have := (RunFund_len z0 z1 z2 z3); omega)).mono ?_
  rintro e w9 ⟨rfl, hb⟩
  replace o_w0 := own_on o_w0 hb
  replace o4 := own_on o4 hb
  replace o5 := own_on o5 hb
  replace o6 := own_on o6 hb
  replace o_g0 := own_on o_g0 hb
  replace hB := below_step hB hb
  clear hb
  have hS := hB.size
  go_wp2_with fail
  refine (toFloat32S_any _ _ _ z1 _ ((r1.below hB).more hB.size) m1).mono ?_
  rintro e w10 ⟨g7, rfl, o7, hb⟩
  replace o7 := own_base o7 hS
  replace o_w0 := own_on o_w0 hb
  replace o4 := own_on o4 hb
  replace o5 := own_on o5 hb
  replace o6 := own_on o6 hb
  replace o_g0 := own_on o_g0 hb
  replace hB := below_step hB hb
  clear hb
  clear hS
  go_wp2_with fail
  refine (eqFloat32S_yes _ _ _ _ _ _ _ (Rd.of_own o4) (Rd.of_own o7) (by have := m1; omega)).mono ?_
  rintro e w11 ⟨rfl, hb⟩
  replace o_w0 := own_on o_w0 hb
  replace o4 := own_on o4 hb
  replace o5 := own_on o5 hb
  replace o6 := own_on o6 hb
  replace o_g0 := own_on o_g0 hb
  replace o7 := own_on o7 hb
  replace hB := below_step hB hb
  clear hb
  clear o7
  have hS := hB.size
  go_wp2_with fail
  refine (toFloat32S_any _ _ _ z2 _ ((r2.below hB).more hB.size) m2).mono ?_
  rintro e w12 ⟨g8, rfl, o8, hb⟩
  replace o8 := own_base o8 hS
  replace o_w0 := own_on o_w0 hb
  replace o4 := own_on o4 hb
  replace o5 := own_on o5 hb
  replace o6 := own_on o6 hb
  replace o_g0 := own_on o_g0 hb
  replace hB := below_step hB hb
  clear hb
  clear hS
  go_wp2_with fail
  refine (eqFloat32S_yes _ _ _ _ _ _ _ (Rd.of_own o5) (Rd.of_own o8) (by have := m2; omega)).mono ?_
  rintro e w13 ⟨rfl, hb⟩
  replace o_w0 := own_on o_w0 hb
  replace o4 := own_on o4 hb
  replace o5 := own_on o5 hb
  replace o6 := own_on o6 hb
  replace o_g0 := own_on o_g0 hb
  replace o8 := own_on o8 hb
  replace hB := below_step hB hb
  clear hb
  clear o8
  have hS := hB.size
  go_wp2_with fail
  refine (toFloat32S_any _ _ _ z3 _ ((r3.below hB).more hB.size) m3).mono ?_
  rintro e w14 ⟨g9, rfl, o9, hb⟩
  replace o9 := own_base o9 hS
  replace o_w0 := own_on o_w0 hb
  replace o4 := own_on o4 hb
  replace o5 := own_on o5 hb
  replace o6 := own_on o6 hb
  replace o_g0 := own_on o_g0 hb
  replace hB := below_step hB hb
  clear hb
  clear hS
  go_wp2_with fail
  refine (eqFloat32S_yes _ _ _ _ _ _ _ (Rd.of_own o6) (Rd.of_own o9) (by have := m3; omega)).mono ?_
  rintro e w15 ⟨rfl, hb⟩
  replace o_w0 := own_on o_w0 hb
  replace o4 := own_on o4 hb
  replace o5 := own_on o5 hb
  replace o6 := own_on o6 hb
  replace o_g0 := own_on o_g0 hb
  replace o9 := own_on o9 hb
  replace hB := below_step hB hb
  clear hb
  clear o9
  go_wp2_with fail
  refine (markFloat32S_any _ _ _ _ _ _ o4 (by have := m1; omega) (by omega) (by omega)).mono ?_
  rintro e w16 ⟨rfl, p_o4, hg⟩
  replace o_w0 := World.ownsRow.kept o_w0 hg (ap_o4_o_w0.2)
  replace o5 := World.ownsRow.kept o5 hg (ap_o5_o4.1)
  replace o6 := World.ownsRow.kept o6 hg (ap_o6_o4.1)
  replace o_g0 := World.ownsRow.kept o_g0 hg (ap_o_g0_o4.1)
  replace hB := below_grown hB hg (fun k hk => (p_o4.lt k hk).1)
  clear hg o4
  have o4 := p_o4; clear p_o4
  go_wp2_with fail
  refine (markFloat32S_any _ _ _ _ _ _ o5 (by have := m2; omega) (by have := m1; omega) (by have := m1; omega)).mono ?_
  rintro e w17 ⟨rfl, p_o5, hg⟩
  replace o_w0 := World.ownsRow.kept o_w0 hg (ap_o5_o_w0.2)
  replace o4 := World.ownsRow.kept o4 hg (ap_o5_o4.2)
  replace o6 := World.ownsRow.kept o6 hg (ap_o6_o5.1)
  replace o_g0 := World.ownsRow.kept o_g0 hg (ap_o_g0_o5.1)
  replace hB := below_grown hB hg (fun k hk => (p_o5.lt k hk).1)
  clear hg o5
  have o5 := p_o5; clear p_o5
  go_wp2_with fail
  refine (markFloat32S_any _ _ _ _ _ _ o6 (by have := m3; omega) (by have := m1; have := m2; omega) (by have := m1; have := m2; omega)).mono ?_
  rintro e w18 ⟨rfl, p_o6, hg⟩
  replace o_w0 := World.ownsRow.kept o_w0 hg (ap_o6_o_w0.2)
  replace o4 := World.ownsRow.kept o4 hg (ap_o6_o4.2)
  replace o5 := World.ownsRow.kept o5 hg (ap_o6_o5.2)
  replace o_g0 := World.ownsRow.kept o_g0 hg (ap_o_g0_o6.1)
  replace hB := below_grown hB hg (fun k hk => (p_o6.lt k hk).1)
  clear hg o6
  have o6 := p_o6; clear p_o6
  go_wp2_with fail
  refine (eqFloat32S_yes _ _ _ _ _ _ _ (Rd.of_own o_g0) (Rd.of_own o_w0) (by have := (RunFund_len z0 z1 z2 z3); omega)).mono ?_
  rintro e w19 ⟨rfl, hb⟩
  replace o_w0 := own_on o_w0 hb
  replace o4 := own_on o4 hb
  replace o5 := own_on o5 hb
  replace o6 := own_on o6 hb
  replace o_g0 := own_on o_g0 hb
  replace hB := below_step hB hb
  clear hb
  go_wp2_with fail
  refine (markFloat32S_any _ _ _ _ _ _ o_g0 (by have := (RunFund_len z0 z1 z2 z3); omega) (by omega) (by omega)).mono ?_
  rintro e w20 ⟨rfl, p_o_g0, hg⟩
  replace o_w0 := World.ownsRow.kept o_w0 hg (ap_o_g0_o_w0.2)
  replace o4 := World.ownsRow.kept o4 hg (ap_o_g0_o4.2)
  replace o5 := World.ownsRow.kept o5 hg (ap_o_g0_o5.2)
  replace o6 := World.ownsRow.kept o6 hg (ap_o_g0_o6.2)
  replace hB := below_grown hB hg (fun k hk => (p_o_g0.lt k hk).1)
  clear hg o_g0
  have o_g0 := p_o_g0; clear p_o_g0
  go_wp2_with fail
  refine (heldFloat32S_any _ _ _ _ _ (Rd.of_own o_g0) (by have := (RunFund_len z0 z1 z2 z3); omega) (by omega) (by omega)).mono ?_
  rintro e w21 ⟨rfl, rfl⟩
  have hS := hB.size
  go_wp2_with fail
  refine (toFloat32S_any _ _ _ z1 _ ((r1.below hB).more hB.size) m1).mono ?_
  rintro e w22 ⟨g10, rfl, o10, hb⟩
  replace o10 := own_base o10 hS
  replace o_w0 := own_on o_w0 hb
  replace o4 := own_on o4 hb
  replace o5 := own_on o5 hb
  replace o6 := own_on o6 hb
  replace o_g0 := own_on o_g0 hb
  replace hB := below_step hB hb
  clear hb
  clear hS
  have hS := hB.size
  go_wp2_with fail
  refine (toFloat32S_any _ _ _ z2 _ ((r2.below hB).more hB.size) m2).mono ?_
  rintro e w23 ⟨g11, rfl, o11, hb⟩
  replace o11 := own_base o11 hS
  replace o_w0 := own_on o_w0 hb
  replace o4 := own_on o4 hb
  replace o5 := own_on o5 hb
  replace o6 := own_on o6 hb
  replace o_g0 := own_on o_g0 hb
  replace o10 := own_on o10 hb
  replace hB := below_step hB hb
  clear hb
  clear hS
  have hS := hB.size
  go_wp2_with fail
  refine (toFloat32S_any _ _ _ z3 _ ((r3.below hB).more hB.size) m3).mono ?_
  rintro e w24 ⟨g12, rfl, o12, hb⟩
  replace o12 := own_base o12 hS
  replace o_w0 := own_on o_w0 hb
  replace o4 := own_on o4 hb
  replace o5 := own_on o5 hb
  replace o6 := own_on o6 hb
  replace o_g0 := own_on o_g0 hb
  replace o10 := own_on o10 hb
  replace o11 := own_on o11 hb
  replace hB := below_step hB hb
  clear hb
  clear hS
  have hS := hB.size
  go_wp2_with fail
  refine (impl_RunFund z0 _ _ _ z1 _ _ _ z2 _ _ _ z3 _ b0 (Rd.of_own o10) m1 b1 (Rd.of_own o11) m2 b2 (Rd.of_own o12) m3 b3).mono ?_
  rintro e w25 ⟨vh0, rfl, o_h0, hb⟩
  have ap_o_h0_o_w0 := own_apart o_w0 o_h0
  have ap_o_h0_o4 := own_apart o4 o_h0
  have ap_o_h0_o5 := own_apart o5 o_h0
  have ap_o_h0_o6 := own_apart o6 o_h0
  have ap_o_h0_o_g0 := own_apart o_g0 o_h0
  replace o_h0 := own_base o_h0 hS
  replace o_w0 := own_on o_w0 hb
  replace o4 := own_on o4 hb
  replace o5 := own_on o5 hb
  replace o6 := own_on o6 hb
  replace o_g0 := own_on o_g0 hb
  replace o10 := own_on o10 hb
  replace o11 := own_on o11 hb
  replace o12 := own_on o12 hb
  replace hB := below_step hB hb
  clear hb
  clear hS
  clear o10
  clear o11
  clear o12
  obtain ⟨Ao_h0, co_h0, rfl, _⟩ := own_form o_h0
  go_wp2_with fail
  refine (eqFloat32S_yes _ _ _ _ _ _ _ (Rd.of_own o_h0) (Rd.of_own o_w0) (by have := (RunFund_len z0 z1 z2 z3); omega)).mono ?_
  rintro e w26 ⟨rfl, hb⟩
  replace o_w0 := own_on o_w0 hb
  replace o4 := own_on o4 hb
  replace o5 := own_on o5 hb
  replace o6 := own_on o6 hb
  replace o_g0 := own_on o_g0 hb
  replace o_h0 := own_on o_h0 hb
  replace hB := below_step hB hb
  clear hb
  go_wp2_with fail
  refine (heldFloat32S_any _ _ _ _ _ (Rd.of_own o_g0) (by have := (RunFund_len z0 z1 z2 z3); omega) (by omega) (by omega)).mono ?_
  rintro e w27 ⟨rfl, rfl⟩
  go_wp2_with fail
  go_ret
  exact ⟨rfl, hB⟩
theorem lawRunFund_walk (z0 : Nat) (A1 : Option Addr) (n1 c1 : Nat) (z1 : List Nat) (A2 : Option Addr) (n2 c2 : Nat) (z2 : List Nat) (A3 : Option Addr) (n3 c3 : Nat) (z3 : List Nat) (W : World) (b0 : z0 < 4294967296) (r1 : Rd W W.heap.size 1 A1 n1 (flts z1)) (b1 : F32s z1) (r2 : Rd W W.heap.size 1 A2 n2 (flts z2)) (b2 : F32s z2) (r3 : Rd W W.heap.size 1 A3 n3 (flts z3)) (b3 : F32s z3) :
    Calls Try.prog 5 #[.float .f32 z0, .slice A1 n1 c1, .slice A2 n2 c2, .slice A3 n3 c3] W fun e w' => e = .returned (.bool true) ∧ Below W.heap.size W w' := by
  by_cases m1 : n1 ≤ 1048576
  case neg => exact lawRunFund_walk_long1 z0 A1 n1 c1 z1 A2 n2 c2 z2 A3 n3 c3 z3 W b0 r1 b1 r2 b2 r3 b3  (by omega)
  by_cases m2 : n2 ≤ 1048576
  case neg => exact lawRunFund_walk_long2 z0 A1 n1 c1 z1 A2 n2 c2 z2 A3 n3 c3 z3 W b0 r1 b1 r2 b2 r3 b3 m1 (by omega)
  by_cases m3 : n3 ≤ 1048576
  case neg => exact lawRunFund_walk_long3 z0 A1 n1 c1 z1 A2 n2 c2 z2 A3 n3 c3 z3 W b0 r1 b1 r2 b2 r3 b3 m1 m2 (by omega)
  exact lawRunFund_walk_short z0 A1 n1 c1 z1 A2 n2 c2 z2 A3 n3 c3 z3 W b0 r1 b1 r2 b2 r3 b3 m1 m2 m3
set_option maxRecDepth 100000 in
theorem lawRunFund_lifted (os : Os) (started : os.Started) (H : Type) (enc : TypeId × Value → H) :
    ReturnsInHanded {} Try.checked os 5 .any (Rows.fnExactRunFundSpec.pre6 enc Try.prog Try.f5 Rows.fnExactRunFundRow.domain false) (Rows.fnExactRunFundSpec.post enc Try.prog Try.f5 false true false false) := by
  refine returnsInHanded_of_change (C := Try.checked) own_knob started (by kernel_rfl) Try.func5
    (ChangeSpec.witness6 (enc := enc) (C := Try.checked) false ⟨#[], #[.float .f32 0, .slice none 0 0, .slice none 0 0, .slice none 0 0], []⟩ 8 (by kernel_rfl) (by kernel_rfl) (by kernel_rfl) (by kernel_rfl)) ?_
  intro W base args ds gs before hval0 hW hcnd _
  have hval : ∀ (j : Nat) t v, Try.f5.params[j]? = some t → args[j]? = some v → Value.okWide Try.prog W .any base t v := hval0
  have hW' := hW
  obtain ⟨p, q, hA0, hV, rfl, hfz, hnd⟩ := hW
  have hA : DataW.TrodAll enc Try.prog W 0 (fun _ => true) true Try.f5.params.toList args.toList ds p := hA0
  rw [Try.params5] at hA hval
  obtain ⟨v0, vs0, d0, ds0, p0, q0, hargs, rfl, rfl, h0, u0⟩ := trodAll_cons hA
  obtain ⟨v1, vs1, d1, ds1, p1, q1, rfl, rfl, rfl, h1, u1⟩ := trodAll_cons u0
  obtain ⟨v2, vs2, d2, ds2, p2, q2, rfl, rfl, rfl, h2, u2⟩ := trodAll_cons u1
  obtain ⟨v3, vs3, d3, ds3, p3, q3, rfl, rfl, rfl, h3, u3⟩ := trodAll_cons u2
  obtain ⟨rfl, rfl, rfl⟩ := trodAll_nil u3
  obtain rfl : args = #[v0, v1, v2, v3] := by cases args; simp_all
  obtain ⟨z0, rfl, b0⟩ := open_flt Try.underlying32 (hval 0 32 v0 rfl rfl) h0
  obtain ⟨A1, n1, c1, z1, rfl, r1, b1⟩ := open_rd_flts Try.underlying22 Try.underlying32 cells_f32 (hval 1 22 v1 rfl rfl) h1
  obtain ⟨A2, n2, c2, z2, rfl, r2, b2⟩ := open_rd_flts Try.underlying22 Try.underlying32 cells_f32 (hval 2 22 v2 rfl rfl) h2
  obtain ⟨A3, n3, c3, z3, rfl, r3, b3⟩ := open_rd_flts Try.underlying22 Try.underlying32 cells_f32 (hval 3 22 v3 rfl rfl) h3
  clear hA0 hval0
  refine (lawRunFund_walk z0 A1 n1 c1 z1 A2 n2 c2 z2 A3 n3 c3 z3 W b0 r1 b1 r2 b2 r3 b3).mono fun e W' ⟨he, hb⟩ => ?_
  subst he
  exact ⟨_, rfl, post_true 4 Try.underlying4 (by kernel_rfl) laid_out (by kernel_rfl) rfl rfl hW' hb⟩
theorem lawRunFund_over : Rows.fnExactRunFundRow.holds Try.pinned (OpenSpec.ofChange Rows.fnExactRunFundSpec) :=
  OpenClaim.holds_of_wide 5 Try.f5 rfl rfl rfl rfl rfl rfl rfl ⟨rfl, rfl, rfl, rfl, rfl⟩ rfl rfl rfl rfl rfl (by kernel_rfl) Try.func5 (by kernel_rfl)
    (of_decide_eq_true (by kernel_rfl)) (by unfold Func.isWrapper; first | (rw [if_pos (by decide +kernel)]; kernel_rfl) | (rw [if_neg (by decide +kernel)]; exact ⟨rfl, rfl⟩))
    (fun os started H enc _ => lawRunFund_lifted os started H enc)
theorem lawRunFund_proved : Rows.FnExactRunFundSaid := lawRunFund_over
#print axioms lawRunFund_proved
end Go.Proofs.Ytkdiegplbloccaa
