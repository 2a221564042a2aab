/-
  THE LAW FnExactAmendRule: for every input the program's AmendRule returns what the reference's returns, and changes no argument. Conditions: none.
-/
import Derived.Test.YtkdiegplbloccaaRuAmend
namespace Go.Proofs.Ytkdiegplbloccaa
open Go.ChangeShapes Go.WideShapes Go.ChangeAt Go.RowKit
set_option linter.unusedVariables false
set_option maxHeartbeats 400000 in
theorem lawAmendRule_walk_long0 (A0 : Option Addr) (m0 c0 : Nat) (d0 : List Rl) (z1 : Int) (z2 : Int) (hh3 f3 t3 k3 : Int) (A3 : Option Addr) (m3 c3 : Nat) (z3 : List Int) (W : World) (r0 : RsRd W W.heap.size A0 m0 d0) (b0 : (∀ d ∈ d0, RlB d) ∧ m0 ≤ 9223372036854775807) (b1 : -9223372036854775808 ≤ z1 ∧ z1 ≤ 9223372036854775807) (b2 : -9223372036854775808 ≤ z2 ∧ z2 ≤ 9223372036854775807) (r3 : Rd W W.heap.size 1 A3 m3 (ints z3)) (b3 : RlB ⟨hh3, z3, f3, t3, k3⟩) (y0 : 1048576 < szD d0) :
    Calls Try.prog 12 #[.slice A0 m0 c0, .int .i64 z1, .int .i64 z2, .agg #[.int .i64 hh3, .slice A3 m3 c3, .int .i64 f3, .int .i64 t3, .int .i64 k3]] W fun e w' => e = .returned (.bool true) ∧ Below W.heap.size W w' := by
  have hB : Below W.heap.size W W := Below.refl _ _
  go_enter Try.func12, Try.ntmps12
  go_wp2_with fail
  obtain ⟨w1, hw⟩ : ∃ x, x = W.alloc (.cells #[.int .i64 hh3, .slice A3 m3 c3, .int .i64 f3, .int .i64 t3, .int .i64 k3] 62) := ⟨_, rfl⟩
  rw [← hw]
  have hb : Below W.heap.size W w1 := by rw [hw]; exact (Below.refl _ _).alloc (Nat.le_refl _) _
  have bx3 : BoxF w1 W.heap.size ⟨hh3, f3, t3, k3, A3, m3, c3, z3⟩ := by rw [hw]; exact BoxF.new W ⟨hh3, f3, t3, k3, A3, m3, c3, z3⟩ _
  have S1 := Lib.hid (show W.heap.size + 1 ≤ w1.heap.size by rw [hw]; simp)
  clear hw
  replace hB := below_step hB hb
  clear hb
  refine (szRs_no _ _ _ d0 _ _ ((r0.below hB).more hB.size) ⟨by omega, by omega⟩ b0 (by omega)).mono ?_
  rintro e w2 ⟨rfl, hb⟩
  replace bx3 := bx3.below hb (by have := S1.out; omega)
  have S2 := Lib.hid hb.size
  replace hB := below_step hB hb
  clear hb
  have xx_bx3 := bx3.box
  obtain ⟨x0_bx3, x1_bx3, x2_bx3, x3_bx3, x4_bx3⟩ := xx_bx3
  dsimp only at x0_bx3 x1_bx3 x2_bx3 x3_bx3 x4_bx3
  go_wp2_with fail
  clear x0_bx3 x1_bx3 x2_bx3 x3_bx3 x4_bx3
  go_ret
  exact ⟨rfl, hB⟩
set_option maxHeartbeats 400000 in
theorem lawAmendRule_walk_long1 (A0 : Option Addr) (m0 c0 : Nat) (d0 : List Rl) (z1 : Int) (z2 : Int) (hh3 f3 t3 k3 : Int) (A3 : Option Addr) (m3 c3 : Nat) (z3 : List Int) (W : World) (r0 : RsRd W W.heap.size A0 m0 d0) (b0 : (∀ d ∈ d0, RlB d) ∧ m0 ≤ 9223372036854775807) (b1 : -9223372036854775808 ≤ z1 ∧ z1 ≤ 9223372036854775807) (b2 : -9223372036854775808 ≤ z2 ∧ z2 ≤ 9223372036854775807) (r3 : Rd W W.heap.size 1 A3 m3 (ints z3)) (b3 : RlB ⟨hh3, z3, f3, t3, k3⟩) (y0 : szD d0 ≤ 1048576) (y1 : 1048576 < szD d0 + m3) :
    Calls Try.prog 12 #[.slice A0 m0 c0, .int .i64 z1, .int .i64 z2, .agg #[.int .i64 hh3, .slice A3 m3 c3, .int .i64 f3, .int .i64 t3, .int .i64 k3]] W fun e w' => e = .returned (.bool true) ∧ Below W.heap.size W w' := by
  have hB : Below W.heap.size W W := Below.refl _ _
  go_enter Try.func12, Try.ntmps12
  go_wp2_with fail
  obtain ⟨w1, hw⟩ : ∃ x, x = W.alloc (.cells #[.int .i64 hh3, .slice A3 m3 c3, .int .i64 f3, .int .i64 t3, .int .i64 k3] 62) := ⟨_, rfl⟩
  rw [← hw]
  have hb : Below W.heap.size W w1 := by rw [hw]; exact (Below.refl _ _).alloc (Nat.le_refl _) _
  have bx3 : BoxF w1 W.heap.size ⟨hh3, f3, t3, k3, A3, m3, c3, z3⟩ := by rw [hw]; exact BoxF.new W ⟨hh3, f3, t3, k3, A3, m3, c3, z3⟩ _
  have S1 := Lib.hid (show W.heap.size + 1 ≤ w1.heap.size by rw [hw]; simp)
  clear hw
  replace hB := below_step hB hb
  clear hb
  refine (szRs_yes _ _ _ d0 _ _ ((r0.below hB).more hB.size) ⟨by omega, by omega⟩ b0 (by omega)).mono ?_
  rintro e w2 ⟨l0, rfl, el0, hl0, hb⟩
  have El0 := Lib.hid el0; clear el0
  replace bx3 := bx3.below hb (by have := S1.out; omega)
  have S2 := Lib.hid hb.size
  replace hB := below_step hB hb
  clear hb
  have xx_bx3 := bx3.box
  obtain ⟨x0_bx3, x1_bx3, x2_bx3, x3_bx3, x4_bx3⟩ := xx_bx3
  dsimp only at x0_bx3 x1_bx3 x2_bx3 x3_bx3 x4_bx3
  go_wp2_with fail
  clear x0_bx3 x1_bx3 x2_bx3 x3_bx3 x4_bx3
  refine (szRl_no _ _ _ _ _ _ _ z3 _ _ r3 hl0 b3 (by have := El0.out; omega)).mono ?_
  rintro e w3 ⟨rfl, hb⟩
  replace bx3 := bx3.below hb (by have := S1.out; have := S2.out; omega)
  have S3 := Lib.hid hb.size
  replace hB := below_step hB hb
  clear hb
  have xx_bx3 := bx3.box
  obtain ⟨x0_bx3, x1_bx3, x2_bx3, x3_bx3, x4_bx3⟩ := xx_bx3
  dsimp only at x0_bx3 x1_bx3 x2_bx3 x3_bx3 x4_bx3
  go_wp2_with fail
  clear x0_bx3 x1_bx3 x2_bx3 x3_bx3 x4_bx3
  go_ret
  exact ⟨rfl, hB⟩
set_option maxRecDepth 100000 in
set_option maxHeartbeats 12800000 in
theorem lawAmendRule_walk_short (A0 : Option Addr) (m0 c0 : Nat) (d0 : List Rl) (z1 : Int) (z2 : Int) (hh3 f3 t3 k3 : Int) (A3 : Option Addr) (m3 c3 : Nat) (z3 : List Int) (W : World) (r0 : RsRd W W.heap.size A0 m0 d0) (b0 : (∀ d ∈ d0, RlB d) ∧ m0 ≤ 9223372036854775807) (b1 : -9223372036854775808 ≤ z1 ∧ z1 ≤ 9223372036854775807) (b2 : -9223372036854775808 ≤ z2 ∧ z2 ≤ 9223372036854775807) (r3 : Rd W W.heap.size 1 A3 m3 (ints z3)) (b3 : RlB ⟨hh3, z3, f3, t3, k3⟩) (y0 : szD d0 ≤ 1048576) (y1 : szD d0 + m3 ≤ 1048576) :
    Calls Try.prog 12 #[.slice A0 m0 c0, .int .i64 z1, .int .i64 z2, .agg #[.int .i64 hh3, .slice A3 m3 c3, .int .i64 f3, .int .i64 t3, .int .i64 k3]] W fun e w' => e = .returned (.bool true) ∧ Below W.heap.size W w' := by
  have hB : Below W.heap.size W W := Below.refl _ _
  have s0 : szD d0 ≤ 1048576 := by omega
  have s3 : m3 ≤ 1048576 := by omega
  go_enter Try.func12, Try.ntmps12
  go_wp2_with fail
  obtain ⟨w1, hw⟩ : ∃ x, x = W.alloc (.cells #[.int .i64 hh3, .slice A3 m3 c3, .int .i64 f3, .int .i64 t3, .int .i64 k3] 62) := ⟨_, rfl⟩
  rw [← hw]
  have hb : Below W.heap.size W w1 := by rw [hw]; exact (Below.refl _ _).alloc (Nat.le_refl _) _
  have bx3 : BoxF w1 W.heap.size ⟨hh3, f3, t3, k3, A3, m3, c3, z3⟩ := by rw [hw]; exact BoxF.new W ⟨hh3, f3, t3, k3, A3, m3, c3, z3⟩ _
  have S1 := Lib.hid (show W.heap.size + 1 ≤ w1.heap.size by rw [hw]; simp)
  clear hw
  replace hB := below_step hB hb
  clear hb
  refine (szRs_yes _ _ _ d0 _ _ ((r0.below hB).more hB.size) ⟨by omega, by omega⟩ b0 (by omega)).mono ?_
  rintro e w2 ⟨l0, rfl, el0, hl0, hb⟩
  have El0 := Lib.hid el0; clear el0
  replace bx3 := bx3.below hb (by have := S1.out; omega)
  have S2 := Lib.hid hb.size
  replace hB := below_step hB hb
  clear hb
  have xx_bx3 := bx3.box
  obtain ⟨x0_bx3, x1_bx3, x2_bx3, x3_bx3, x4_bx3⟩ := xx_bx3
  dsimp only at x0_bx3 x1_bx3 x2_bx3 x3_bx3 x4_bx3
  go_wp2_with fail
  clear x0_bx3 x1_bx3 x2_bx3 x3_bx3 x4_bx3
  refine (szRl_yes _ _ _ _ _ _ _ z3 _ _ r3 hl0 b3 (by have := El0.out; omega)).mono ?_
  rintro e w3 ⟨l1, rfl, el1, hl1, hb⟩
  have El1 := Lib.hid el1; clear el1
  replace bx3 := bx3.below hb (by have := S1.out; have := S2.out; omega)
  have S3 := Lib.hid hb.size
  replace hB := below_step hB hb
  clear hb
  have xx_bx3 := bx3.box
  obtain ⟨x0_bx3, x1_bx3, x2_bx3, x3_bx3, x4_bx3⟩ := xx_bx3
  dsimp only at x0_bx3 x1_bx3 x2_bx3 x3_bx3 x4_bx3
  have KEEP := Lib.hid (fun (w' : World) (h : Below w3.heap.size w3 w') => show (fun w' => w'.cell? ⟨W.heap.size, 0, none⟩ = some (.int .i64 hh3) ∧ w'.cell? ⟨W.heap.size, 1, none⟩ = some (.slice A3 m3 c3) ∧ w'.cell? ⟨W.heap.size, 2, none⟩ = some (.int .i64 f3) ∧ w'.cell? ⟨W.heap.size, 3, none⟩ = some (.int .i64 t3) ∧ w'.cell? ⟨W.heap.size, 4, none⟩ = some (.int .i64 k3)) w' from (by have q := (bx3.below h (by have := S1.out; have := S2.out; have := S3.out; omega)).box; exact ⟨q.c0, q.c1, q.c2, q.c3, q.c4⟩))
  go_wp2_with fail
  have hK : Below w3.heap.size w3 (w3.drewN 1) := below_drewN (Below.refl _ _) 1
  replace bx3 := bx3.drewN 1
  replace hB := below_drewN hB 1
  go_region_held3 (fun w' => w'.cell? ⟨W.heap.size, 0, none⟩ = some (.int .i64 hh3) ∧ w'.cell? ⟨W.heap.size, 1, none⟩ = some (.slice A3 m3 c3) ∧ w'.cell? ⟨W.heap.size, 2, none⟩ = some (.int .i64 f3) ∧ w'.cell? ⟨W.heap.size, 3, none⟩ = some (.int .i64 t3) ∧ w'.cell? ⟨W.heap.size, 4, none⟩ = some (.int .i64 k3))
    (first | go_keep | exact KEEP.out _ hK)
    (first
      | (go_at_call 33
         refine (toRs_any _ _ _ d0 _ ((r0.below hB).more hB.size) s0).mono ?_
         rintro e w4 ⟨Q1, q1, rfl, o1, hb⟩
         replace bx3 := bx3.below hb (by have := S1.out; have := S2.out; have := S3.out; first | omega | (show _ < w3.heap.size; omega))
         have S4 := Lib.hid (show w3.heap.size ≤ w4.heap.size from hb.size)
         replace hB := below_step hB hb
         replace hK := hK.trans (hb.mono (Nat.le_refl _))
         change Obj _ w3.heap.size _ _ _ _ at o1
         clear hb)
      | (go_at_call 51
         refine (toRule_any _ _ _ _ _ _ _ z3 _ ((r3.below hB).more hB.size) s3).mono ?_
         rintro e w5 ⟨g2, rfl, o2, hb⟩
         replace o1 := o1.on hb
         replace bx3 := bx3.below hb (by have := S1.out; have := S2.out; have := S3.out; have := S4.out; first | omega | (show _ < w4.heap.size; omega))
         have S5 := Lib.hid (show w4.heap.size ≤ w5.heap.size from hb.size)
         replace hB := below_step hB hb
         replace hK := below_step hK hb
         replace o2 := ObjI.mk' o2
         change ObjI _ w4.heap.size _ _ _ _ at o2
         clear hb)
      | (go_at_call 50
         refine (spec_AmendRule _ _ _ d0 z1 z2 _ _ _ _ _ _ _ z3 _ o1.rd s0 b0.1 b1 b2 o2.rd s3 b3).mono ?_
         rintro e w6 ⟨vw0, rfl, ow0, hb⟩
         replace bx3 := bx3.below hb (by have := S1.out; have := S2.out; have := S3.out; have := S4.out; have := S5.out; first | omega | (show _ < w5.heap.size; omega))
         have S6 := Lib.hid (show w5.heap.size ≤ w6.heap.size from hb.size)
         replace hB := below_step hB hb
         replace hK := below_step hK hb
         clear o1
         clear o2
         clear hb))
  clear x0_bx3 x1_bx3 x2_bx3 x3_bx3 x4_bx3 KEEP hK
  obtain ⟨Aw0, cw0, rfl⟩ := ow0.form
  have Lw0 := Lib.hid (AmendRule_size d0 z1 z2 ⟨hh3, z3, f3, t3, k3⟩)
  have xx_bx3 := bx3.box
  obtain ⟨x0_bx3, x1_bx3, x2_bx3, x3_bx3, x4_bx3⟩ := xx_bx3
  dsimp only at x0_bx3 x1_bx3 x2_bx3 x3_bx3 x4_bx3
  go_wp2_with fail
  clear x0_bx3 x1_bx3 x2_bx3 x3_bx3 x4_bx3
  refine (toRs_any _ _ _ d0 _ ((r0.below hB).more hB.size) s0).mono ?_
  rintro e w7 ⟨Q3, q3, rfl, o3, hb⟩
  replace bx3 := bx3.below hb (by have := S1.out; have := S2.out; have := S3.out; have := S4.out; have := S5.out; have := S6.out; omega)
  replace ow0 := ow0.on hb
  have S7 := Lib.hid hb.size
  replace hB := below_step hB hb
  clear hb
  have xx_bx3 := bx3.box
  obtain ⟨x0_bx3, x1_bx3, x2_bx3, x3_bx3, x4_bx3⟩ := xx_bx3
  dsimp only at x0_bx3 x1_bx3 x2_bx3 x3_bx3 x4_bx3
  go_wp2_with fail
  clear x0_bx3 x1_bx3 x2_bx3 x3_bx3 x4_bx3
  refine (toRule_any _ _ _ _ _ _ _ z3 _ ((r3.below hB).more hB.size) s3).mono ?_
  rintro e w8 ⟨g4, rfl, o4, hb⟩
  replace o4 := ObjI.mk' o4
  replace bx3 := bx3.below hb (by have := S1.out; have := S2.out; have := S3.out; have := S4.out; have := S5.out; have := S6.out; have := S7.out; omega)
  replace ow0 := ow0.on hb
  replace o3 := o3.on hb
  have S8 := Lib.hid hb.size
  replace hB := below_step hB hb
  clear hb
  have xx_bx3 := bx3.box
  obtain ⟨x0_bx3, x1_bx3, x2_bx3, x3_bx3, x4_bx3⟩ := xx_bx3
  dsimp only at x0_bx3 x1_bx3 x2_bx3 x3_bx3 x4_bx3
  go_wp2_with fail
  clear x0_bx3 x1_bx3 x2_bx3 x3_bx3 x4_bx3
  obtain ⟨w9, hw⟩ : ∃ x, x = w8.alloc (.cells #[.int .i64 hh3, .slice (some ⟨g4, 0, none⟩) m3 m3, .int .i64 f3, .int .i64 t3, .int .i64 k3] 65) := ⟨_, rfl⟩
  rw [← hw]
  have hb : Below w8.heap.size w8 w9 := by rw [hw]; exact (Below.refl _ _).alloc (Nat.le_refl _) _
  have by4 : BoxF w9 w8.heap.size ⟨hh3, f3, t3, k3, some ⟨g4, 0, none⟩, m3, m3, z3⟩ := by rw [hw]; exact BoxF.new w8 ⟨hh3, f3, t3, k3, some ⟨g4, 0, none⟩, m3, m3, z3⟩ _
  have S9 := Lib.hid (show w8.heap.size + 1 ≤ w9.heap.size by rw [hw]; simp)
  clear hw
  replace bx3 := bx3.below hb (by have := S1.out; have := S2.out; have := S3.out; have := S4.out; have := S5.out; have := S6.out; have := S7.out; have := S8.out; omega)
  replace ow0 := ow0.on hb
  replace o3 := o3.on hb
  replace o4 := o4.on hb
  replace hB := below_step hB hb
  clear hb
  refine (impl_AmendRule _ _ _ d0 z1 z2 _ _ _ _ _ _ _ z3 _ o3.rd s0 b0.1 b1 b2 o4.rd s3 b3).mono ?_
  rintro e w10 ⟨vg0, rfl, og0, hb⟩
  replace bx3 := bx3.below hb (by have := S1.out; have := S2.out; have := S3.out; have := S4.out; have := S5.out; have := S6.out; have := S7.out; have := S8.out; have := S9.out; omega)
  replace by4 := by4.below hb (by have := S1.out; have := S2.out; have := S3.out; have := S4.out; have := S5.out; have := S6.out; have := S7.out; have := S8.out; have := S9.out; omega)
  replace ow0 := ow0.on hb
  replace o3 := o3.on hb
  replace o4 := o4.on hb
  have S10 := Lib.hid hb.size
  replace hB := below_step hB hb
  clear hb
  obtain ⟨Ag0, cg0, rfl⟩ := og0.form
  have Lg0 := Lib.hid (AmendRule_size d0 z1 z2 ⟨hh3, z3, f3, t3, k3⟩)
  have xx_bx3 := bx3.box
  obtain ⟨x0_bx3, x1_bx3, x2_bx3, x3_bx3, x4_bx3⟩ := xx_bx3
  dsimp only at x0_bx3 x1_bx3 x2_bx3 x3_bx3 x4_bx3
  have xx_by4 := by4.box
  obtain ⟨x0_by4, x1_by4, x2_by4, x3_by4, x4_by4⟩ := xx_by4
  dsimp only at x0_by4 x1_by4 x2_by4 x3_by4 x4_by4
  go_wp2_with fail
  clear x0_bx3 x1_bx3 x2_bx3 x3_bx3 x4_bx3
  clear x0_by4 x1_by4 x2_by4 x3_by4 x4_by4
  refine (eqRs_yes _ _ _ _ _ (AmendRule_r0 d0 z1 z2 ⟨hh3, z3, f3, t3, k3⟩) _ og0.rd ow0.rd (by have := Lg0.out; omega)).mono ?_
  rintro e w11 ⟨rfl, hb⟩
  replace bx3 := bx3.below hb (by have := S1.out; have := S2.out; have := S3.out; have := S4.out; have := S5.out; have := S6.out; have := S7.out; have := S8.out; have := S9.out; have := S10.out; omega)
  replace by4 := by4.below hb (by have := S1.out; have := S2.out; have := S3.out; have := S4.out; have := S5.out; have := S6.out; have := S7.out; have := S8.out; have := S9.out; have := S10.out; omega)
  replace ow0 := ow0.on hb
  replace o3 := o3.on hb
  replace o4 := o4.on hb
  replace og0 := og0.on hb
  have S11 := Lib.hid hb.size
  replace hB := below_step hB hb
  clear hb
  have xx_bx3 := bx3.box
  obtain ⟨x0_bx3, x1_bx3, x2_bx3, x3_bx3, x4_bx3⟩ := xx_bx3
  dsimp only at x0_bx3 x1_bx3 x2_bx3 x3_bx3 x4_bx3
  have xx_by4 := by4.box
  obtain ⟨x0_by4, x1_by4, x2_by4, x3_by4, x4_by4⟩ := xx_by4
  dsimp only at x0_by4 x1_by4 x2_by4 x3_by4 x4_by4
  go_wp2_with fail
  clear x0_bx3 x1_bx3 x2_bx3 x3_bx3 x4_bx3
  clear x0_by4 x1_by4 x2_by4 x3_by4 x4_by4
  refine (toRs_any _ _ _ d0 _ ((r0.below hB).more hB.size) s0).mono ?_
  rintro e w12 ⟨Q5, q5, rfl, o5, hb⟩
  replace bx3 := bx3.below hb (by have := S1.out; have := S2.out; have := S3.out; have := S4.out; have := S5.out; have := S6.out; have := S7.out; have := S8.out; have := S9.out; have := S10.out; have := S11.out; omega)
  replace by4 := by4.below hb (by have := S1.out; have := S2.out; have := S3.out; have := S4.out; have := S5.out; have := S6.out; have := S7.out; have := S8.out; have := S9.out; have := S10.out; have := S11.out; omega)
  replace ow0 := ow0.on hb
  replace o3 := o3.on hb
  replace o4 := o4.on hb
  replace og0 := og0.on hb
  have S12 := Lib.hid hb.size
  replace hB := below_step hB hb
  clear hb
  have xx_bx3 := bx3.box
  obtain ⟨x0_bx3, x1_bx3, x2_bx3, x3_bx3, x4_bx3⟩ := xx_bx3
  dsimp only at x0_bx3 x1_bx3 x2_bx3 x3_bx3 x4_bx3
  have xx_by4 := by4.box
  obtain ⟨x0_by4, x1_by4, x2_by4, x3_by4, x4_by4⟩ := xx_by4
  dsimp only at x0_by4 x1_by4 x2_by4 x3_by4 x4_by4
  go_wp2_with fail
  clear x0_bx3 x1_bx3 x2_bx3 x3_bx3 x4_bx3
  clear x0_by4 x1_by4 x2_by4 x3_by4 x4_by4
  refine (eqRs_yes _ _ _ _ _ d0 _ o3.rd o5.rd (by have := s0; omega)).mono ?_
  rintro e w13 ⟨rfl, hb⟩
  clear o5
  replace bx3 := bx3.below hb (by have := S1.out; have := S2.out; have := S3.out; have := S4.out; have := S5.out; have := S6.out; have := S7.out; have := S8.out; have := S9.out; have := S10.out; have := S11.out; have := S12.out; omega)
  replace by4 := by4.below hb (by have := S1.out; have := S2.out; have := S3.out; have := S4.out; have := S5.out; have := S6.out; have := S7.out; have := S8.out; have := S9.out; have := S10.out; have := S11.out; have := S12.out; omega)
  replace ow0 := ow0.on hb
  replace o3 := o3.on hb
  replace o4 := o4.on hb
  replace og0 := og0.on hb
  have S13 := Lib.hid hb.size
  replace hB := below_step hB hb
  clear hb
  have xx_bx3 := bx3.box
  obtain ⟨x0_bx3, x1_bx3, x2_bx3, x3_bx3, x4_bx3⟩ := xx_bx3
  dsimp only at x0_bx3 x1_bx3 x2_bx3 x3_bx3 x4_bx3
  have xx_by4 := by4.box
  obtain ⟨x0_by4, x1_by4, x2_by4, x3_by4, x4_by4⟩ := xx_by4
  dsimp only at x0_by4 x1_by4 x2_by4 x3_by4 x4_by4
  have KEEP := Lib.hid (fun (w' : World) (h : Below w13.heap.size w13 w') => show (fun w' => w'.cell? ⟨W.heap.size, 0, none⟩ = some (.int .i64 hh3) ∧ w'.cell? ⟨W.heap.size, 1, none⟩ = some (.slice A3 m3 c3) ∧ w'.cell? ⟨W.heap.size, 2, none⟩ = some (.int .i64 f3) ∧ w'.cell? ⟨W.heap.size, 3, none⟩ = some (.int .i64 t3) ∧ w'.cell? ⟨W.heap.size, 4, none⟩ = some (.int .i64 k3) ∧ w'.cell? ⟨w8.heap.size, 0, none⟩ = some (.int .i64 hh3) ∧ w'.cell? ⟨w8.heap.size, 1, none⟩ = some (.slice (some ⟨g4, 0, none⟩) m3 m3) ∧ w'.cell? ⟨w8.heap.size, 2, none⟩ = some (.int .i64 f3) ∧ w'.cell? ⟨w8.heap.size, 3, none⟩ = some (.int .i64 t3) ∧ w'.cell? ⟨w8.heap.size, 4, none⟩ = some (.int .i64 k3)) w' from (by have q0 := (bx3.below h (by have := S1.out; have := S2.out; have := S3.out; have := S4.out; have := S5.out; have := S6.out; have := S7.out; have := S8.out; have := S9.out; have := S10.out; have := S11.out; have := S12.out; have := S13.out; omega)).box; have q1 := (by4.below h (by have := S1.out; have := S2.out; have := S3.out; have := S4.out; have := S5.out; have := S6.out; have := S7.out; have := S8.out; have := S9.out; have := S10.out; have := S11.out; have := S12.out; have := S13.out; omega)).box; exact ⟨q0.c0, q0.c1, q0.c2, q0.c3, q0.c4, q1.c0, q1.c1, q1.c2, q1.c3, q1.c4⟩))
  go_wp2_with fail
  have hK : Below w13.heap.size w13 (w13.drewN 1) := below_drewN (Below.refl _ _) 1
  replace ow0 := ow0.on hK
  replace o3 := o3.on hK
  replace o4 := o4.on hK
  replace og0 := og0.on hK
  replace bx3 := bx3.drewN 1
  replace by4 := by4.drewN 1
  replace hB := below_drewN hB 1
  go_region_held3 (fun w' => w'.cell? ⟨W.heap.size, 0, none⟩ = some (.int .i64 hh3) ∧ w'.cell? ⟨W.heap.size, 1, none⟩ = some (.slice A3 m3 c3) ∧ w'.cell? ⟨W.heap.size, 2, none⟩ = some (.int .i64 f3) ∧ w'.cell? ⟨W.heap.size, 3, none⟩ = some (.int .i64 t3) ∧ w'.cell? ⟨W.heap.size, 4, none⟩ = some (.int .i64 k3) ∧ w'.cell? ⟨w8.heap.size, 0, none⟩ = some (.int .i64 hh3) ∧ w'.cell? ⟨w8.heap.size, 1, none⟩ = some (.slice (some ⟨g4, 0, none⟩) m3 m3) ∧ w'.cell? ⟨w8.heap.size, 2, none⟩ = some (.int .i64 f3) ∧ w'.cell? ⟨w8.heap.size, 3, none⟩ = some (.int .i64 t3) ∧ w'.cell? ⟨w8.heap.size, 4, none⟩ = some (.int .i64 k3))
    (first | go_keep | exact KEEP.out _ hK)
    (first
      | (go_at_call 51
         refine (toRule_any _ _ _ _ _ _ _ z3 _ ((r3.below hB).more hB.size) s3).mono ?_
         rintro e w14 ⟨g6, rfl, o6, hb⟩
         replace ow0 := ow0.on hb
         replace o3 := o3.on hb
         replace o4 := o4.on hb
         replace og0 := og0.on hb
         replace bx3 := bx3.below hb (by have := S1.out; have := S2.out; have := S3.out; have := S4.out; have := S5.out; have := S6.out; have := S7.out; have := S8.out; have := S9.out; have := S10.out; have := S11.out; have := S12.out; have := S13.out; first | omega | (show _ < w13.heap.size; omega))
         replace by4 := by4.below hb (by have := S1.out; have := S2.out; have := S3.out; have := S4.out; have := S5.out; have := S6.out; have := S7.out; have := S8.out; have := S9.out; have := S10.out; have := S11.out; have := S12.out; have := S13.out; first | omega | (show _ < w13.heap.size; omega))
         have S14 := Lib.hid (show w13.heap.size ≤ w14.heap.size from hb.size)
         replace hB := below_step hB hb
         replace hK := hK.trans (hb.mono (Nat.le_refl _))
         replace o6 := ObjI.mk' o6
         clear hb)
      | (go_at_call 53
         refine (eqRule_yes _ _ _ _ _ _ _ _ _ z3 _ o4.rd o6.rd (by have := s3; omega)).mono ?_
         rintro e w15 ⟨rfl, hb⟩
         replace ow0 := ow0.on hb
         replace o3 := o3.on hb
         replace o4 := o4.on hb
         replace og0 := og0.on hb
         replace bx3 := bx3.below hb (by have := S1.out; have := S2.out; have := S3.out; have := S4.out; have := S5.out; have := S6.out; have := S7.out; have := S8.out; have := S9.out; have := S10.out; have := S11.out; have := S12.out; have := S13.out; have := S14.out; first | omega | (show _ < w14.heap.size; omega))
         replace by4 := by4.below hb (by have := S1.out; have := S2.out; have := S3.out; have := S4.out; have := S5.out; have := S6.out; have := S7.out; have := S8.out; have := S9.out; have := S10.out; have := S11.out; have := S12.out; have := S13.out; have := S14.out; first | omega | (show _ < w14.heap.size; omega))
         have S15 := Lib.hid (show w14.heap.size ≤ w15.heap.size from hb.size)
         replace hB := below_step hB hb
         replace hK := below_step hK hb
         clear o6
         clear hb))
  clear KEEP hK x0_bx3 x1_bx3 x2_bx3 x3_bx3 x4_bx3 x0_by4 x1_by4 x2_by4 x3_by4 x4_by4
  have xx_bx3 := bx3.box
  obtain ⟨x0_bx3, x1_bx3, x2_bx3, x3_bx3, x4_bx3⟩ := xx_bx3
  dsimp only at x0_bx3 x1_bx3 x2_bx3 x3_bx3 x4_bx3
  have xx_by4 := by4.box
  obtain ⟨x0_by4, x1_by4, x2_by4, x3_by4, x4_by4⟩ := xx_by4
  dsimp only at x0_by4 x1_by4 x2_by4 x3_by4 x4_by4
  go_wp2_with fail
  clear x0_bx3 x1_bx3 x2_bx3 x3_bx3 x4_bx3
  clear x0_by4 x1_by4 x2_by4 x3_by4 x4_by4
  refine (markRs_any _ _ _ _ _ d0 _ o3 (by have := s0; omega) (by omega) (by omega)).mono ?_
  rintro e w16 ⟨rfl, p, hO⟩
  clear o3
  replace bx3 := bx3.only hO (by have := S1.out; have := S2.out; have := S3.out; have := S4.out; have := S5.out; have := S6.out; have := S7.out; have := S8.out; have := S9.out; have := S10.out; have := S11.out; have := S12.out; have := S13.out; have := S14.out; have := S15.out; omega) (by have := S1.out; have := S2.out; have := S3.out; have := S4.out; have := S5.out; have := S6.out; have := S7.out; have := S8.out; have := S9.out; have := S10.out; have := S11.out; have := S12.out; have := S13.out; have := S14.out; have := S15.out; omega)
  replace by4 := by4.only hO (by have := S1.out; have := S2.out; have := S3.out; have := S4.out; have := S5.out; have := S6.out; have := S7.out; have := S8.out; have := S9.out; have := S10.out; have := S11.out; have := S12.out; have := S13.out; have := S14.out; have := S15.out; omega) (by have := S1.out; have := S2.out; have := S3.out; have := S4.out; have := S5.out; have := S6.out; have := S7.out; have := S8.out; have := S9.out; have := S10.out; have := S11.out; have := S12.out; have := S13.out; have := S14.out; have := S15.out; omega)
  replace ow0 := ow0.only hO (by have := S1.out; have := S2.out; have := S3.out; have := S4.out; have := S5.out; have := S6.out; have := S7.out; have := S8.out; have := S9.out; have := S10.out; have := S11.out; have := S12.out; have := S13.out; have := S14.out; have := S15.out; omega)
  replace o4 := o4.only hO (by have := S1.out; have := S2.out; have := S3.out; have := S4.out; have := S5.out; have := S6.out; have := S7.out; have := S8.out; have := S9.out; have := S10.out; have := S11.out; have := S12.out; have := S13.out; have := S14.out; have := S15.out; omega)
  replace og0 := og0.only hO (by have := S1.out; have := S2.out; have := S3.out; have := S4.out; have := S5.out; have := S6.out; have := S7.out; have := S8.out; have := S9.out; have := S10.out; have := S11.out; have := S12.out; have := S13.out; have := S14.out; have := S15.out; omega)
  have S16 := Lib.hid hO.size
  replace hB := below_only hB hO (by have := S1.out; have := S2.out; have := S3.out; have := S4.out; have := S5.out; have := S6.out; have := S7.out; have := S8.out; have := S9.out; have := S10.out; have := S11.out; have := S12.out; have := S13.out; have := S14.out; have := S15.out; omega)
  clear hO
  have o3 := p; clear p
  have xx_bx3 := bx3.box
  obtain ⟨x0_bx3, x1_bx3, x2_bx3, x3_bx3, x4_bx3⟩ := xx_bx3
  dsimp only at x0_bx3 x1_bx3 x2_bx3 x3_bx3 x4_bx3
  have xx_by4 := by4.box
  obtain ⟨x0_by4, x1_by4, x2_by4, x3_by4, x4_by4⟩ := xx_by4
  dsimp only at x0_by4 x1_by4 x2_by4 x3_by4 x4_by4
  go_wp2_with fail
  clear x0_bx3 x1_bx3 x2_bx3 x3_bx3 x4_bx3
  clear x0_by4 x1_by4 x2_by4 x3_by4 x4_by4
  refine (markRule_any _ _ _ _ _ _ _ _ _ _ _ _ o4.1 o4.2 (by have := s3; omega) (by have := s0; have := tot_sz d0; omega) (by have := s0; have := tot_sz d0; omega)).mono ?_
  rintro e w17 ⟨rfl, hO⟩
  clear o4
  replace bx3 := bx3.only hO (by have := S1.out; have := S2.out; have := S3.out; have := S4.out; have := S5.out; have := S6.out; have := S7.out; have := S8.out; have := S9.out; have := S10.out; have := S11.out; have := S12.out; have := S13.out; have := S14.out; have := S15.out; have := S16.out; omega) (by have := S1.out; have := S2.out; have := S3.out; have := S4.out; have := S5.out; have := S6.out; have := S7.out; have := S8.out; have := S9.out; have := S10.out; have := S11.out; have := S12.out; have := S13.out; have := S14.out; have := S15.out; have := S16.out; omega)
  replace by4 := by4.only hO (by have := S1.out; have := S2.out; have := S3.out; have := S4.out; have := S5.out; have := S6.out; have := S7.out; have := S8.out; have := S9.out; have := S10.out; have := S11.out; have := S12.out; have := S13.out; have := S14.out; have := S15.out; have := S16.out; omega) (by have := S1.out; have := S2.out; have := S3.out; have := S4.out; have := S5.out; have := S6.out; have := S7.out; have := S8.out; have := S9.out; have := S10.out; have := S11.out; have := S12.out; have := S13.out; have := S14.out; have := S15.out; have := S16.out; omega)
  replace ow0 := ow0.only hO (by have := S1.out; have := S2.out; have := S3.out; have := S4.out; have := S5.out; have := S6.out; have := S7.out; have := S8.out; have := S9.out; have := S10.out; have := S11.out; have := S12.out; have := S13.out; have := S14.out; have := S15.out; have := S16.out; omega)
  replace og0 := og0.only hO (by have := S1.out; have := S2.out; have := S3.out; have := S4.out; have := S5.out; have := S6.out; have := S7.out; have := S8.out; have := S9.out; have := S10.out; have := S11.out; have := S12.out; have := S13.out; have := S14.out; have := S15.out; have := S16.out; omega)
  replace o3 := o3.only hO (by have := S1.out; have := S2.out; have := S3.out; have := S4.out; have := S5.out; have := S6.out; have := S7.out; have := S8.out; have := S9.out; have := S10.out; have := S11.out; have := S12.out; have := S13.out; have := S14.out; have := S15.out; have := S16.out; omega)
  have S17 := Lib.hid hO.size
  replace hB := below_only hB hO (by have := S1.out; have := S2.out; have := S3.out; have := S4.out; have := S5.out; have := S6.out; have := S7.out; have := S8.out; have := S9.out; have := S10.out; have := S11.out; have := S12.out; have := S13.out; have := S14.out; have := S15.out; have := S16.out; omega)
  clear hO
  have xx_bx3 := bx3.box
  obtain ⟨x0_bx3, x1_bx3, x2_bx3, x3_bx3, x4_bx3⟩ := xx_bx3
  dsimp only at x0_bx3 x1_bx3 x2_bx3 x3_bx3 x4_bx3
  have xx_by4 := by4.box
  obtain ⟨x0_by4, x1_by4, x2_by4, x3_by4, x4_by4⟩ := xx_by4
  dsimp only at x0_by4 x1_by4 x2_by4 x3_by4 x4_by4
  go_wp2_with fail
  clear x0_bx3 x1_bx3 x2_bx3 x3_bx3 x4_bx3
  clear x0_by4 x1_by4 x2_by4 x3_by4 x4_by4
  refine (eqRs_yes _ _ _ _ _ (AmendRule_r0 d0 z1 z2 ⟨hh3, z3, f3, t3, k3⟩) _ og0.rd ow0.rd (by have := Lg0.out; omega)).mono ?_
  rintro e w18 ⟨rfl, hb⟩
  replace bx3 := bx3.below hb (by have := S1.out; have := S2.out; have := S3.out; have := S4.out; have := S5.out; have := S6.out; have := S7.out; have := S8.out; have := S9.out; have := S10.out; have := S11.out; have := S12.out; have := S13.out; have := S14.out; have := S15.out; have := S16.out; have := S17.out; omega)
  replace by4 := by4.below hb (by have := S1.out; have := S2.out; have := S3.out; have := S4.out; have := S5.out; have := S6.out; have := S7.out; have := S8.out; have := S9.out; have := S10.out; have := S11.out; have := S12.out; have := S13.out; have := S14.out; have := S15.out; have := S16.out; have := S17.out; omega)
  replace ow0 := ow0.on hb
  replace og0 := og0.on hb
  replace o3 := o3.on hb
  have S18 := Lib.hid hb.size
  replace hB := below_step hB hb
  clear hb
  have xx_bx3 := bx3.box
  obtain ⟨x0_bx3, x1_bx3, x2_bx3, x3_bx3, x4_bx3⟩ := xx_bx3
  dsimp only at x0_bx3 x1_bx3 x2_bx3 x3_bx3 x4_bx3
  have xx_by4 := by4.box
  obtain ⟨x0_by4, x1_by4, x2_by4, x3_by4, x4_by4⟩ := xx_by4
  dsimp only at x0_by4 x1_by4 x2_by4 x3_by4 x4_by4
  go_wp2_with fail
  clear x0_bx3 x1_bx3 x2_bx3 x3_bx3 x4_bx3
  clear x0_by4 x1_by4 x2_by4 x3_by4 x4_by4
  refine (markRs_any _ _ _ _ _ (AmendRule_r0 d0 z1 z2 ⟨hh3, z3, f3, t3, k3⟩) _ og0 (by have := Lg0.out; omega) (by omega) (by omega)).mono ?_
  rintro e w19 ⟨rfl, p, hO⟩
  clear og0
  replace bx3 := bx3.only hO (by have := S1.out; have := S2.out; have := S3.out; have := S4.out; have := S5.out; have := S6.out; have := S7.out; have := S8.out; have := S9.out; have := S10.out; have := S11.out; have := S12.out; have := S13.out; have := S14.out; have := S15.out; have := S16.out; have := S17.out; have := S18.out; omega) (by have := S1.out; have := S2.out; have := S3.out; have := S4.out; have := S5.out; have := S6.out; have := S7.out; have := S8.out; have := S9.out; have := S10.out; have := S11.out; have := S12.out; have := S13.out; have := S14.out; have := S15.out; have := S16.out; have := S17.out; have := S18.out; omega)
  replace by4 := by4.only hO (by have := S1.out; have := S2.out; have := S3.out; have := S4.out; have := S5.out; have := S6.out; have := S7.out; have := S8.out; have := S9.out; have := S10.out; have := S11.out; have := S12.out; have := S13.out; have := S14.out; have := S15.out; have := S16.out; have := S17.out; have := S18.out; omega) (by have := S1.out; have := S2.out; have := S3.out; have := S4.out; have := S5.out; have := S6.out; have := S7.out; have := S8.out; have := S9.out; have := S10.out; have := S11.out; have := S12.out; have := S13.out; have := S14.out; have := S15.out; have := S16.out; have := S17.out; have := S18.out; omega)
  replace ow0 := ow0.only hO (by have := S1.out; have := S2.out; have := S3.out; have := S4.out; have := S5.out; have := S6.out; have := S7.out; have := S8.out; have := S9.out; have := S10.out; have := S11.out; have := S12.out; have := S13.out; have := S14.out; have := S15.out; have := S16.out; have := S17.out; have := S18.out; omega)
  replace o3 := o3.only hO (by have := S1.out; have := S2.out; have := S3.out; have := S4.out; have := S5.out; have := S6.out; have := S7.out; have := S8.out; have := S9.out; have := S10.out; have := S11.out; have := S12.out; have := S13.out; have := S14.out; have := S15.out; have := S16.out; have := S17.out; have := S18.out; omega)
  have S19 := Lib.hid hO.size
  replace hB := below_only hB hO (by have := S1.out; have := S2.out; have := S3.out; have := S4.out; have := S5.out; have := S6.out; have := S7.out; have := S8.out; have := S9.out; have := S10.out; have := S11.out; have := S12.out; have := S13.out; have := S14.out; have := S15.out; have := S16.out; have := S17.out; have := S18.out; omega)
  clear hO
  have og0 := p; clear p
  have xx_bx3 := bx3.box
  obtain ⟨x0_bx3, x1_bx3, x2_bx3, x3_bx3, x4_bx3⟩ := xx_bx3
  dsimp only at x0_bx3 x1_bx3 x2_bx3 x3_bx3 x4_bx3
  have xx_by4 := by4.box
  obtain ⟨x0_by4, x1_by4, x2_by4, x3_by4, x4_by4⟩ := xx_by4
  dsimp only at x0_by4 x1_by4 x2_by4 x3_by4 x4_by4
  go_wp2_with fail
  clear x0_bx3 x1_bx3 x2_bx3 x3_bx3 x4_bx3
  clear x0_by4 x1_by4 x2_by4 x3_by4 x4_by4
  refine (heldRs_any _ _ _ _ _ _ (AmendRule_r0 d0 z1 z2 ⟨hh3, z3, f3, t3, k3⟩) _ og0 (by have := Lg0.out; omega) (by omega) (by omega)).mono ?_
  rintro e w0 ⟨rfl, rfl⟩
  have xx_bx3 := bx3.box
  obtain ⟨x0_bx3, x1_bx3, x2_bx3, x3_bx3, x4_bx3⟩ := xx_bx3
  dsimp only at x0_bx3 x1_bx3 x2_bx3 x3_bx3 x4_bx3
  have xx_by4 := by4.box
  obtain ⟨x0_by4, x1_by4, x2_by4, x3_by4, x4_by4⟩ := xx_by4
  dsimp only at x0_by4 x1_by4 x2_by4 x3_by4 x4_by4
  have KEEP := Lib.hid (fun (w' : World) (h : Below w19.heap.size w19 w') => show (fun w' => w'.cell? ⟨W.heap.size, 0, none⟩ = some (.int .i64 hh3) ∧ w'.cell? ⟨W.heap.size, 1, none⟩ = some (.slice A3 m3 c3) ∧ w'.cell? ⟨W.heap.size, 2, none⟩ = some (.int .i64 f3) ∧ w'.cell? ⟨W.heap.size, 3, none⟩ = some (.int .i64 t3) ∧ w'.cell? ⟨W.heap.size, 4, none⟩ = some (.int .i64 k3)) w' from (by have q := (bx3.below h (by have := S1.out; have := S2.out; have := S3.out; have := S4.out; have := S5.out; have := S6.out; have := S7.out; have := S8.out; have := S9.out; have := S10.out; have := S11.out; have := S12.out; have := S13.out; have := S14.out; have := S15.out; have := S16.out; have := S17.out; have := S18.out; have := S19.out; omega)).box; exact ⟨q.c0, q.c1, q.c2, q.c3, q.c4⟩))
  go_wp2_with fail
  clear x0_by4 x1_by4 x2_by4 x3_by4 x4_by4
  have hK : Below w19.heap.size w19 (w19.drewN 1) := below_drewN (Below.refl _ _) 1
  replace ow0 := ow0.on hK
  replace o3 := o3.on hK
  replace og0 := og0.on hK
  replace bx3 := bx3.drewN 1
  replace by4 := by4.drewN 1
  replace hB := below_drewN hB 1
  go_region_held3 (fun w' => w'.cell? ⟨W.heap.size, 0, none⟩ = some (.int .i64 hh3) ∧ w'.cell? ⟨W.heap.size, 1, none⟩ = some (.slice A3 m3 c3) ∧ w'.cell? ⟨W.heap.size, 2, none⟩ = some (.int .i64 f3) ∧ w'.cell? ⟨W.heap.size, 3, none⟩ = some (.int .i64 t3) ∧ w'.cell? ⟨W.heap.size, 4, none⟩ = some (.int .i64 k3))
    (first | go_keep | exact KEEP.out _ hK)
    (first
      | (go_at_call 33
         refine (toRs_any _ _ _ d0 _ ((r0.below hB).more hB.size) s0).mono ?_
         rintro e w20 ⟨Q7, q7, rfl, o7, hb⟩
         replace ow0 := ow0.on hb
         replace o3 := o3.on hb
         replace og0 := og0.on hb
         replace bx3 := bx3.below hb (by have := S1.out; have := S2.out; have := S3.out; have := S4.out; have := S5.out; have := S6.out; have := S7.out; have := S8.out; have := S9.out; have := S10.out; have := S11.out; have := S12.out; have := S13.out; have := S14.out; have := S15.out; have := S16.out; have := S17.out; have := S18.out; have := S19.out; first | omega | (show _ < w19.heap.size; omega))
         replace by4 := by4.below hb (by have := S1.out; have := S2.out; have := S3.out; have := S4.out; have := S5.out; have := S6.out; have := S7.out; have := S8.out; have := S9.out; have := S10.out; have := S11.out; have := S12.out; have := S13.out; have := S14.out; have := S15.out; have := S16.out; have := S17.out; have := S18.out; have := S19.out; first | omega | (show _ < w19.heap.size; omega))
         have S20 := Lib.hid (show w19.heap.size ≤ w20.heap.size from hb.size)
         replace hB := below_step hB hb
         replace hK := hK.trans (hb.mono (Nat.le_refl _))
         change Obj _ w19.heap.size _ _ _ _ at o7
         clear hb)
      | (go_at_call 51
         refine (toRule_any _ _ _ _ _ _ _ z3 _ ((r3.below hB).more hB.size) s3).mono ?_
         rintro e w21 ⟨g8, rfl, o8, hb⟩
         replace ow0 := ow0.on hb
         replace o3 := o3.on hb
         replace og0 := og0.on hb
         replace o7 := o7.on hb
         replace bx3 := bx3.below hb (by have := S1.out; have := S2.out; have := S3.out; have := S4.out; have := S5.out; have := S6.out; have := S7.out; have := S8.out; have := S9.out; have := S10.out; have := S11.out; have := S12.out; have := S13.out; have := S14.out; have := S15.out; have := S16.out; have := S17.out; have := S18.out; have := S19.out; have := S20.out; first | omega | (show _ < w20.heap.size; omega))
         replace by4 := by4.below hb (by have := S1.out; have := S2.out; have := S3.out; have := S4.out; have := S5.out; have := S6.out; have := S7.out; have := S8.out; have := S9.out; have := S10.out; have := S11.out; have := S12.out; have := S13.out; have := S14.out; have := S15.out; have := S16.out; have := S17.out; have := S18.out; have := S19.out; have := S20.out; first | omega | (show _ < w20.heap.size; omega))
         have S21 := Lib.hid (show w20.heap.size ≤ w21.heap.size from hb.size)
         replace hB := below_step hB hb
         replace hK := below_step hK hb
         replace o8 := ObjI.mk' o8
         change ObjI _ w20.heap.size _ _ _ _ at o8
         clear hb)
      | (go_at_call 52
         refine (impl_AmendRule _ _ _ d0 z1 z2 _ _ _ _ _ _ _ z3 _ o7.rd s0 b0.1 b1 b2 o8.rd s3 b3).mono ?_
         rintro e w22 ⟨vh0, rfl, oh0, hb⟩
         replace ow0 := ow0.on hb
         replace o3 := o3.on hb
         replace og0 := og0.on hb
         replace bx3 := bx3.below hb (by have := S1.out; have := S2.out; have := S3.out; have := S4.out; have := S5.out; have := S6.out; have := S7.out; have := S8.out; have := S9.out; have := S10.out; have := S11.out; have := S12.out; have := S13.out; have := S14.out; have := S15.out; have := S16.out; have := S17.out; have := S18.out; have := S19.out; have := S20.out; have := S21.out; first | omega | (show _ < w21.heap.size; omega))
         replace by4 := by4.below hb (by have := S1.out; have := S2.out; have := S3.out; have := S4.out; have := S5.out; have := S6.out; have := S7.out; have := S8.out; have := S9.out; have := S10.out; have := S11.out; have := S12.out; have := S13.out; have := S14.out; have := S15.out; have := S16.out; have := S17.out; have := S18.out; have := S19.out; have := S20.out; have := S21.out; first | omega | (show _ < w21.heap.size; omega))
         have S22 := Lib.hid (show w21.heap.size ≤ w22.heap.size from hb.size)
         replace hB := below_step hB hb
         replace hK := below_step hK hb
         clear o7
         clear o8
         clear hb))
  clear x0_bx3 x1_bx3 x2_bx3 x3_bx3 x4_bx3 KEEP hK
  obtain ⟨Ah0, ch0, rfl⟩ := oh0.form
  have Lh0 := Lib.hid (AmendRule_size d0 z1 z2 ⟨hh3, z3, f3, t3, k3⟩)
  have xx_bx3 := bx3.box
  obtain ⟨x0_bx3, x1_bx3, x2_bx3, x3_bx3, x4_bx3⟩ := xx_bx3
  dsimp only at x0_bx3 x1_bx3 x2_bx3 x3_bx3 x4_bx3
  have xx_by4 := by4.box
  obtain ⟨x0_by4, x1_by4, x2_by4, x3_by4, x4_by4⟩ := xx_by4
  dsimp only at x0_by4 x1_by4 x2_by4 x3_by4 x4_by4
  go_wp2_with fail
  clear x0_bx3 x1_bx3 x2_bx3 x3_bx3 x4_bx3
  clear x0_by4 x1_by4 x2_by4 x3_by4 x4_by4
  refine (eqRs_yes _ _ _ _ _ (AmendRule_r0 d0 z1 z2 ⟨hh3, z3, f3, t3, k3⟩) _ oh0.rd ow0.rd (by have := Lh0.out; omega)).mono ?_
  rintro e w23 ⟨rfl, hb⟩
  replace bx3 := bx3.below hb (by have := S1.out; have := S2.out; have := S3.out; have := S4.out; have := S5.out; have := S6.out; have := S7.out; have := S8.out; have := S9.out; have := S10.out; have := S11.out; have := S12.out; have := S13.out; have := S14.out; have := S15.out; have := S16.out; have := S17.out; have := S18.out; have := S19.out; have := S20.out; have := S21.out; have := S22.out; omega)
  replace by4 := by4.below hb (by have := S1.out; have := S2.out; have := S3.out; have := S4.out; have := S5.out; have := S6.out; have := S7.out; have := S8.out; have := S9.out; have := S10.out; have := S11.out; have := S12.out; have := S13.out; have := S14.out; have := S15.out; have := S16.out; have := S17.out; have := S18.out; have := S19.out; have := S20.out; have := S21.out; have := S22.out; omega)
  replace ow0 := ow0.on hb
  replace o3 := o3.on hb
  replace og0 := og0.on hb
  replace oh0 := oh0.on hb
  have S23 := Lib.hid hb.size
  replace hB := below_step hB hb
  clear hb
  have xx_bx3 := bx3.box
  obtain ⟨x0_bx3, x1_bx3, x2_bx3, x3_bx3, x4_bx3⟩ := xx_bx3
  dsimp only at x0_bx3 x1_bx3 x2_bx3 x3_bx3 x4_bx3
  have xx_by4 := by4.box
  obtain ⟨x0_by4, x1_by4, x2_by4, x3_by4, x4_by4⟩ := xx_by4
  dsimp only at x0_by4 x1_by4 x2_by4 x3_by4 x4_by4
  go_wp2_with fail
  clear x0_bx3 x1_bx3 x2_bx3 x3_bx3 x4_bx3
  clear x0_by4 x1_by4 x2_by4 x3_by4 x4_by4
  refine (heldRs_any _ _ _ _ _ _ (AmendRule_r0 d0 z1 z2 ⟨hh3, z3, f3, t3, k3⟩) _ og0 (by have := Lg0.out; omega) (by omega) (by omega)).mono ?_
  rintro e w0 ⟨rfl, rfl⟩
  have xx_bx3 := bx3.box
  obtain ⟨x0_bx3, x1_bx3, x2_bx3, x3_bx3, x4_bx3⟩ := xx_bx3
  dsimp only at x0_bx3 x1_bx3 x2_bx3 x3_bx3 x4_bx3
  have xx_by4 := by4.box
  obtain ⟨x0_by4, x1_by4, x2_by4, x3_by4, x4_by4⟩ := xx_by4
  dsimp only at x0_by4 x1_by4 x2_by4 x3_by4 x4_by4
  go_wp2_with fail
  clear x0_bx3 x1_bx3 x2_bx3 x3_bx3 x4_bx3
  clear x0_by4 x1_by4 x2_by4 x3_by4 x4_by4
  go_ret
  exact ⟨rfl, hB⟩
theorem lawAmendRule_walk (A0 : Option Addr) (m0 c0 : Nat) (d0 : List Rl) (z1 : Int) (z2 : Int) (hh3 f3 t3 k3 : Int) (A3 : Option Addr) (m3 c3 : Nat) (z3 : List Int) (W : World) (r0 : RsRd W W.heap.size A0 m0 d0) (b0 : (∀ d ∈ d0, RlB d) ∧ m0 ≤ 9223372036854775807) (b1 : -9223372036854775808 ≤ z1 ∧ z1 ≤ 9223372036854775807) (b2 : -9223372036854775808 ≤ z2 ∧ z2 ≤ 9223372036854775807) (r3 : Rd W W.heap.size 1 A3 m3 (ints z3)) (b3 : RlB ⟨hh3, z3, f3, t3, k3⟩) :
    Calls Try.prog 12 #[.slice A0 m0 c0, .int .i64 z1, .int .i64 z2, .agg #[.int .i64 hh3, .slice A3 m3 c3, .int .i64 f3, .int .i64 t3, .int .i64 k3]] W fun e w' => e = .returned (.bool true) ∧ Below W.heap.size W w' := by
  by_cases y0 : szD d0 ≤ 1048576
  case neg => exact lawAmendRule_walk_long0 A0 m0 c0 d0 z1 z2 hh3 f3 t3 k3 A3 m3 c3 z3 W r0 b0 b1 b2 r3 b3  (by omega)
  by_cases y1 : szD d0 + m3 ≤ 1048576
  case neg => exact lawAmendRule_walk_long1 A0 m0 c0 d0 z1 z2 hh3 f3 t3 k3 A3 m3 c3 z3 W r0 b0 b1 b2 r3 b3 y0 (by omega)
  exact lawAmendRule_walk_short A0 m0 c0 d0 z1 z2 hh3 f3 t3 k3 A3 m3 c3 z3 W r0 b0 b1 b2 r3 b3 y0 y1
set_option maxRecDepth 100000 in
theorem lawAmendRule_lifted (os : Os) (started : os.Started) (H : Type) (enc : TypeId × Value → H) :
    ReturnsInHanded {} Try.checked os 12 .any (Rows.fnExactAmendRuleSpec.pre6 enc Try.prog Try.f12 Rows.fnExactAmendRuleRow.domain false) (Rows.fnExactAmendRuleSpec.post enc Try.prog Try.f12 false true false false) := by
  refine returnsInHanded_of_change (C := Try.checked) own_knob started (by kernel_rfl) Try.func12
    (ChangeSpec.witness6 (enc := enc) (C := Try.checked) false ⟨#[], #[.slice none 0 0, .int .i64 0, .int .i64 0, .agg #[.int .i64 0, .slice none 0 0, .int .i64 0, .int .i64 0, .int .i64 0]], []⟩ 8 (by kernel_rfl) (by kernel_rfl) (by kernel_rfl) (by kernel_rfl)) ?_
  intro W base args ds gs before hval0 hW hcnd _
  have hval : ∀ (j : Nat) t v, Try.f12.params[j]? = some t → args[j]? = some v → Value.okWide Try.prog W .any base t v := hval0
  have hW' := hW
  obtain ⟨p, q, hA0, hV, rfl, hfz, hnd⟩ := hW
  have hA : DataW.TrodAll enc Try.prog W 0 (fun _ => true) true Try.f12.params.toList args.toList ds p := hA0
  rw [Try.params12] at hA hval
  obtain ⟨v0, vs0, d0, ds0, p0, q0, hargs, rfl, rfl, h0, u0⟩ := trodAll_cons hA
  obtain ⟨v1, vs1, d1, ds1, p1, q1, rfl, rfl, rfl, h1, u1⟩ := trodAll_cons u0
  obtain ⟨v2, vs2, d2, ds2, p2, q2, rfl, rfl, rfl, h2, u2⟩ := trodAll_cons u1
  obtain ⟨v3, vs3, d3, ds3, p3, q3, rfl, rfl, rfl, h3, u3⟩ := trodAll_cons u2
  obtain ⟨rfl, rfl, rfl⟩ := trodAll_nil u3
  obtain rfl : args = #[v0, v1, v2, v3] := by cases args; simp_all
  obtain ⟨A0, m0, c0, rs0, hrs0⟩ := open_rd_rules Try.underlying43 Try.underlying62 (by kernel_rfl) rfl rfl rfl rfl rfl (by kernel_rfl) (by kernel_rfl) (by kernel_rfl) (by kernel_rfl) (by kernel_rfl) Try.underlying2 Try.underlying51 Try.underlying2 Try.underlying2 Try.underlying2 Try.underlying2 (by kernel_rfl) (hval 0 43 v0 rfl rfl) h0
  obtain ⟨rfl, r0, b0⟩ := open_rs (enc := enc) hrs0
  obtain ⟨z1, rfl, rfl, rfl, b1'⟩ := open_int Try.underlying2 (hval 1 2 v1 rfl rfl) h1
  have b1 := i64_bounds b1'
  obtain ⟨z2, rfl, rfl, rfl, b2'⟩ := open_int Try.underlying2 (hval 2 2 v2 rfl rfl) h2
  have b2 := i64_bounds b2'
  obtain ⟨hh3, f3, t3, k3, A3, m3, c3, z3, rfl, r3, b3⟩ := open_rl Try.underlying62 (by kernel_rfl) rfl rfl rfl rfl rfl (by kernel_rfl) (by kernel_rfl) (by kernel_rfl) (by kernel_rfl) (by kernel_rfl) Try.underlying2 Try.underlying51 Try.underlying2 Try.underlying2 Try.underlying2 Try.underlying2 (by kernel_rfl) (hval 3 62 v3 rfl rfl) h3
  clear hA0 hval0
  refine (lawAmendRule_walk A0 m0 c0 (rs0.map Ru.dat) z1 z2 hh3 f3 t3 k3 A3 m3 c3 z3 W r0 b0 b1 b2 r3 b3).mono fun e W' ⟨he, hb⟩ => ?_
  subst he
  exact ⟨_, rfl, post_true 4 Try.underlying4 (by kernel_rfl) laid_out (by kernel_rfl) rfl rfl hW' hb⟩
theorem lawAmendRule_over : Rows.fnExactAmendRuleRow.holds Try.pinned (OpenSpec.ofChange Rows.fnExactAmendRuleSpec) :=
  OpenClaim.holds_of_wide 12 Try.f12 rfl rfl rfl rfl rfl rfl rfl ⟨rfl, rfl, rfl, rfl, rfl⟩ rfl rfl rfl rfl rfl (by kernel_rfl) Try.func12 (by kernel_rfl)
    (of_decide_eq_true (by kernel_rfl)) (by unfold Func.isWrapper; first | (rw [if_pos (by decide +kernel)]; kernel_rfl) | (rw [if_neg (by decide +kernel)]; exact ⟨rfl, rfl⟩))
    (fun os started H enc _ => lawAmendRule_lifted os started H enc)
theorem lawAmendRule_proved : Rows.FnExactAmendRuleSaid := lawAmendRule_over
#print axioms lawAmendRule_proved
end Go.Proofs.Ytkdiegplbloccaa
