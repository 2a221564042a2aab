/-
  THE LAW FnExactSamePeople: for every input the program's SamePeople returns what the reference's returns, and changes no argument. Conditions: none.
-/
import Derived.Test.YtkdiegplbloccaaPeopL
namespace Go.Proofs.Ytkdiegplbloccaa
open Fl
open Go.ChangeShapes Go.WideShapes Go.ChangeAt Go.RowKit
set_option linter.unusedVariables false
set_option linter.unusedSimpArgs false
set_option maxHeartbeats 800000 in
theorem lawSamePeople_walk_long0 (p : Pp) (q : Pp) (W : World) (rp : PpRd W p) (wp : PpW p) (rq : PpRd W q) (wq : PpW q) (y0 : 1048576 < szP p) :
    Calls Try.prog 3 #[p.V, q.V] W fun e w' => e = .returned (.bool true) ∧ Below W.heap.size W w' := by
  unfold Pp.V
  go_enter Try.func3, Try.ntmps3
  go_wp2_with fail
  obtain ⟨w1, hw⟩ : ∃ x, x = (W.alloc (.cells #[.slice p.A p.n p.c, .slice p.B p.m p.d, .slice p.C p.k p.e] 24)).alloc (.cells #[.slice q.A q.n q.c, .slice q.B q.m q.d, .slice q.C q.k q.e] 24) := ⟨_, rfl⟩
  rw [← hw]
  have hB : Below W.heap.size W w1 := by rw [hw]; exact bl_2 _ _
  have bp : PBox w1 W.heap.size p := by rw [hw]; exact (PBox.new _ p _ (by simp)).on (bl_1 _)
  have bq : PBox w1 (W.heap.size + 1) q := by rw [hw]; exact PBox.new _ q _ (by simp)
  clear hw
  refine (szPeople_no p _ _ ⟨by omega, by omega⟩ wp (by omega)).mono ?_
  rintro e w2 ⟨rfl, hb⟩
  replace bp := bp.on hb
  replace bq := bq.on hb
  replace hB := below_step hB hb
  clear hb
  obtain ⟨_, x0_bp, x1_bp, x2_bp⟩ := id bp
  obtain ⟨_, x0_bq, x1_bq, x2_bq⟩ := id bq
  go_wp2_with fail
  clear x0_bp x1_bp x2_bp
  clear x0_bq x1_bq x2_bq
  go_ret
  exact ⟨rfl, hB⟩
set_option maxHeartbeats 800000 in
theorem lawSamePeople_walk_long1 (p : Pp) (q : Pp) (W : World) (rp : PpRd W p) (wp : PpW p) (rq : PpRd W q) (wq : PpW q) (y0 : szP p ≤ 1048576) (y1 : 1048576 < szP p + szP q) :
    Calls Try.prog 3 #[p.V, q.V] W fun e w' => e = .returned (.bool true) ∧ Below W.heap.size W w' := by
  unfold Pp.V
  go_enter Try.func3, Try.ntmps3
  go_wp2_with fail
  obtain ⟨w1, hw⟩ : ∃ x, x = (W.alloc (.cells #[.slice p.A p.n p.c, .slice p.B p.m p.d, .slice p.C p.k p.e] 24)).alloc (.cells #[.slice q.A q.n q.c, .slice q.B q.m q.d, .slice q.C q.k q.e] 24) := ⟨_, rfl⟩
  rw [← hw]
  have hB : Below W.heap.size W w1 := by rw [hw]; exact bl_2 _ _
  have bp : PBox w1 W.heap.size p := by rw [hw]; exact (PBox.new _ p _ (by simp)).on (bl_1 _)
  have bq : PBox w1 (W.heap.size + 1) q := by rw [hw]; exact PBox.new _ q _ (by simp)
  clear hw
  refine (szPeople_yes p _ _ ⟨by omega, by omega⟩ wp (by omega)).mono ?_
  rintro e w2 ⟨l0, rfl, hl0, el0, hb⟩
  have El0 := Lib.hid el0; clear el0
  replace bp := bp.on hb
  replace bq := bq.on hb
  replace hB := below_step hB hb
  clear hb
  obtain ⟨_, x0_bp, x1_bp, x2_bp⟩ := id bp
  obtain ⟨_, x0_bq, x1_bq, x2_bq⟩ := id bq
  go_wp2_with fail
  clear x0_bp x1_bp x2_bp
  clear x0_bq x1_bq x2_bq
  refine (szPeople_no q _ _ hl0 wq (by have := El0.out; omega)).mono ?_
  rintro e w3 ⟨rfl, hb⟩
  replace bp := bp.on hb
  replace bq := bq.on hb
  replace hB := below_step hB hb
  clear hb
  obtain ⟨_, x0_bp, x1_bp, x2_bp⟩ := id bp
  obtain ⟨_, x0_bq, x1_bq, x2_bq⟩ := id bq
  go_wp2_with fail
  clear x0_bp x1_bp x2_bp
  clear x0_bq x1_bq x2_bq
  go_ret
  exact ⟨rfl, hB⟩
set_option maxRecDepth 100000 in
set_option maxHeartbeats 12800000 in
theorem lawSamePeople_walk_short (p : Pp) (q : Pp) (W : World) (rp : PpRd W p) (wp : PpW p) (rq : PpRd W q) (wq : PpW q) (y0 : szP p ≤ 1048576) (y1 : szP p + szP q ≤ 1048576) :
    Calls Try.prog 3 #[p.V, q.V] W fun e w' => e = .returned (.bool true) ∧ Below W.heap.size W w' := by
  have sp : PpB p := ⟨by unfold szP at *; omega, by unfold szP at *; omega, by unfold szP at *; omega, wp.f0, wp.f1, wp.f2⟩
  have sq : PpB q := ⟨by unfold szP at *; omega, by unfold szP at *; omega, by unfold szP at *; omega, wq.f0, wq.f1, wq.f2⟩
  unfold Pp.V
  go_enter Try.func3, Try.ntmps3
  go_wp2_with fail
  obtain ⟨w1, hw⟩ : ∃ x, x = (W.alloc (.cells #[.slice p.A p.n p.c, .slice p.B p.m p.d, .slice p.C p.k p.e] 24)).alloc (.cells #[.slice q.A q.n q.c, .slice q.B q.m q.d, .slice q.C q.k q.e] 24) := ⟨_, rfl⟩
  rw [← hw]
  have hB : Below W.heap.size W w1 := by rw [hw]; exact bl_2 _ _
  have bp : PBox w1 W.heap.size p := by rw [hw]; exact (PBox.new _ p _ (by simp)).on (bl_1 _)
  have bq : PBox w1 (W.heap.size + 1) q := by rw [hw]; exact PBox.new _ q _ (by simp)
  clear hw
  refine (szPeople_yes p _ _ ⟨by omega, by omega⟩ wp (by omega)).mono ?_
  rintro e w2 ⟨l0, rfl, hl0, el0, hb⟩
  have El0 := Lib.hid el0; clear el0
  replace bp := bp.on hb
  replace bq := bq.on hb
  replace hB := below_step hB hb
  clear hb
  obtain ⟨_, x0_bp, x1_bp, x2_bp⟩ := id bp
  obtain ⟨_, x0_bq, x1_bq, x2_bq⟩ := id bq
  go_wp2_with fail
  clear x0_bp x1_bp x2_bp
  clear x0_bq x1_bq x2_bq
  refine (szPeople_yes q _ _ hl0 wq (by have := El0.out; omega)).mono ?_
  rintro e w3 ⟨l1, rfl, hl1, el1, hb⟩
  have El1 := Lib.hid el1; clear el1
  replace bp := bp.on hb
  replace bq := bq.on hb
  replace hB := below_step hB hb
  clear hb
  obtain ⟨_, x0_bp, x1_bp, x2_bp⟩ := id bp
  obtain ⟨_, x0_bq, x1_bq, x2_bq⟩ := id bq
  have KEEP := Lib.hid (fun (w' : World) (h : Below w3.heap.size w3 w') => show (fun w' => w'.cell? ⟨W.heap.size, 0, none⟩ = some (.slice p.A p.n p.c) ∧ w'.cell? ⟨W.heap.size, 1, none⟩ = some (.slice p.B p.m p.d) ∧ w'.cell? ⟨W.heap.size, 2, none⟩ = some (.slice p.C p.k p.e) ∧ w'.cell? ⟨W.heap.size + 1, 0, none⟩ = some (.slice q.A q.n q.c) ∧ w'.cell? ⟨W.heap.size + 1, 1, none⟩ = some (.slice q.B q.m q.d) ∧ w'.cell? ⟨W.heap.size + 1, 2, none⟩ = some (.slice q.C q.k q.e)) w' from (by have q_bp := bp.on h; have q_bq := bq.on h; exact ⟨q_bp.c0, q_bp.c1, q_bp.c2, q_bq.c0, q_bq.c1, q_bq.c2⟩))
  go_wp2_with fail
  have hK : Below w3.heap.size w3 (w3.drewN 1) := below_drewN (Below.refl _ _) 1
  replace bp := bp.on hK
  replace bq := bq.on hK
  replace hB := below_drewN hB 1
  go_region_held3 (fun w' => w'.cell? ⟨W.heap.size, 0, none⟩ = some (.slice p.A p.n p.c) ∧ w'.cell? ⟨W.heap.size, 1, none⟩ = some (.slice p.B p.m p.d) ∧ w'.cell? ⟨W.heap.size, 2, none⟩ = some (.slice p.C p.k p.e) ∧ w'.cell? ⟨W.heap.size + 1, 0, none⟩ = some (.slice q.A q.n q.c) ∧ w'.cell? ⟨W.heap.size + 1, 1, none⟩ = some (.slice q.B q.m q.d) ∧ w'.cell? ⟨W.heap.size + 1, 2, none⟩ = some (.slice q.C q.k q.e))
    (first | go_keep | exact KEEP.out _ hK)
    (first
      | (go_at_call_of 17 p
         refine (toPeople_any p _ (rp.on hB) sp).mono ?_
         rintro e w4 ⟨up, rfl, rup, sup, hb⟩
         replace bp := bp.on hb
         replace bq := bq.on hb
         replace hB := below_step hB hb
         replace hK := hK.trans (hb.mono (Nat.le_refl _))
         clear hb)
      | (go_at_call_of 17 q
         refine (toPeople_any q _ (rq.on hB) sq).mono ?_
         rintro e w5 ⟨uq, rfl, ruq, suq, hb⟩
         replace bp := bp.on hb
         replace bq := bq.on hb
         replace rup := rup.on hb
         replace hB := below_step hB hb
         replace hK := below_step hK hb
         clear hb)
      | (go_at_call 16
         refine (spec_SamePeople' up uq _ rup ruq (sup.b sp) (suq.b sq) (same_r0 sup suq)).mono ?_
         rintro e w6 ⟨rfl, hb⟩
         replace bp := bp.on hb
         replace bq := bq.on hb
         replace rup := rup.on hb
         replace ruq := ruq.on hb
         replace hB := below_step hB hb
         replace hK := below_step hK hb
         clear hb))
  clear KEEP hK x0_bp x1_bp x2_bp x0_bq x1_bq x2_bq
  clear rup sup
  clear ruq suq
  obtain ⟨_, x0_bp, x1_bp, x2_bp⟩ := id bp
  obtain ⟨_, x0_bq, x1_bq, x2_bq⟩ := id bq
  go_wp2_with fail
  clear x0_bp x1_bp x2_bp
  clear x0_bq x1_bq x2_bq
  refine (toPeople_any p _ (rp.on hB) sp).mono ?_
  rintro e w7 ⟨vp, rfl, rvp, svp, hb⟩
  replace bp := bp.on hb
  replace bq := bq.on hb
  replace hB := below_step hB hb
  clear hb
  unfold Pp.V
  obtain ⟨_, x0_bp, x1_bp, x2_bp⟩ := id bp
  obtain ⟨_, x0_bq, x1_bq, x2_bq⟩ := id bq
  go_wp2_with fail
  clear x0_bp x1_bp x2_bp
  clear x0_bq x1_bq x2_bq
  obtain ⟨w8, hw⟩ : ∃ x, x = w7.alloc (.cells #[.slice vp.A vp.n vp.c, .slice vp.B vp.m vp.d, .slice vp.C vp.k vp.e] 27) := ⟨_, rfl⟩
  rw [← hw]
  have hb : Below w7.heap.size w7 w8 := by rw [hw]; exact bl_1 _
  have bvp : PBox w8 w7.heap.size vp := by rw [hw]; exact PBox.new _ vp _ rfl
  clear hw
  replace bp := bp.on hb
  replace bq := bq.on hb
  replace rvp := rvp.on hb
  replace hB := below_step hB hb
  clear hb
  refine (toPeople_any q _ (rq.on hB) sq).mono ?_
  rintro e w9 ⟨vq, rfl, rvq, svq, hb⟩
  replace bp := bp.on hb
  replace bq := bq.on hb
  replace bvp := bvp.on hb
  replace rvp := rvp.on hb
  replace hB := below_step hB hb
  clear hb
  unfold Pp.V
  obtain ⟨_, x0_bp, x1_bp, x2_bp⟩ := id bp
  obtain ⟨_, x0_bq, x1_bq, x2_bq⟩ := id bq
  obtain ⟨_, x0_bvp, x1_bvp, x2_bvp⟩ := id bvp
  go_wp2_with fail
  clear x0_bp x1_bp x2_bp
  clear x0_bq x1_bq x2_bq
  clear x0_bvp x1_bvp x2_bvp
  obtain ⟨w10, hw⟩ : ∃ x, x = w9.alloc (.cells #[.slice vq.A vq.n vq.c, .slice vq.B vq.m vq.d, .slice vq.C vq.k vq.e] 27) := ⟨_, rfl⟩
  rw [← hw]
  have hb : Below w9.heap.size w9 w10 := by rw [hw]; exact bl_1 _
  have bvq : PBox w10 w9.heap.size vq := by rw [hw]; exact PBox.new _ vq _ rfl
  clear hw
  replace bp := bp.on hb
  replace bq := bq.on hb
  replace bvp := bvp.on hb
  replace rvp := rvp.on hb
  replace rvq := rvq.on hb
  replace hB := below_step hB hb
  clear hb
  refine (impl_SamePeople' vp vq _ rvp rvq (svp.b sp) (svq.b sq) (same_r0 svp svq)).mono ?_
  rintro e w11 ⟨rfl, hb⟩
  replace bp := bp.on hb
  replace bq := bq.on hb
  replace bvp := bvp.on hb
  replace bvq := bvq.on hb
  replace rvp := rvp.on hb
  replace rvq := rvq.on hb
  replace hB := below_step hB hb
  clear hb
  obtain ⟨_, x0_bp, x1_bp, x2_bp⟩ := id bp
  obtain ⟨_, x0_bq, x1_bq, x2_bq⟩ := id bq
  obtain ⟨_, x0_bvp, x1_bvp, x2_bvp⟩ := id bvp
  obtain ⟨_, x0_bvq, x1_bvq, x2_bvq⟩ := id bvq
  have KEEP := Lib.hid (fun (w' : World) (h : Below w11.heap.size w11 w') => show (fun w' => w'.cell? ⟨W.heap.size, 0, none⟩ = some (.slice p.A p.n p.c) ∧ w'.cell? ⟨W.heap.size, 1, none⟩ = some (.slice p.B p.m p.d) ∧ w'.cell? ⟨W.heap.size, 2, none⟩ = some (.slice p.C p.k p.e) ∧ w'.cell? ⟨W.heap.size + 1, 0, none⟩ = some (.slice q.A q.n q.c) ∧ w'.cell? ⟨W.heap.size + 1, 1, none⟩ = some (.slice q.B q.m q.d) ∧ w'.cell? ⟨W.heap.size + 1, 2, none⟩ = some (.slice q.C q.k q.e) ∧ w'.cell? ⟨w7.heap.size, 0, none⟩ = some (.slice vp.A vp.n vp.c) ∧ w'.cell? ⟨w7.heap.size, 1, none⟩ = some (.slice vp.B vp.m vp.d) ∧ w'.cell? ⟨w7.heap.size, 2, none⟩ = some (.slice vp.C vp.k vp.e) ∧ w'.cell? ⟨w9.heap.size, 0, none⟩ = some (.slice vq.A vq.n vq.c) ∧ w'.cell? ⟨w9.heap.size, 1, none⟩ = some (.slice vq.B vq.m vq.d) ∧ w'.cell? ⟨w9.heap.size, 2, none⟩ = some (.slice vq.C vq.k vq.e)) w' from (by have q_bp := bp.on h; have q_bq := bq.on h; have q_bvp := bvp.on h; have q_bvq := bvq.on h; exact ⟨q_bp.c0, q_bp.c1, q_bp.c2, q_bq.c0, q_bq.c1, q_bq.c2, q_bvp.c0, q_bvp.c1, q_bvp.c2, q_bvq.c0, q_bvq.c1, q_bvq.c2⟩))
  go_wp2_with fail
  have hK : Below w11.heap.size w11 (w11.drewN 1) := below_drewN (Below.refl _ _) 1
  replace bp := bp.on hK
  replace bq := bq.on hK
  replace bvp := bvp.on hK
  replace bvq := bvq.on hK
  replace rvp := rvp.on hK
  replace rvq := rvq.on hK
  replace hB := below_drewN hB 1
  go_region_held3 (fun w' => w'.cell? ⟨W.heap.size, 0, none⟩ = some (.slice p.A p.n p.c) ∧ w'.cell? ⟨W.heap.size, 1, none⟩ = some (.slice p.B p.m p.d) ∧ w'.cell? ⟨W.heap.size, 2, none⟩ = some (.slice p.C p.k p.e) ∧ w'.cell? ⟨W.heap.size + 1, 0, none⟩ = some (.slice q.A q.n q.c) ∧ w'.cell? ⟨W.heap.size + 1, 1, none⟩ = some (.slice q.B q.m q.d) ∧ w'.cell? ⟨W.heap.size + 1, 2, none⟩ = some (.slice q.C q.k q.e) ∧ w'.cell? ⟨w7.heap.size, 0, none⟩ = some (.slice vp.A vp.n vp.c) ∧ w'.cell? ⟨w7.heap.size, 1, none⟩ = some (.slice vp.B vp.m vp.d) ∧ w'.cell? ⟨w7.heap.size, 2, none⟩ = some (.slice vp.C vp.k vp.e) ∧ w'.cell? ⟨w9.heap.size, 0, none⟩ = some (.slice vq.A vq.n vq.c) ∧ w'.cell? ⟨w9.heap.size, 1, none⟩ = some (.slice vq.B vq.m vq.d) ∧ w'.cell? ⟨w9.heap.size, 2, none⟩ = some (.slice vq.C vq.k vq.e))
    (first | go_keep | exact KEEP.out _ hK)
    (first
      | (go_at_call_of 17 p
         refine (toPeople_any p _ (rp.on hB) sp).mono ?_
         rintro e w12 ⟨tp, rfl, rtp, stp, hb⟩
         replace bp := bp.on hb
         replace bq := bq.on hb
         replace bvp := bvp.on hb
         replace bvq := bvq.on hb
         replace rvp := rvp.on hb
         replace rvq := rvq.on hb
         replace hB := below_step hB hb
         replace hK := hK.trans (hb.mono (Nat.le_refl _))
         clear hb)
      | (go_at_call 19
         refine (eqPeople_yes vp tp _ rvp rtp (svp.b sp) (svp.back stp)).mono ?_
         rintro e w13 ⟨rfl, hb⟩
         replace bp := bp.on hb
         replace bq := bq.on hb
         replace bvp := bvp.on hb
         replace bvq := bvq.on hb
         replace rvp := rvp.on hb
         replace rvq := rvq.on hb
         replace rtp := rtp.on hb
         replace hB := below_step hB hb
         replace hK := below_step hK hb
         clear hb))
  clear KEEP hK x0_bp x1_bp x2_bp x0_bq x1_bq x2_bq x0_bvp x1_bvp x2_bvp x0_bvq x1_bvq x2_bvq
  clear rtp stp
  obtain ⟨_, x0_bp, x1_bp, x2_bp⟩ := id bp
  obtain ⟨_, x0_bq, x1_bq, x2_bq⟩ := id bq
  obtain ⟨_, x0_bvp, x1_bvp, x2_bvp⟩ := id bvp
  obtain ⟨_, x0_bvq, x1_bvq, x2_bvq⟩ := id bvq
  have KEEP := Lib.hid (fun (w' : World) (h : Below w13.heap.size w13 w') => show (fun w' => w'.cell? ⟨W.heap.size, 0, none⟩ = some (.slice p.A p.n p.c) ∧ w'.cell? ⟨W.heap.size, 1, none⟩ = some (.slice p.B p.m p.d) ∧ w'.cell? ⟨W.heap.size, 2, none⟩ = some (.slice p.C p.k p.e) ∧ w'.cell? ⟨W.heap.size + 1, 0, none⟩ = some (.slice q.A q.n q.c) ∧ w'.cell? ⟨W.heap.size + 1, 1, none⟩ = some (.slice q.B q.m q.d) ∧ w'.cell? ⟨W.heap.size + 1, 2, none⟩ = some (.slice q.C q.k q.e) ∧ w'.cell? ⟨w7.heap.size, 0, none⟩ = some (.slice vp.A vp.n vp.c) ∧ w'.cell? ⟨w7.heap.size, 1, none⟩ = some (.slice vp.B vp.m vp.d) ∧ w'.cell? ⟨w7.heap.size, 2, none⟩ = some (.slice vp.C vp.k vp.e) ∧ w'.cell? ⟨w9.heap.size, 0, none⟩ = some (.slice vq.A vq.n vq.c) ∧ w'.cell? ⟨w9.heap.size, 1, none⟩ = some (.slice vq.B vq.m vq.d) ∧ w'.cell? ⟨w9.heap.size, 2, none⟩ = some (.slice vq.C vq.k vq.e)) w' from (by have q_bp := bp.on h; have q_bq := bq.on h; have q_bvp := bvp.on h; have q_bvq := bvq.on h; exact ⟨q_bp.c0, q_bp.c1, q_bp.c2, q_bq.c0, q_bq.c1, q_bq.c2, q_bvp.c0, q_bvp.c1, q_bvp.c2, q_bvq.c0, q_bvq.c1, q_bvq.c2⟩))
  go_wp2_with fail
  have hK : Below w13.heap.size w13 (w13.drewN 1) := below_drewN (Below.refl _ _) 1
  replace bp := bp.on hK
  replace bq := bq.on hK
  replace bvp := bvp.on hK
  replace bvq := bvq.on hK
  replace rvp := rvp.on hK
  replace rvq := rvq.on hK
  replace hB := below_drewN hB 1
  go_region_held3 (fun w' => w'.cell? ⟨W.heap.size, 0, none⟩ = some (.slice p.A p.n p.c) ∧ w'.cell? ⟨W.heap.size, 1, none⟩ = some (.slice p.B p.m p.d) ∧ w'.cell? ⟨W.heap.size, 2, none⟩ = some (.slice p.C p.k p.e) ∧ w'.cell? ⟨W.heap.size + 1, 0, none⟩ = some (.slice q.A q.n q.c) ∧ w'.cell? ⟨W.heap.size + 1, 1, none⟩ = some (.slice q.B q.m q.d) ∧ w'.cell? ⟨W.heap.size + 1, 2, none⟩ = some (.slice q.C q.k q.e) ∧ w'.cell? ⟨w7.heap.size, 0, none⟩ = some (.slice vp.A vp.n vp.c) ∧ w'.cell? ⟨w7.heap.size, 1, none⟩ = some (.slice vp.B vp.m vp.d) ∧ w'.cell? ⟨w7.heap.size, 2, none⟩ = some (.slice vp.C vp.k vp.e) ∧ w'.cell? ⟨w9.heap.size, 0, none⟩ = some (.slice vq.A vq.n vq.c) ∧ w'.cell? ⟨w9.heap.size, 1, none⟩ = some (.slice vq.B vq.m vq.d) ∧ w'.cell? ⟨w9.heap.size, 2, none⟩ = some (.slice vq.C vq.k vq.e))
    (first | go_keep | exact KEEP.out _ hK)
    (first
      | (go_at_call_of 17 q
         refine (toPeople_any q _ (rq.on hB) sq).mono ?_
         rintro e w14 ⟨tq, rfl, rtq, stq, hb⟩
         replace bp := bp.on hb
         replace bq := bq.on hb
         replace bvp := bvp.on hb
         replace bvq := bvq.on hb
         replace rvp := rvp.on hb
         replace rvq := rvq.on hb
         replace hB := below_step hB hb
         replace hK := hK.trans (hb.mono (Nat.le_refl _))
         clear hb)
      | (go_at_call 19
         refine (eqPeople_yes vq tq _ rvq rtq (svq.b sq) (svq.back stq)).mono ?_
         rintro e w15 ⟨rfl, hb⟩
         replace bp := bp.on hb
         replace bq := bq.on hb
         replace bvp := bvp.on hb
         replace bvq := bvq.on hb
         replace rvp := rvp.on hb
         replace rvq := rvq.on hb
         replace rtq := rtq.on hb
         replace hB := below_step hB hb
         replace hK := below_step hK hb
         clear hb))
  clear KEEP hK x0_bp x1_bp x2_bp x0_bq x1_bq x2_bq x0_bvp x1_bvp x2_bvp x0_bvq x1_bvq x2_bvq
  clear rtq stq
  obtain ⟨_, x0_bp, x1_bp, x2_bp⟩ := id bp
  obtain ⟨_, x0_bq, x1_bq, x2_bq⟩ := id bq
  obtain ⟨_, x0_bvp, x1_bvp, x2_bvp⟩ := id bvp
  obtain ⟨_, x0_bvq, x1_bvq, x2_bvq⟩ := id bvq
  go_wp2_with fail
  clear x0_bp x1_bp x2_bp
  clear x0_bq x1_bq x2_bq
  clear x0_bvp x1_bvp x2_bvp
  clear x0_bvq x1_bvq x2_bvq
  go_ret
  exact ⟨rfl, hB⟩
theorem lawSamePeople_walk (p : Pp) (q : Pp) (W : World) (rp : PpRd W p) (wp : PpW p) (rq : PpRd W q) (wq : PpW q) :
    Calls Try.prog 3 #[p.V, q.V] W fun e w' => e = .returned (.bool true) ∧ Below W.heap.size W w' := by
  by_cases y0 : szP p ≤ 1048576
  case neg => exact lawSamePeople_walk_long0 p q W rp wp rq wq  (by omega)
  by_cases y1 : szP p + szP q ≤ 1048576
  case neg => exact lawSamePeople_walk_long1 p q W rp wp rq wq y0 (by omega)
  exact lawSamePeople_walk_short p q W rp wp rq wq y0 y1
set_option maxRecDepth 100000 in
theorem lawSamePeople_lifted (os : Os) (started : os.Started) (H : Type) (enc : TypeId × Value → H) :
    ReturnsInHanded {} Try.checked os 3 .any (Rows.fnExactSamePeopleSpec.pre6 enc Try.prog Try.f3 Rows.fnExactSamePeopleRow.domain false) (Rows.fnExactSamePeopleSpec.post enc Try.prog Try.f3 false true false false) := by
  refine returnsInHanded_of_change (C := Try.checked) own_knob started (by kernel_rfl) Try.func3
    (ChangeSpec.witness6 (enc := enc) (C := Try.checked) false ⟨#[], #[.agg #[.slice none 0 0, .slice none 0 0, .slice none 0 0], .agg #[.slice none 0 0, .slice none 0 0, .slice none 0 0]], []⟩ 8 (by kernel_rfl) (by kernel_rfl) (by kernel_rfl) (by kernel_rfl)) ?_
  intro W base args ds gs before hval0 hW hcnd _
  have hval : ∀ (j : Nat) t v, Try.f3.params[j]? = some t → args[j]? = some v → Value.okWide Try.prog W .any base t v := hval0
  have hW' := hW
  obtain ⟨p, q, hA0, hV, rfl, hfz, hnd⟩ := hW
  have hA : DataW.TrodAll enc Try.prog W 0 (fun _ => true) true Try.f3.params.toList args.toList ds p := hA0
  rw [Try.params3] at hA hval
  obtain ⟨v0, vs0, d0, ds0, p0, q0, hargs, rfl, rfl, h0, u0⟩ := trodAll_cons hA
  obtain ⟨v1, vs1, d1, ds1, p1, q1, rfl, rfl, rfl, h1, u1⟩ := trodAll_cons u0
  obtain ⟨rfl, rfl, rfl⟩ := trodAll_nil u1
  obtain rfl : args = #[v0, v1] := by cases args; simp_all
  obtain ⟨a0, rfl, r0, b0⟩ := open_people Try.underlying24 (by kernel_rfl) rfl rfl rfl (by kernel_rfl) (by kernel_rfl) (by kernel_rfl) Try.underlying22 Try.underlying22 Try.underlying22 Try.underlying32 (by kernel_rfl) (hval 0 24 v0 rfl rfl) h0
  obtain ⟨a1, rfl, r1, b1⟩ := open_people Try.underlying24 (by kernel_rfl) rfl rfl rfl (by kernel_rfl) (by kernel_rfl) (by kernel_rfl) Try.underlying22 Try.underlying22 Try.underlying22 Try.underlying32 (by kernel_rfl) (hval 1 24 v1 rfl rfl) h1
  clear hA0 hval0
  refine (lawSamePeople_walk a0 a1 W r0 b0 r1 b1).mono fun e W' ⟨he, hb⟩ => ?_
  subst he
  exact ⟨_, rfl, post_true 4 Try.underlying4 (by kernel_rfl) laid_out (by kernel_rfl) rfl rfl hW' hb⟩
theorem lawSamePeople_over : Rows.fnExactSamePeopleRow.holds Try.pinned (OpenSpec.ofChange Rows.fnExactSamePeopleSpec) :=
  OpenClaim.holds_of_wide 3 Try.f3 rfl rfl rfl rfl rfl rfl rfl ⟨rfl, rfl, rfl, rfl, rfl⟩ rfl rfl rfl rfl rfl (by kernel_rfl) Try.func3 (by kernel_rfl)
    (of_decide_eq_true (by kernel_rfl)) (by unfold Func.isWrapper; first | (rw [if_pos (by decide +kernel)]; kernel_rfl) | (rw [if_neg (by decide +kernel)]; exact ⟨rfl, rfl⟩))
    (fun os started H enc _ => lawSamePeople_lifted os started H enc)
theorem lawSamePeople_proved : Rows.FnExactSamePeopleSaid := lawSamePeople_over
#print axioms lawSamePeople_proved
end Go.Proofs.Ytkdiegplbloccaa
