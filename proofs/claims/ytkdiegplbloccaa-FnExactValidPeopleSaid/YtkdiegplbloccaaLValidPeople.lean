/-
  THE LAW FnExactValidPeople: for every input the program's ValidPeople returns what the reference's returns, and changes no argument. Conditions: none.
-/
import Derived.Test.YtkdiegplbloccaaPeopL
import Derived.Test.YtkdiegplbloccaaPeopV
namespace Go.Proofs.Ytkdiegplbloccaa
open Fl
open Go.ChangeShapes Go.WideShapes Go.ChangeAt Go.RowKit
set_option linter.unusedVariables false
set_option linter.unusedSimpArgs false
set_option maxHeartbeats 800000 in
theorem lawValidPeople_walk_long0 (p : Pp) (W : World) (rp : PpRd W p) (wp : PpW p) (y0 : 1048576 < szP p) :
    Calls Try.prog 4 #[p.V] W fun e w' => e = .returned (.bool true) ∧ Below W.heap.size W w' := by
  unfold Pp.V
  go_enter Try.func4, Try.ntmps4
  go_wp2_with fail
  obtain ⟨w1, hw⟩ : ∃ x, x = W.alloc (.cells #[.slice p.A p.n p.c, .slice p.B p.m p.d, .slice p.C p.k p.e] 24) := ⟨_, rfl⟩
  rw [← hw]
  have hB : Below W.heap.size W w1 := by rw [hw]; exact bl_1 _
  have bp : PBox w1 (W.heap.size) p := by rw [hw]; exact PBox.new _ p _ (by simp)
  clear hw
  refine (szPeople_no p _ _ ⟨by omega, by omega⟩ wp (by omega)).mono ?_
  rintro e w2 ⟨rfl, hb⟩
  replace bp := bp.on hb
  replace hB := below_step hB hb
  clear hb
  obtain ⟨_, x0_bp, x1_bp, x2_bp⟩ := id bp
  go_wp2_with fail
  clear x0_bp x1_bp x2_bp
  go_ret
  exact ⟨rfl, hB⟩
set_option maxRecDepth 100000 in
set_option maxHeartbeats 12800000 in
theorem lawValidPeople_walk_short (p : Pp) (W : World) (rp : PpRd W p) (wp : PpW p) (y0 : szP p ≤ 1048576) :
    Calls Try.prog 4 #[p.V] W fun e w' => e = .returned (.bool true) ∧ Below W.heap.size W w' := by
  have sp : PpB p := ⟨by unfold szP at *; omega, by unfold szP at *; omega, by unfold szP at *; omega, wp.f0, wp.f1, wp.f2⟩
  unfold Pp.V
  go_enter Try.func4, Try.ntmps4
  go_wp2_with fail
  obtain ⟨w1, hw⟩ : ∃ x, x = W.alloc (.cells #[.slice p.A p.n p.c, .slice p.B p.m p.d, .slice p.C p.k p.e] 24) := ⟨_, rfl⟩
  rw [← hw]
  have hB : Below W.heap.size W w1 := by rw [hw]; exact bl_1 _
  have bp : PBox w1 (W.heap.size) p := by rw [hw]; exact PBox.new _ p _ (by simp)
  clear hw
  refine (szPeople_yes p _ _ ⟨by omega, by omega⟩ wp (by omega)).mono ?_
  rintro e w2 ⟨l0, rfl, hl0, el0, hb⟩
  have El0 := Lib.hid el0; clear el0
  replace bp := bp.on hb
  replace hB := below_step hB hb
  clear hb
  obtain ⟨_, x0_bp, x1_bp, x2_bp⟩ := id bp
  go_wp2_with fail
  clear x0_bp x1_bp x2_bp
  refine (toPeople_any p _ (rp.on hB) sp).mono ?_
  rintro e w3 ⟨up, rfl, rup, sup, hb⟩
  replace bp := bp.on hb
  replace hB := below_step hB hb
  clear hb
  obtain ⟨_, x0_bp, x1_bp, x2_bp⟩ := id bp
  go_wp2_with fail
  clear x0_bp x1_bp x2_bp
  refine (spec_ValidPeople' up _ rup (sup.b sp) (valid_r0 sup)).mono ?_
  rintro e w4 ⟨rfl, hb⟩
  replace bp := bp.on hb
  replace rup := rup.on hb
  replace hB := below_step hB hb
  clear hb
  clear rup sup
  obtain ⟨_, x0_bp, x1_bp, x2_bp⟩ := id bp
  go_wp2_with fail
  clear x0_bp x1_bp x2_bp
  refine (toPeople_any p _ (rp.on hB) sp).mono ?_
  rintro e w5 ⟨vp, rfl, rvp, svp, hb⟩
  replace bp := bp.on hb
  replace hB := below_step hB hb
  clear hb
  unfold Pp.V
  obtain ⟨_, x0_bp, x1_bp, x2_bp⟩ := id bp
  go_wp2_with fail
  clear x0_bp x1_bp x2_bp
  obtain ⟨w6, hw⟩ : ∃ x, x = w5.alloc (.cells #[.slice vp.A vp.n vp.c, .slice vp.B vp.m vp.d, .slice vp.C vp.k vp.e] 27) := ⟨_, rfl⟩
  rw [← hw]
  have hb : Below w5.heap.size w5 w6 := by rw [hw]; exact bl_1 _
  have bvp : PBox w6 w5.heap.size vp := by rw [hw]; exact PBox.new _ vp _ rfl
  clear hw
  replace bp := bp.on hb
  replace rvp := rvp.on hb
  replace hB := below_step hB hb
  clear hb
  refine (impl_ValidPeople' vp _ rvp (svp.b sp) (valid_r0 svp)).mono ?_
  rintro e w7 ⟨rfl, hb⟩
  replace bp := bp.on hb
  replace bvp := bvp.on hb
  replace rvp := rvp.on hb
  replace hB := below_step hB hb
  clear hb
  obtain ⟨_, x0_bp, x1_bp, x2_bp⟩ := id bp
  obtain ⟨_, x0_bvp, x1_bvp, x2_bvp⟩ := id bvp
  have KEEP := Lib.hid (fun (w' : World) (h : Below w7.heap.size w7 w') => show (fun w' => w'.cell? ⟨W.heap.size, 0, none⟩ = some (.slice p.A p.n p.c) ∧ w'.cell? ⟨W.heap.size, 1, none⟩ = some (.slice p.B p.m p.d) ∧ w'.cell? ⟨W.heap.size, 2, none⟩ = some (.slice p.C p.k p.e) ∧ w'.cell? ⟨w5.heap.size, 0, none⟩ = some (.slice vp.A vp.n vp.c) ∧ w'.cell? ⟨w5.heap.size, 1, none⟩ = some (.slice vp.B vp.m vp.d) ∧ w'.cell? ⟨w5.heap.size, 2, none⟩ = some (.slice vp.C vp.k vp.e)) w' from (by have q_bp := bp.on h; have q_bvp := bvp.on h; exact ⟨q_bp.c0, q_bp.c1, q_bp.c2, q_bvp.c0, q_bvp.c1, q_bvp.c2⟩))
  go_wp2_with fail
  have hK : Below w7.heap.size w7 (w7.drewN 1) := below_drewN (Below.refl _ _) 1
  replace bp := bp.on hK
  replace bvp := bvp.on hK
  replace rvp := rvp.on hK
  replace hB := below_drewN hB 1
  go_region_held3 (fun w' => w'.cell? ⟨W.heap.size, 0, none⟩ = some (.slice p.A p.n p.c) ∧ w'.cell? ⟨W.heap.size, 1, none⟩ = some (.slice p.B p.m p.d) ∧ w'.cell? ⟨W.heap.size, 2, none⟩ = some (.slice p.C p.k p.e) ∧ w'.cell? ⟨w5.heap.size, 0, none⟩ = some (.slice vp.A vp.n vp.c) ∧ w'.cell? ⟨w5.heap.size, 1, none⟩ = some (.slice vp.B vp.m vp.d) ∧ w'.cell? ⟨w5.heap.size, 2, none⟩ = some (.slice vp.C vp.k vp.e))
    (first | go_keep | exact KEEP.out _ hK)
    (first
      | (go_at_call_of 17 p
         refine (toPeople_any p _ (rp.on hB) sp).mono ?_
         rintro e w8 ⟨tp, rfl, rtp, stp, hb⟩
         replace bp := bp.on hb
         replace bvp := bvp.on hb
         replace rvp := rvp.on hb
         replace hB := below_step hB hb
         replace hK := hK.trans (hb.mono (Nat.le_refl _))
         clear hb)
      | (go_at_call 19
         refine (eqPeople_yes vp tp _ rvp rtp (svp.b sp) (svp.back stp)).mono ?_
         rintro e w9 ⟨rfl, hb⟩
         replace bp := bp.on hb
         replace bvp := bvp.on hb
         replace rvp := rvp.on hb
         replace rtp := rtp.on hb
         replace hB := below_step hB hb
         replace hK := below_step hK hb
         clear hb))
  clear KEEP hK x0_bp x1_bp x2_bp x0_bvp x1_bvp x2_bvp
  clear rtp stp
  obtain ⟨_, x0_bp, x1_bp, x2_bp⟩ := id bp
  obtain ⟨_, x0_bvp, x1_bvp, x2_bvp⟩ := id bvp
  go_wp2_with fail
  clear x0_bp x1_bp x2_bp
  clear x0_bvp x1_bvp x2_bvp
  go_ret
  exact ⟨rfl, hB⟩
theorem lawValidPeople_walk (p : Pp) (W : World) (rp : PpRd W p) (wp : PpW p) :
    Calls Try.prog 4 #[p.V] W fun e w' => e = .returned (.bool true) ∧ Below W.heap.size W w' := by
  by_cases y0 : szP p ≤ 1048576
  case neg => exact lawValidPeople_walk_long0 p W rp wp  (by omega)
  exact lawValidPeople_walk_short p W rp wp y0
set_option maxRecDepth 100000 in
theorem lawValidPeople_lifted (os : Os) (started : os.Started) (H : Type) (enc : TypeId × Value → H) :
    ReturnsInHanded {} Try.checked os 4 .any (Rows.fnExactValidPeopleSpec.pre6 enc Try.prog Try.f4 Rows.fnExactValidPeopleRow.domain false) (Rows.fnExactValidPeopleSpec.post enc Try.prog Try.f4 false true false false) := by
  refine returnsInHanded_of_change (C := Try.checked) own_knob started (by kernel_rfl) Try.func4
    (ChangeSpec.witness6 (enc := enc) (C := Try.checked) false ⟨#[], #[.agg #[.slice none 0 0, .slice none 0 0, .slice none 0 0]], []⟩ 8 (by kernel_rfl) (by kernel_rfl) (by kernel_rfl) (by kernel_rfl)) ?_
  intro W base args ds gs before hval0 hW hcnd _
  have hval : ∀ (j : Nat) t v, Try.f4.params[j]? = some t → args[j]? = some v → Value.okWide Try.prog W .any base t v := hval0
  have hW' := hW
  obtain ⟨p, q, hA0, hV, rfl, hfz, hnd⟩ := hW
  have hA : DataW.TrodAll enc Try.prog W 0 (fun _ => true) true Try.f4.params.toList args.toList ds p := hA0
  rw [Try.params4] at hA hval
  obtain ⟨v0, vs0, d0, ds0, p0, q0, hargs, rfl, rfl, h0, u0⟩ := trodAll_cons hA
  obtain ⟨rfl, rfl, rfl⟩ := trodAll_nil u0
  obtain rfl : args = #[v0] := by cases args; simp_all
  obtain ⟨a0, rfl, r0, b0⟩ := open_people Try.underlying24 (by kernel_rfl) rfl rfl rfl (by kernel_rfl) (by kernel_rfl) (by kernel_rfl) Try.underlying22 Try.underlying22 Try.underlying22 Try.underlying32 (by kernel_rfl) (hval 0 24 v0 rfl rfl) h0
  clear hA0 hval0
  refine (lawValidPeople_walk a0 W r0 b0).mono fun e W' ⟨he, hb⟩ => ?_
  subst he
  exact ⟨_, rfl, post_true 4 Try.underlying4 (by kernel_rfl) laid_out (by kernel_rfl) rfl rfl hW' hb⟩
theorem lawValidPeople_over : Rows.fnExactValidPeopleRow.holds Try.pinned (OpenSpec.ofChange Rows.fnExactValidPeopleSpec) :=
  OpenClaim.holds_of_wide 4 Try.f4 rfl rfl rfl rfl rfl rfl rfl ⟨rfl, rfl, rfl, rfl, rfl⟩ rfl rfl rfl rfl rfl (by kernel_rfl) Try.func4 (by kernel_rfl)
    (of_decide_eq_true (by kernel_rfl)) (by unfold Func.isWrapper; first | (rw [if_pos (by decide +kernel)]; kernel_rfl) | (rw [if_neg (by decide +kernel)]; exact ⟨rfl, rfl⟩))
    (fun os started H enc _ => lawValidPeople_lifted os started H enc)
theorem lawValidPeople_proved : Rows.FnExactValidPeopleSaid := lawValidPeople_over
#print axioms lawValidPeople_proved
end Go.Proofs.Ytkdiegplbloccaa
