/-
  THE LAW FnExactRuleText: for every input the program's RuleText returns what the reference's returns, and changes no argument. Conditions: none.
-/
import Derived.Test.YtinocfehjdlohaaDoorTxtV
import Derived.Test.YtinocfehjdlohaaDoorCard
namespace Go.Proofs.YtinocfehjdlohaaDoor
open Go.ChangeShapes Go.WideShapes Go.ChangeAt Go.RowKit
set_option linter.unusedVariables false
set_option maxHeartbeats 400000 in
theorem lawRuleText_walk_long0 (hh0 f0 t0 k0 : Int) (A0 : Option Addr) (m0 c0 : Nat) (z0 : List Int) (W : World) (r0 : Rd W W.heap.size 1 A0 m0 (ints z0)) (b0 : RlB ⟨hh0, z0, f0, t0, k0⟩) (hT : Tab W) (y0 : 1048576 < m0) :
    Calls Tryd.prog 3 #[.agg #[.int .i64 hh0, .slice A0 m0 c0, .int .i64 f0, .int .i64 t0, .int .i64 k0]] W fun e w' => e = .returned (.bool true) ∧ Below W.heap.size W w' := by
  have hB : Below W.heap.size W W := Below.refl _ _
  go_enter Tryd.func3, Tryd.ntmps3
  go_wp2_with fail
  obtain ⟨w1, hw⟩ : ∃ x, x = W.alloc (.cells #[.int .i64 hh0, .slice A0 m0 c0, .int .i64 f0, .int .i64 t0, .int .i64 k0] 24) := ⟨_, rfl⟩
  rw [← hw]
  have hb : Below W.heap.size W w1 := by rw [hw]; exact (Below.refl _ _).alloc (Nat.le_refl _) _
  have bx0 : BoxF w1 W.heap.size ⟨hh0, f0, t0, k0, A0, m0, c0, z0⟩ := by rw [hw]; exact BoxF.new W ⟨hh0, f0, t0, k0, A0, m0, c0, z0⟩ _
  have S1 := Lib.hid (show W.heap.size + 1 ≤ w1.heap.size by rw [hw]; simp)
  clear hw
  replace hB := below_step hB hb
  clear hb
  refine (szRl_no _ _ _ _ _ _ _ z0 _ _ r0 ⟨by omega, by omega⟩ b0 (by omega)).mono ?_
  rintro e w2 ⟨rfl, hb⟩
  replace bx0 := bx0.below hb (by have := S1.out; omega)
  have S2 := Lib.hid hb.size
  replace hB := below_step hB hb
  clear hb
  have xx_bx0 := bx0.box
  obtain ⟨x0_bx0, x1_bx0, x2_bx0, x3_bx0, x4_bx0⟩ := xx_bx0
  dsimp only at x0_bx0 x1_bx0 x2_bx0 x3_bx0 x4_bx0
  go_wp2_with fail
  clear x0_bx0 x1_bx0 x2_bx0 x3_bx0 x4_bx0
  go_ret
  exact ⟨rfl, hB⟩
set_option maxRecDepth 100000 in
set_option maxHeartbeats 12800000 in
theorem lawRuleText_walk_short (hh0 f0 t0 k0 : Int) (A0 : Option Addr) (m0 c0 : Nat) (z0 : List Int) (W : World) (r0 : Rd W W.heap.size 1 A0 m0 (ints z0)) (b0 : RlB ⟨hh0, z0, f0, t0, k0⟩) (hT : Tab W) (y0 : m0 ≤ 1048576) :
    Calls Tryd.prog 3 #[.agg #[.int .i64 hh0, .slice A0 m0 c0, .int .i64 f0, .int .i64 t0, .int .i64 k0]] W fun e w' => e = .returned (.bool true) ∧ Below W.heap.size W w' := by
  have hB : Below W.heap.size W W := Below.refl _ _
  have s0 : m0 ≤ 1048576 := by omega
  go_enter Tryd.func3, Tryd.ntmps3
  go_wp2_with fail
  obtain ⟨w1, hw⟩ : ∃ x, x = W.alloc (.cells #[.int .i64 hh0, .slice A0 m0 c0, .int .i64 f0, .int .i64 t0, .int .i64 k0] 24) := ⟨_, rfl⟩
  rw [← hw]
  have hb : Below W.heap.size W w1 := by rw [hw]; exact (Below.refl _ _).alloc (Nat.le_refl _) _
  have bx0 : BoxF w1 W.heap.size ⟨hh0, f0, t0, k0, A0, m0, c0, z0⟩ := by rw [hw]; exact BoxF.new W ⟨hh0, f0, t0, k0, A0, m0, c0, z0⟩ _
  have S1 := Lib.hid (show W.heap.size + 1 ≤ w1.heap.size by rw [hw]; simp)
  clear hw
  replace hB := below_step hB hb
  clear hb
  refine (szRl_yes _ _ _ _ _ _ _ z0 _ _ r0 ⟨by omega, by omega⟩ b0 (by omega)).mono ?_
  rintro e w2 ⟨l0, rfl, el0, hl0, hb⟩
  have El0 := Lib.hid el0; clear el0
  replace bx0 := bx0.below hb (by have := S1.out; omega)
  have S2 := Lib.hid hb.size
  replace hB := below_step hB hb
  clear hb
  have xx_bx0 := bx0.box
  obtain ⟨x0_bx0, x1_bx0, x2_bx0, x3_bx0, x4_bx0⟩ := xx_bx0
  dsimp only at x0_bx0 x1_bx0 x2_bx0 x3_bx0 x4_bx0
  go_wp2_with fail
  clear x0_bx0 x1_bx0 x2_bx0 x3_bx0 x4_bx0
  refine (toRule_any _ _ _ _ _ _ _ z0 _ ((r0.below hB).more hB.size) s0).mono ?_
  rintro e w3 ⟨g1, rfl, o1, hb⟩
  replace o1 := ObjI.mk' o1
  replace bx0 := bx0.below hb (by have := S1.out; have := S2.out; omega)
  have S3 := Lib.hid hb.size
  replace hB := below_step hB hb
  clear hb
  have xx_bx0 := bx0.box
  obtain ⟨x0_bx0, x1_bx0, x2_bx0, x3_bx0, x4_bx0⟩ := xx_bx0
  dsimp only at x0_bx0 x1_bx0 x2_bx0 x3_bx0 x4_bx0
  go_wp2_with fail
  clear x0_bx0 x1_bx0 x2_bx0 x3_bx0 x4_bx0
  refine (spec_RuleText _ _ _ _ _ _ _ z0 _ o1.rd s0 b0).mono ?_
  rintro e w4 ⟨rfl, hb⟩
  clear o1
  replace bx0 := bx0.below hb (by have := S1.out; have := S2.out; have := S3.out; omega)
  have S4 := Lib.hid hb.size
  replace hB := below_step hB hb
  clear hb
  have xx_bx0 := bx0.box
  obtain ⟨x0_bx0, x1_bx0, x2_bx0, x3_bx0, x4_bx0⟩ := xx_bx0
  dsimp only at x0_bx0 x1_bx0 x2_bx0 x3_bx0 x4_bx0
  go_wp2_with fail
  clear x0_bx0 x1_bx0 x2_bx0 x3_bx0 x4_bx0
  refine (toRule_any _ _ _ _ _ _ _ z0 _ ((r0.below hB).more hB.size) s0).mono ?_
  rintro e w5 ⟨g2, rfl, o2, hb⟩
  replace o2 := ObjI.mk' o2
  replace bx0 := bx0.below hb (by have := S1.out; have := S2.out; have := S3.out; have := S4.out; omega)
  have S5 := Lib.hid hb.size
  replace hB := below_step hB hb
  clear hb
  have xx_bx0 := bx0.box
  obtain ⟨x0_bx0, x1_bx0, x2_bx0, x3_bx0, x4_bx0⟩ := xx_bx0
  dsimp only at x0_bx0 x1_bx0 x2_bx0 x3_bx0 x4_bx0
  go_wp2_with fail
  clear x0_bx0 x1_bx0 x2_bx0 x3_bx0 x4_bx0
  obtain ⟨w6, hw⟩ : ∃ x, x = w5.alloc (.cells #[.int .i64 hh0, .slice (some ⟨g2, 0, none⟩) m0 m0, .int .i64 f0, .int .i64 t0, .int .i64 k0] 28) := ⟨_, rfl⟩
  rw [← hw]
  have hb : Below w5.heap.size w5 w6 := by rw [hw]; exact (Below.refl _ _).alloc (Nat.le_refl _) _
  have by2 : BoxF w6 w5.heap.size ⟨hh0, f0, t0, k0, some ⟨g2, 0, none⟩, m0, m0, z0⟩ := by rw [hw]; exact BoxF.new w5 ⟨hh0, f0, t0, k0, some ⟨g2, 0, none⟩, m0, m0, z0⟩ _
  have S6 := Lib.hid (show w5.heap.size + 1 ≤ w6.heap.size by rw [hw]; simp)
  clear hw
  replace bx0 := bx0.below hb (by have := S1.out; have := S2.out; have := S3.out; have := S4.out; have := S5.out; omega)
  replace o2 := o2.on hb
  replace hB := below_step hB hb
  clear hb
  refine (impl_RuleText _ _ _ _ _ _ _ z0 _ o2.rd s0 b0 (hT.on hB)).mono ?_
  rintro e w7 ⟨rfl, hb⟩
  replace bx0 := bx0.below hb (by have := S1.out; have := S2.out; have := S3.out; have := S4.out; have := S5.out; have := S6.out; omega)
  replace by2 := by2.below hb (by have := S1.out; have := S2.out; have := S3.out; have := S4.out; have := S5.out; have := S6.out; omega)
  replace o2 := o2.on hb
  have S7 := Lib.hid hb.size
  replace hB := below_step hB hb
  clear hb
  have xx_bx0 := bx0.box
  obtain ⟨x0_bx0, x1_bx0, x2_bx0, x3_bx0, x4_bx0⟩ := xx_bx0
  dsimp only at x0_bx0 x1_bx0 x2_bx0 x3_bx0 x4_bx0
  have xx_by2 := by2.box
  obtain ⟨x0_by2, x1_by2, x2_by2, x3_by2, x4_by2⟩ := xx_by2
  dsimp only at x0_by2 x1_by2 x2_by2 x3_by2 x4_by2
  have KEEP := Lib.hid (fun (w' : World) (h : Below w7.heap.size w7 w') => show (fun w' => w'.cell? ⟨W.heap.size, 0, none⟩ = some (.int .i64 hh0) ∧ w'.cell? ⟨W.heap.size, 1, none⟩ = some (.slice A0 m0 c0) ∧ w'.cell? ⟨W.heap.size, 2, none⟩ = some (.int .i64 f0) ∧ w'.cell? ⟨W.heap.size, 3, none⟩ = some (.int .i64 t0) ∧ w'.cell? ⟨W.heap.size, 4, none⟩ = some (.int .i64 k0) ∧ w'.cell? ⟨w5.heap.size, 0, none⟩ = some (.int .i64 hh0) ∧ w'.cell? ⟨w5.heap.size, 1, none⟩ = some (.slice (some ⟨g2, 0, none⟩) m0 m0) ∧ w'.cell? ⟨w5.heap.size, 2, none⟩ = some (.int .i64 f0) ∧ w'.cell? ⟨w5.heap.size, 3, none⟩ = some (.int .i64 t0) ∧ w'.cell? ⟨w5.heap.size, 4, none⟩ = some (.int .i64 k0)) w' from (by have q0 := (bx0.below h (by have := S1.out; have := S2.out; have := S3.out; have := S4.out; have := S5.out; have := S6.out; have := S7.out; omega)).box; have q1 := (by2.below h (by have := S1.out; have := S2.out; have := S3.out; have := S4.out; have := S5.out; have := S6.out; have := S7.out; omega)).box; exact ⟨q0.c0, q0.c1, q0.c2, q0.c3, q0.c4, q1.c0, q1.c1, q1.c2, q1.c3, q1.c4⟩))
  go_wp2_with fail
  have hK : Below w7.heap.size w7 (w7.drewN 1) := below_drewN (Below.refl _ _) 1
  replace o2 := o2.on hK
  replace bx0 := bx0.drewN 1
  replace by2 := by2.drewN 1
  replace hB := below_drewN hB 1
  go_region_held3 (fun w' => w'.cell? ⟨W.heap.size, 0, none⟩ = some (.int .i64 hh0) ∧ w'.cell? ⟨W.heap.size, 1, none⟩ = some (.slice A0 m0 c0) ∧ w'.cell? ⟨W.heap.size, 2, none⟩ = some (.int .i64 f0) ∧ w'.cell? ⟨W.heap.size, 3, none⟩ = some (.int .i64 t0) ∧ w'.cell? ⟨W.heap.size, 4, none⟩ = some (.int .i64 k0) ∧ w'.cell? ⟨w5.heap.size, 0, none⟩ = some (.int .i64 hh0) ∧ w'.cell? ⟨w5.heap.size, 1, none⟩ = some (.slice (some ⟨g2, 0, none⟩) m0 m0) ∧ w'.cell? ⟨w5.heap.size, 2, none⟩ = some (.int .i64 f0) ∧ w'.cell? ⟨w5.heap.size, 3, none⟩ = some (.int .i64 t0) ∧ w'.cell? ⟨w5.heap.size, 4, none⟩ = some (.int .i64 k0))
    (first | go_keep | exact KEEP.out _ hK)
    (first
      | (go_at_call 9
         refine (toRule_any _ _ _ _ _ _ _ z0 _ ((r0.below hB).more hB.size) s0).mono ?_
         rintro e w8 ⟨g3, rfl, o3, hb⟩
         replace o2 := o2.on hb
         replace bx0 := bx0.below hb (by have := S1.out; have := S2.out; have := S3.out; have := S4.out; have := S5.out; have := S6.out; have := S7.out; first | omega | (show _ < w7.heap.size; omega))
         replace by2 := by2.below hb (by have := S1.out; have := S2.out; have := S3.out; have := S4.out; have := S5.out; have := S6.out; have := S7.out; first | omega | (show _ < w7.heap.size; omega))
         have S8 := Lib.hid (show w7.heap.size ≤ w8.heap.size from hb.size)
         replace hB := below_step hB hb
         replace hK := hK.trans (hb.mono (Nat.le_refl _))
         replace o3 := ObjI.mk' o3
         clear hb)
      | (go_at_call 11
         refine (eqRule_yes _ _ _ _ _ _ _ _ _ z0 _ o2.rd o3.rd (by have := s0; omega)).mono ?_
         rintro e w9 ⟨rfl, hb⟩
         replace o2 := o2.on hb
         replace bx0 := bx0.below hb (by have := S1.out; have := S2.out; have := S3.out; have := S4.out; have := S5.out; have := S6.out; have := S7.out; have := S8.out; first | omega | (show _ < w8.heap.size; omega))
         replace by2 := by2.below hb (by have := S1.out; have := S2.out; have := S3.out; have := S4.out; have := S5.out; have := S6.out; have := S7.out; have := S8.out; first | omega | (show _ < w8.heap.size; omega))
         have S9 := Lib.hid (show w8.heap.size ≤ w9.heap.size from hb.size)
         replace hB := below_step hB hb
         replace hK := below_step hK hb
         clear o3
         clear hb))
  clear KEEP hK x0_bx0 x1_bx0 x2_bx0 x3_bx0 x4_bx0 x0_by2 x1_by2 x2_by2 x3_by2 x4_by2
  have xx_bx0 := bx0.box
  obtain ⟨x0_bx0, x1_bx0, x2_bx0, x3_bx0, x4_bx0⟩ := xx_bx0
  dsimp only at x0_bx0 x1_bx0 x2_bx0 x3_bx0 x4_bx0
  have xx_by2 := by2.box
  obtain ⟨x0_by2, x1_by2, x2_by2, x3_by2, x4_by2⟩ := xx_by2
  dsimp only at x0_by2 x1_by2 x2_by2 x3_by2 x4_by2
  go_wp2_with fail
  clear x0_bx0 x1_bx0 x2_bx0 x3_bx0 x4_bx0
  clear x0_by2 x1_by2 x2_by2 x3_by2 x4_by2
  go_ret
  exact ⟨rfl, hB⟩
theorem lawRuleText_walk (hh0 f0 t0 k0 : Int) (A0 : Option Addr) (m0 c0 : Nat) (z0 : List Int) (W : World) (r0 : Rd W W.heap.size 1 A0 m0 (ints z0)) (b0 : RlB ⟨hh0, z0, f0, t0, k0⟩) (hT : Tab W) :
    Calls Tryd.prog 3 #[.agg #[.int .i64 hh0, .slice A0 m0 c0, .int .i64 f0, .int .i64 t0, .int .i64 k0]] W fun e w' => e = .returned (.bool true) ∧ Below W.heap.size W w' := by
  by_cases y0 : m0 ≤ 1048576
  case neg => exact lawRuleText_walk_long0 hh0 f0 t0 k0 A0 m0 c0 z0 W r0 b0 hT  (by omega)
  exact lawRuleText_walk_short hh0 f0 t0 k0 A0 m0 c0 z0 W r0 b0 hT y0
set_option maxRecDepth 100000 in
theorem lawRuleText_lifted (os : Os) (started : os.Started) (H : Type) (enc : TypeId × Value → H) :
    ReturnsInHanded {} Tryd.checked os 3 .any (fun w args => (Rows.fnExactRuleTextSpec.pre enc Tryd.prog Tryd.f3 [] false w args ∧ laidMetH Tryd.prog Rows.fnExactRuleTextRow.laid w) ∧ sizedMet enc Tryd.prog Tryd.f3 (OpenSpec.ofChange Rows.fnExactRuleTextSpec) false w args) (Rows.fnExactRuleTextSpec.post enc Tryd.prog Tryd.f3 false true false false) := by
  refine returnsInHanded_of_change_and (C := Tryd.checked) (X := fun w _ => laidMetH Tryd.prog Rows.fnExactRuleTextRow.laid w) (fun _ _ _ hh h => h.of_heap hh) own_knob started (by kernel_rfl) Tryd.func3
    (ChangeSpec.witness_shaped (enc := enc) (C := Tryd.checked) (os := os) (X := fun w _ => laidMetH Tryd.prog Rows.fnExactRuleTextRow.laid w) false (dWorld os) #[.agg #[.int .i64 0, .slice none 0 0, .int .i64 0, .int .i64 0, .int .i64 0]] 8 rfl (World.shaped_of_RefB (by kernel_rfl) (by kernel_rfl)) (by kernel_rfl) (by kernel_rfl) (by kernel_rfl) (rtMet os #[.agg #[.int .i64 0, .slice none 0 0, .int .i64 0, .int .i64 0, .int .i64 0]])) ?_
  intro W base args ds gs before hval0 hW _ _ hL _
  have hT := tab_of_rt hL
  have hval : ∀ (j : Nat) t v, Tryd.f3.params[j]? = some t → args[j]? = some v → Value.okWide Tryd.prog W .any base t v := hval0
  have hW' := hW
  obtain ⟨p, q, hA0, hV, rfl, hfz, hnd⟩ := hW
  have hA : DataW.TrodAll enc Tryd.prog W 0 (fun _ => true) true Tryd.f3.params.toList args.toList ds p := hA0
  rw [Tryd.params3] at hA hval
  obtain ⟨v0, vs0, d0, ds0, p0, q0, hargs, rfl, rfl, h0, u0⟩ := trodAll_cons hA
  obtain ⟨rfl, rfl, rfl⟩ := trodAll_nil u0
  obtain rfl : args = #[v0] := by cases args; simp_all
  obtain ⟨hh0, f0, t0, k0, A0, m0, c0, z0, rfl, r0, b0⟩ := open_rl Tryd.underlying24 (by kernel_rfl) rfl rfl rfl rfl rfl (by kernel_rfl) (by kernel_rfl) (by kernel_rfl) (by kernel_rfl) (by kernel_rfl) Tryd.underlying2 Tryd.underlying22 Tryd.underlying2 Tryd.underlying2 Tryd.underlying2 Tryd.underlying2 (by kernel_rfl) (hval 0 24 v0 rfl rfl) h0
  clear hA0 hval0
  refine (lawRuleText_walk hh0 f0 t0 k0 A0 m0 c0 z0 W r0 b0 hT).mono fun e W' ⟨he, hb⟩ => ?_
  subst he
  exact ⟨_, rfl, post_true 4 Tryd.underlying4 (by kernel_rfl) laid_out (by kernel_rfl) rfl rfl hW' hb⟩
theorem lawRuleText_over : Rows.fnExactRuleTextRow.holds Tryd.pinned (OpenSpec.ofChange Rows.fnExactRuleTextSpec) :=
  OpenClaim.holds_of_wide 3 Tryd.f3 rfl rfl rfl rfl rfl rfl rfl ⟨rfl, rfl, rfl, rfl, rfl⟩ rfl rfl rfl rfl rfl (by kernel_rfl) Tryd.func3 (by kernel_rfl)
    (of_decide_eq_true (by kernel_rfl)) (by unfold Func.isWrapper; first | (rw [if_pos (by decide +kernel)]; kernel_rfl) | (rw [if_neg (by decide +kernel)]; exact ⟨rfl, rfl⟩))
    (fun os started H enc _ => lawRuleText_lifted os started H enc)
theorem lawRuleText_plain (f : FuncId) (fn : Func) (hf : Tryd.pinned.checked.prog.funcNamed "loop.example/g01393/laws.FnExactRuleText" = some f) (hfn : Tryd.pinned.checked.prog.funcs[f]? = some fn) :
    true = Tryd.pinned.checked.prog.looks [] ∧ ∀ (j : Nat) t, fn.params[j]? = some t → Tryd.pinned.checked.prog.wantsStandIn t = false := by
  obtain rfl : f = 3 := Option.some.inj ((show Tryd.prog.funcNamed "loop.example/g01393/laws.FnExactRuleText" = some 3 by kernel_rfl).symm.trans hf) |>.symm
  obtain rfl : fn = Tryd.f3 := (Option.some.inj (Tryd.func3.symm.trans hfn)).symm
  refine ⟨by kernel_rfl, fun j t ht => ?_⟩
  rw [Tryd.params3] at ht
  have hm : t ∈ [24] := by simpa using Array.mem_of_getElem? ht
  have hall : ([24].all fun u => !Tryd.prog.wantsStandIn u) = true := by kernel_rfl
  exact (show Tryd.prog.wantsStandIn t = false by simpa using List.all_eq_true.1 hall t hm)
theorem lawRuleText_proved : Rows.FnExactRuleTextCardSaid :=
  Claim7.holds_tied_plain_at .later [] _ _ _ _ lawRuleText_over (fun _ h => by cases h) (by kernel_rfl) (fun _ h => by cases h) fnExactRuleText_row_tie rfl ⟨rfl, rfl⟩ (by kernel_rfl) rfl lawRuleText_plain (by kernel_rfl)
#print axioms lawRuleText_proved
end Go.Proofs.YtinocfehjdlohaaDoor
