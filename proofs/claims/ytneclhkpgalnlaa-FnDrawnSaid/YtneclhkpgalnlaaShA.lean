/-
  shared: its code in parts.
-/
import Derived.Test.YtneclhkpgalnlaaCut
import Derived.Test.YtneclhkpgalnlaaApp
import Derived.Test.YtneclhkpgalnlaaRegH
namespace Go.Proofs.Ytneclhkpgalnlaa
open Go.ChangeShapes Go.WideShapes Go.ChangeAt Go.RowKit Sm
set_option linter.unusedVariables false

/-! ### the worker: shared$1 -/
noncomputable def wAll : Code := match Try.f29.body with | some c => c | none => .skip
noncomputable def wR0 : Code := match wAll with | .seq (.seq r _) _ => r | _ => .skip
noncomputable def wLB : Code := match wAll with | .seq (.seq _ (.block _ (.loop b))) _ => b | _ => .skip
noncomputable def wR4 : Code := match wAll with | .seq _ r => r | _ => .skip
noncomputable def wHead : Code := match wLB with | .seq h _ => h | _ => .skip
noncomputable def wR3 : Code := match wLB with | .seq _ (.seq (.block _ r) _) => r | _ => .skip
noncomputable def wR2 : Code := match wLB with | .seq _ (.seq _ r) => r | _ => .skip
def opsOf : Code → Array Oper
  | .region _ ops _ => ops
  | _ => #[]
theorem w_body : Try.f29.body = some (.seq (.seq wR0 (.block 0 (.loop wLB))) wR4) := by kernel_rfl
theorem w_loop : wLB = .seq wHead (.seq (.block 1 wR3) wR2) := by kernel_rfl
theorem w_r3 : wR3 = .region 3 (opsOf wR3) true := by kernel_rfl
theorem w_r4 : wR4 = .region 4 (opsOf wR4) false := by kernel_rfl

/-- The last operation left out. -/
def cutLast : Array Oper → Array Oper
  | ⟨[o0, o1, o2, o3, o4, o5, o6, o7, o8, o9]⟩ => #[o0, o1, o2, o3, o4, o5, o6, o7, o8, { o9 with op := .move (.tmp 22) }]
  | x => x

theorem w_step {K : Act → World → Prop} (x0 x1 x2 x3 x4 x5 x7 x8 x9 x10 x11 x12 x13 x14 x15 x16 x17 x18 x19 x20 x21 x22 x23 x24 : Value) (i n : Int) (a2 : Addr) (w : World) (hx2 : x2 = .pointer (some a2)) (hc : w.cell? a2 = some (.int .i64 n)) (hi : 0 ≤ i ∧ i ≤ 1000) (hn : 0 ≤ n ∧ n ≤ 1000)
    (hK : ∀ y12 y13 y14, K ⟨#[x0, x1, x2, x3, x4, x5, .int .i64 (i + n), x7, x8, x9, x10, x11, y12, y13, y14, x15, x16, x17, x18, x19, x20, x21, x22, x23, x24], []⟩ w) :
    wR2.wp Try.prog (QN K) ⟨#[x0, x1, x2, x3, x4, x5, .int .i64 i, x7, x8, x9, x10, x11, x12, x13, x14, x15, x16, x17, x18, x19, x20, x21, x22, x23, x24], []⟩ w := by
  subst hx2
  unfold wR2 wLB wAll Try.f29
  dsimp only
  go_wp2_with fail
  exact ⟨rfl, hK _ _ _⟩

theorem w_more {K : Act → World → Prop} (x0 x2 x3 x4 x5 x7 x8 x9 x10 x11 x12 x13 x14 x15 x16 x17 x18 x19 x20 x21 x22 x23 x24 : Value) (i : Int) (a1 : Addr) (A : Option Addr) (n c : Nat) (w : World) (hc : w.cell? a1 = some (.slice A n c)) (hi : i < n)
    (hK : ∀ y8 y9 y10 y11, K ⟨#[x0, .pointer (some a1), x2, x3, x4, x5, .int .i64 i, x7, y8, y9, y10, y11, x12, x13, x14, x15, x16, x17, x18, x19, x20, x21, x22, x23, x24], []⟩ w) :
    wHead.wp Try.prog (QN K) ⟨#[x0, .pointer (some a1), x2, x3, x4, x5, .int .i64 i, x7, x8, x9, x10, x11, x12, x13, x14, x15, x16, x17, x18, x19, x20, x21, x22, x23, x24], []⟩ w := by
  unfold wHead wLB wAll Try.f29
  dsimp only
  go_wp2_with fail
  exact ⟨rfl, hK _ _ _ _⟩
theorem w_stop {K : Act → World → Prop} (x0 x2 x3 x4 x5 x7 x8 x9 x10 x11 x12 x13 x14 x15 x16 x17 x18 x19 x20 x21 x22 x23 x24 : Value) (i : Int) (a1 : Addr) (A : Option Addr) (n c : Nat) (w : World) (hc : w.cell? a1 = some (.slice A n c)) (hi : ¬ i < n)
    (hK : ∀ y8 y9 y10 y11, K ⟨#[x0, .pointer (some a1), x2, x3, x4, x5, .int .i64 i, x7, y8, y9, y10, y11, x12, x13, x14, x15, x16, x17, x18, x19, x20, x21, x22, x23, x24], []⟩ w) :
    wHead.wp Try.prog (fun e a w => e = .exit 0 ∧ K a w) ⟨#[x0, .pointer (some a1), x2, x3, x4, x5, .int .i64 i, x7, x8, x9, x10, x11, x12, x13, x14, x15, x16, x17, x18, x19, x20, x21, x22, x23, x24], []⟩ w := by
  unfold wHead wLB wAll Try.f29
  dsimp only
  go_wp2_with fail
  exact hK _ _ _ _
theorem w_first {K : Act → World → Prop} (x1 x2 x3 x4 x5 x6 x7 x8 x9 x10 x11 x12 x13 x14 x15 x16 x17 x18 x19 x20 x21 x22 x23 x24 : Value) (i : Int) (a0 : Addr) (w : World) (hc : w.cell? a0 = some (.int .i64 i))
    (hK : ∀ y7, K ⟨#[.pointer (some a0), x1, x2, x3, x4, x5, .int .i64 i, y7, x8, x9, x10, x11, x12, x13, x14, x15, x16, x17, x18, x19, x20, x21, x22, x23, x24], []⟩ w) :
    wR0.wp Try.prog (QN K) ⟨#[.pointer (some a0), x1, x2, x3, x4, x5, x6, x7, x8, x9, x10, x11, x12, x13, x14, x15, x16, x17, x18, x19, x20, x21, x22, x23, x24], []⟩ w := by
  unfold wR0 wAll Try.f29
  dsimp only
  go_wp2_with fail
  exact ⟨rfl, hK _⟩

set_option maxHeartbeats 1600000 in
theorem w_result {K : Act → World → Prop} (x0 x2 x5 x7 x8 x9 x10 x11 x12 x13 x14 x15 x16 x17 x18 x19 x20 x21 x22 x23 x24 : Value) (i : Nat) (a1 a3 a4 ac ad : Addr) (A : Option Addr) (bO n c co : Nat) (z y : Int) (w : World) (hA : A = some ad) (hi : i < n)
    (h1 : w.cell? a1 = some (.slice A n c)) (h3 : w.cell? a3 = some (.func (.func 22) #[] #[.pointer (some ac)])) (h4 : w.cell? a4 = some (.slice (some ⟨bO, 0, none⟩) n co)) (hz : w.cell? (ad.add i) = some (.int .i64 z)) (hn : n ≤ 1048576)
    (hcall : ∀ w', OldSame w w' → Calls Try.prog 22 #[.int .i64 z, .pointer (some ac)] w' fun e w'' => e = .returned (.int .i64 y) ∧ OldSame w' w'')
    (hK : ∀ w' y15 y16 y17 y18 y19 y20 y21, OldSame w w' → K ⟨#[x0, .pointer (some a1), x2, .pointer (some a3), .pointer (some a4), x5, .int .i64 i, x7, x8, x9, x10, x11, x12, x13, x14, y15, y16, y17, y18, y19, y20, y21, .int .i64 y, .pointer (some ⟨bO, i, none⟩), x24], []⟩ w') :
    wpAny Try.prog .any (cutLast (opsOf wR3)) (QN K) 10 (Array.replicate 10 false) ⟨#[x0, .pointer (some a1), x2, .pointer (some a3), .pointer (some a4), x5, .int .i64 i, x7, x8, x9, x10, x11, x12, x13, x14, x15, x16, x17, x18, x19, x20, x21, x22, x23, x24], []⟩ w := by
  have HC := Lib.hid hcall
  have HK := Lib.hid hK
  clear hcall hK
  have hHeld : (fun w' => w'.cell? a1 = some (.slice A n c) ∧ w'.cell? a3 = some (.func (.func 22) #[] #[.pointer (some ac)]) ∧ w'.cell? a4 = some (.slice (some ⟨bO, 0, none⟩) n co) ∧ w'.cell? (ad.add i) = some (.int .i64 z) ∧ OldSame w w') w := ⟨h1, h3, h4, hz, OldSame.refl w⟩
  clear h1 h3 h4 hz
  refine wpAny_of_held (S := (fun w' => w'.cell? a1 = some (.slice A n c) ∧ w'.cell? a3 = some (.func (.func 22) #[] #[.pointer (some ac)]) ∧ w'.cell? a4 = some (.slice (some ⟨bO, 0, none⟩) n co) ∧ w'.cell? (ad.add i) = some (.int .i64 z) ∧ OldSame w w')) _ _ _ _ ?_
  unfold wR3 wLB wAll Try.f29
  dsimp only [opsOf, cutLast]
  (refine take_dst (i := 0) (v := _) (some 15) rfl rfl (by kernel_rfl) (by kernel_rfl) (by kernel_rfl) (fun _ _ _ h => absurd h.1 (by simp)) (Or.inl ⟨by rfl, by (intro w3 hw; (try dsimp only at hw); go_simp; try with_reducible rfl)⟩) (by assumption) ?_; try simp only [Act.put, List.setIfInBounds_toArray, List.set_cons_zero, List.set_cons_succ])
  (refine take_dst (i := 1) (v := _) (some 16) rfl rfl (by kernel_rfl) (by kernel_rfl) (by kernel_rfl) (fun _ _ _ h => absurd h.1 (by simp)) (Or.inl ⟨by rfl, by (intro w3 hw; (try dsimp only at hw); go_simp; try with_reducible rfl)⟩) (by assumption) ?_; try simp only [Act.put, List.setIfInBounds_toArray, List.set_cons_zero, List.set_cons_succ])
  (refine take_dst (i := 2) (v := _) (some 17) rfl rfl (by kernel_rfl) (by kernel_rfl) (by kernel_rfl) (fun _ _ _ h => absurd h.1 (by simp)) (Or.inl ⟨by rfl, by (intro w3 hw; (try dsimp only at hw); go_simp; try with_reducible rfl)⟩) (by assumption) ?_; try simp only [Act.put, List.setIfInBounds_toArray, List.set_cons_zero, List.set_cons_succ])
  (refine take_dst (i := 3) (v := _) (some 18) rfl rfl (by kernel_rfl) (by kernel_rfl) (by kernel_rfl) (fun _ _ _ h => absurd h.1 (by simp)) (Or.inl ⟨by rfl, by (intro w3 hw; (try dsimp only at hw); go_simp; try with_reducible rfl)⟩) (by assumption) ?_; try simp only [Act.put, List.setIfInBounds_toArray, List.set_cons_zero, List.set_cons_succ])
  (refine take_dst (i := 4) (v := _) (some 19) rfl rfl (by kernel_rfl) (by kernel_rfl) (by kernel_rfl) (fun _ _ _ h => absurd h.1 (by simp)) (Or.inl ⟨by rfl, by (intro w3 hw; (try dsimp only at hw); go_simp; try with_reducible rfl)⟩) (by assumption) ?_; try simp only [Act.put, List.setIfInBounds_toArray, List.set_cons_zero, List.set_cons_succ])
  (refine take_dst (i := 5) (v := _) (some 20) rfl rfl (by kernel_rfl) (by kernel_rfl) (by kernel_rfl) (fun _ _ _ h => absurd h.1 (by simp)) (Or.inl ⟨by rfl, by (intro w3 hw; (try dsimp only at hw); go_simp; try with_reducible rfl)⟩) (by assumption) ?_; try simp only [Act.put, List.setIfInBounds_toArray, List.set_cons_zero, List.set_cons_succ])
  (refine take_dst (i := 6) (v := _) (some 21) rfl rfl (by kernel_rfl) (by kernel_rfl) (by kernel_rfl) (fun _ _ _ h => absurd h.1 (by simp)) (Or.inl ⟨by rfl, by (intro w3 hw; (try dsimp only at hw); go_simp; try with_reducible rfl)⟩) (by assumption) ?_; try simp only [Act.put, List.setIfInBounds_toArray, List.set_cons_zero, List.set_cons_succ])
  (refine wpAnyH_ready (rs := [7]) (by kernel_rfl) (by simp) (AllReadyH.cons (i := 7) rfl (fun K hK => ?_) AllReadyH.nil); go_simp)
  refine (HC.out _ hHeld.2.2.2.2).mono ?_
  rintro e w3 ⟨rfl, ho⟩
  go_wp2_with fail
  refine hK.out _ _ (⟨ho.cell hHeld.1, ho.cell hHeld.2.1, ho.cell hHeld.2.2.1, ho.cell hHeld.2.2.2.1, hHeld.2.2.2.2.trans ho⟩ : (fun w' => w'.cell? a1 = some (.slice A n c) ∧ w'.cell? a3 = some (.func (.func 22) #[] #[.pointer (some ac)]) ∧ w'.cell? a4 = some (.slice (some ⟨bO, 0, none⟩) n co) ∧ w'.cell? (ad.add i) = some (.int .i64 z) ∧ OldSame w w') w3) (fun hHeld => ?_)
  clear hK K
  try simp only [Act.put, List.setIfInBounds_toArray, List.set_cons_zero, List.set_cons_succ]
  (refine take_dst (i := 8) (v := _) (some 23) rfl rfl (by kernel_rfl) (by kernel_rfl) (by kernel_rfl) (fun _ _ _ h => absurd h.1 (by simp)) (Or.inl ⟨by rfl, by (intro w3 hw; (try dsimp only at hw); go_simp; try with_reducible rfl)⟩) (by assumption) ?_; try simp only [Act.put, List.setIfInBounds_toArray, List.set_cons_zero, List.set_cons_succ])
  refine take_dst (i := 9) (v := _) none rfl rfl (by kernel_rfl) (by kernel_rfl) (by kernel_rfl) (fun _ _ _ h => absurd h.1 (by simp)) (Or.inl ⟨by rfl, by (intro w3 hw; (try dsimp only at hw); go_simp; try with_reducible rfl)⟩) (by assumption) ?_
  refine wpAnyH_done (by kernel_rfl) ?_ _
  exact ⟨rfl, HK.out _ _ _ _ _ _ _ _ hHeld.2.2.2.2⟩
end Go.Proofs.Ytneclhkpgalnlaa
