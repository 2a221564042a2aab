/-
  shared: the starter's script.
-/
import Derived.Test.YtneclhkpgalnlaaShC
namespace Go.Proofs.Ytneclhkpgalnlaa
open Go.ChangeShapes Go.WideShapes Go.ChangeAt Go.RowKit Sm Go.Conc
set_option linter.unusedVariables false

noncomputable def sAll : Code := match Try.f21.body with | some c => c | none => .skip
def sq1 : Code → Code | .seq a _ => a | _ => .skip
def sq2 : Code → Code | .seq _ b => b | _ => .skip
def inBl : Code → Code | .block _ (.loop b) => b | .block _ b => b | _ => .skip
noncomputable def sR0 : Code := sq1 sAll
noncomputable def sR1 : Code := sq1 (sq2 sAll)
noncomputable def sLp1 : Code := sq1 (sq2 (sq2 sAll))
noncomputable def sLp2 : Code := sq1 (sq2 (sq2 (sq2 sAll)))
noncomputable def sEnd : Code := sq2 (sq2 (sq2 (sq2 sAll)))
noncomputable def sR2 : Code := sq1 sLp1
noncomputable def sL1 : Code := inBl (sq2 sLp1)
noncomputable def sR7 : Code := sq1 sLp2
noncomputable def sL2 : Code := inBl (sq2 sLp2)
noncomputable def sR3 : Code := sq1 sL1
noncomputable def sR4 : Code := sq1 (inBl (sq1 (sq2 (sq2 sL1))))
noncomputable def sR5 : Code := sq2 (inBl (sq1 (sq2 (sq2 sL1))))
noncomputable def sR6 : Code := sq2 (sq2 (sq2 sL1))
noncomputable def sR8 : Code := sq1 sL2
noncomputable def sR9 : Code := inBl (sq1 (sq2 (sq2 sL2)))
noncomputable def sR10 : Code := sq2 (sq2 (sq2 sL2))
theorem s_body : Try.f21.body = some (.seq sR0 (.seq sR1 (.seq (.seq sR2 (.block 0 (.loop sL1))) (.seq (.seq sR7 (.block 2 (.loop sL2))) sEnd)))) := by kernel_rfl
theorem s_l1 : sL1 = .seq sR3 (.seq (.cond (.tmp 16) .skip (.exit 0)) (.seq (.block 1 (.seq sR4 sR5)) sR6)) := by kernel_rfl
theorem s_l2 : sL2 = .seq sR8 (.seq (.cond (.tmp 22) .skip (.exit 2)) (.seq (.block 3 sR9) sR10)) := by kernel_rfl
theorem s_r5 : sR5 = .region 5 (opsOf sR5) false := by kernel_rfl
theorem s_r9 : sR9 = .region 9 (opsOf sR9) false := by kernel_rfl
theorem s_size5 : (opsOf sR5).size = 2 := by kernel_rfl
theorem s_size9 : (opsOf sR9).size = 2 := by kernel_rfl
noncomputable def sGo : Oper := match (opsOf sR5)[1]? with | some o => o | none => default
noncomputable def sRc : Oper := match (opsOf sR9)[1]? with | some o => o | none => default
def callOf : Op → Call | .go c => c | _ => ⟨.value (.tmp 0), #[], #[]⟩
theorem s_go : (opsOf sR5)[1]? = some sGo := by kernel_rfl
theorem s_goOp : sGo.op = .go (callOf sGo.op) := by kernel_rfl
theorem s_goC : (callOf sGo.op).callee = .value (.tmp 18) := by kernel_rfl
theorem s_goA : (callOf sGo.op).args = #[] := by kernel_rfl
theorem s_goG : sGo.guard = none := by kernel_rfl
theorem s_goD : sGo.dst = none := by kernel_rfl
theorem s_rc : (opsOf sR9)[1]? = some sRc := by kernel_rfl
theorem s_rcOp : sRc.op = .recv 47 (.tmp 23) false := by kernel_rfl
theorem s_rcG : sRc.guard = none := by kernel_rfl
theorem s_rcD : sRc.dst = some 24 := by kernel_rfl


theorem s_more {K : Act → World → Prop} (z0 z1 z2 z3 z4 z5 z6 z7 z8 x9 x10 x11 x12 x13 x16 x17 x18 x19 x20 x21 x22 x23 x24 x25 x26 : Value) (n i : Int) (w : World)
    (hK : K ⟨#[z0, z1, z2, z3, z4, z5, z6, z7, z8, x9, x10, x11, x12, x13, .int .i64 n, .int .i64 i, .bool (decide (i < n)), x17, x18, x19, x20, x21, x22, x23, x24, x25, x26], []⟩ w) :
    sR3.wp Try.prog (QN K) ⟨#[z0, z1, z2, z3, z4, z5, z6, z7, z8, x9, x10, x11, x12, x13, .int .i64 n, .int .i64 i, x16, x17, x18, x19, x20, x21, x22, x23, x24, x25, x26], []⟩ w := by
  unfold sR3
  unfold sL1 sLp1 sAll Try.f21
  dsimp only [sq1, sq2, inBl, opsOf]
  go_wp2_with fail
  exact ⟨rfl, hK⟩
theorem s_box {K : Act → World → Prop} (z0 z1 z2 z3 z4 z5 z6 z7 z8 x9 x10 x11 x12 x13 x14 x16 x17 x18 x19 x20 x21 x22 x23 x24 x25 x26 : Value) (i : Int) (w : World)
    (hK : ∀ w', OldSame w w' → w'.heap.size = w.heap.size + 1 → w'.heap[w.heap.size]? = some (.cells #[.int .i64 i] 2 (0, 0)) → K ⟨#[z0, z1, z2, z3, z4, z5, z6, z7, z8, .pointer (some ⟨w.heap.size, 0, none⟩), x10, x11, x12, x13, x14, .int .i64 i, x16, .int .i64 i, x18, x19, x20, x21, x22, x23, x24, x25, x26], []⟩ w') :
    sR4.wp Try.prog (QN K) ⟨#[z0, z1, z2, z3, z4, z5, z6, z7, z8, x9, x10, x11, x12, x13, x14, .int .i64 i, x16, x17, x18, x19, x20, x21, x22, x23, x24, x25, x26], []⟩ w := by
  unfold sR4
  unfold sL1 sLp1 sAll Try.f21
  dsimp only [sq1, sq2, inBl, opsOf]
  go_wp2_with fail
  exact ⟨rfl, hK _ (.of_below (Below.alloc (Below.refl _ _) (Nat.le_refl _) _)) (by simp) (by show (w.heap.push _)[w.heap.size]? = _; simp)⟩
theorem s_fun {K : Act → World → Prop} (z0 z1 z2 z6 x10 x11 x12 x13 x14 x15 x16 x17 x18 x19 x20 x21 x22 x23 x24 x25 x26 : Value) (a1 a2 a3 a4 a5 a9 : Addr) (w : World)
    (hK : K ⟨#[z0, z1, z2, .pointer (some a1), .pointer (some a2), .pointer (some a3), z6, .pointer (some a4), .pointer (some a5), .pointer (some a9), x10, x11, x12, x13, x14, x15, x16, x17, .func (.func 29) #[] #[.pointer (some a9), .pointer (some a1), .pointer (some a2), .pointer (some a3), .pointer (some a4), .pointer (some a5)], x19, x20, x21, x22, x23, x24, x25, x26], []⟩ w) :
    wpOps Try.prog (opsOf sR5) (QN K) [0] ⟨#[z0, z1, z2, .pointer (some a1), .pointer (some a2), .pointer (some a3), z6, .pointer (some a4), .pointer (some a5), .pointer (some a9), x10, x11, x12, x13, x14, x15, x16, x17, x18, x19, x20, x21, x22, x23, x24, x25, x26], []⟩ w := by
  unfold sR5 sL1 sLp1 sAll Try.f21
  dsimp only [sq1, sq2, inBl, opsOf]
  go_wp2_with fail
  refine Or.inl ?_
  go_simp
  exact ⟨rfl, hK⟩
theorem s_inc {K : Act → World → Prop} (z0 z1 z2 z3 z4 z5 z6 z7 z8 x9 x10 x11 x12 x13 x14 x16 x17 x18 x19 x20 x21 x22 x23 x24 x25 x26 : Value) (i : Int) (w : World) (hi : 0 ≤ i ∧ i ≤ 1000)
    (hK : K ⟨#[z0, z1, z2, z3, z4, z5, z6, z7, z8, x9, x10, x11, x12, x13, x14, .int .i64 (i + 1), x16, x17, x18, .int .i64 (i + 1), x20, x21, x22, x23, x24, x25, x26], []⟩ w) :
    sR6.wp Try.prog (QN K) ⟨#[z0, z1, z2, z3, z4, z5, z6, z7, z8, x9, x10, x11, x12, x13, x14, .int .i64 i, x16, x17, x18, x19, x20, x21, x22, x23, x24, x25, x26], []⟩ w := by
  unfold sR6
  unfold sL1 sLp1 sAll Try.f21
  dsimp only [sq1, sq2, inBl, opsOf]
  go_wp2_with fail
  exact ⟨rfl, hK⟩
theorem s_two {K : Act → World → Prop} (z0 z1 z2 z3 z5 z6 z7 z8 x9 x10 x11 x12 x13 x14 x15 x16 x17 x18 x19 x20 x21 x22 x23 x24 x25 x26 : Value) (n : Int) (a2 : Addr) (w : World) (hc : w.cell? a2 = some (.int .i64 n))
    (hK : K ⟨#[z0, z1, z2, z3, .pointer (some a2), z5, z6, z7, z8, x9, x10, x11, x12, x13, x14, x15, x16, x17, x18, x19, .int .i64 n, .int .i64 0, x22, x23, x24, x25, x26], []⟩ w) :
    sR7.wp Try.prog (QN K) ⟨#[z0, z1, z2, z3, .pointer (some a2), z5, z6, z7, z8, x9, x10, x11, x12, x13, x14, x15, x16, x17, x18, x19, x20, x21, x22, x23, x24, x25, x26], []⟩ w := by
  unfold sR7
  unfold sLp2 sAll Try.f21
  dsimp only [sq1, sq2, inBl, opsOf]
  go_wp2_with fail
  exact ⟨rfl, hK⟩
theorem s_more2 {K : Act → World → Prop} (z0 z1 z2 z3 z4 z5 z6 z7 z8 x9 x10 x11 x12 x13 x14 x15 x16 x17 x18 x19 x22 x23 x24 x25 x26 : Value) (n i : Int) (w : World)
    (hK : K ⟨#[z0, z1, z2, z3, z4, z5, z6, z7, z8, x9, x10, x11, x12, x13, x14, x15, x16, x17, x18, x19, .int .i64 n, .int .i64 i, .bool (decide (i < n)), x23, x24, x25, x26], []⟩ w) :
    sR8.wp Try.prog (QN K) ⟨#[z0, z1, z2, z3, z4, z5, z6, z7, z8, x9, x10, x11, x12, x13, x14, x15, x16, x17, x18, x19, .int .i64 n, .int .i64 i, x22, x23, x24, x25, x26], []⟩ w := by
  unfold sR8
  unfold sL2 sLp2 sAll Try.f21
  dsimp only [sq1, sq2, inBl, opsOf]
  go_wp2_with fail
  exact ⟨rfl, hK⟩
theorem s_chan {K : Act → World → Prop} (z0 z1 z2 z3 z4 z5 z6 z7 x9 x10 x11 x12 x13 x14 x15 x16 x17 x18 x19 x20 x21 x22 x23 x24 x25 x26 : Value) (a5 : Addr) (c : Nat) (w : World) (hc : w.cell? a5 = some (.chan (some c)))
    (hK : K ⟨#[z0, z1, z2, z3, z4, z5, z6, z7, .pointer (some a5), x9, x10, x11, x12, x13, x14, x15, x16, x17, x18, x19, x20, x21, x22, .chan (some c), x24, x25, x26], []⟩ w) :
    wpOps Try.prog (opsOf sR9) (QN K) [0] ⟨#[z0, z1, z2, z3, z4, z5, z6, z7, .pointer (some a5), x9, x10, x11, x12, x13, x14, x15, x16, x17, x18, x19, x20, x21, x22, x23, x24, x25, x26], []⟩ w := by
  unfold sR9 sL2 sLp2 sAll Try.f21
  dsimp only [sq1, sq2, inBl, opsOf]
  go_wp2_with fail
  refine Or.inl ?_
  go_simp
  exact ⟨rfl, hK⟩
theorem s_inc2 {K : Act → World → Prop} (z0 z1 z2 z3 z4 z5 z6 z7 z8 x9 x10 x11 x12 x13 x14 x15 x16 x17 x18 x19 x20 x22 x23 x24 x25 x26 : Value) (i : Int) (w : World) (hi : 0 ≤ i ∧ i ≤ 1000)
    (hK : K ⟨#[z0, z1, z2, z3, z4, z5, z6, z7, z8, x9, x10, x11, x12, x13, x14, x15, x16, x17, x18, x19, x20, .int .i64 (i + 1), x22, x23, x24, .int .i64 (i + 1), x26], []⟩ w) :
    sR10.wp Try.prog (QN K) ⟨#[z0, z1, z2, z3, z4, z5, z6, z7, z8, x9, x10, x11, x12, x13, x14, x15, x16, x17, x18, x19, x20, .int .i64 i, x22, x23, x24, x25, x26], []⟩ w := by
  unfold sR10
  unfold sL2 sLp2 sAll Try.f21
  dsimp only [sq1, sq2, inBl, opsOf]
  go_wp2_with fail
  exact ⟨rfl, hK⟩
end Go.Proofs.Ytneclhkpgalnlaa
