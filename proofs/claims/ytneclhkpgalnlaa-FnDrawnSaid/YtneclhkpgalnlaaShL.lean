/-
  shared: in and out.
-/
import Derived.Test.YtneclhkpgalnlaaShJ
namespace Go.Proofs.Ytneclhkpgalnlaa
open Go.ChangeShapes Go.WideShapes Go.ChangeAt Go.RowKit Sm Go.Conc
set_option linter.unusedVariables false
theorem s_r0 {K : Act → World → Prop} (A : Option Addr) (ln lc : Nat) (n : Int) (f : FuncId) (cp : Array Value) (x3 x4 x5 x6 x7 x8 x9 x10 x11 x12 x13 x14 x15 x16 x17 x18 x19 x20 x21 x22 x23 x24 x25 x26 : Value) (w : World)
    (hK : ∀ w', OldSame w w' → w'.heap[w.heap.size]? = some (.cells #[.slice A ln lc] 22 (0, 0)) → w'.heap[w.heap.size + 1]? = some (.cells #[.int .i64 n] 2 (0, 0)) → w'.heap[w.heap.size + 2]? = some (.cells #[.func (.func f) #[] cp] 42 (0, 0)) →
      K ⟨#[.slice A ln lc, .int .i64 n, .func (.func f) #[] cp, .pointer (some ⟨w.heap.size, 0, none⟩), .pointer (some ⟨w.heap.size + 1, 0, none⟩), .pointer (some ⟨w.heap.size + 2, 0, none⟩), .slice none 0 0, x7, x8, x9, x10, x11, x12, x13, x14, x15, x16, x17, x18, x19, x20, x21, x22, x23, x24, x25, x26], []⟩ w') :
    sR0.wp Try.prog (QN K) ⟨#[.slice A ln lc, .int .i64 n, .func (.func f) #[] cp, x3, x4, x5, x6, x7, x8, x9, x10, x11, x12, x13, x14, x15, x16, x17, x18, x19, x20, x21, x22, x23, x24, x25, x26], []⟩ w := by
  obtain ⟨w1, hw1⟩ : ∃ w1, w1 = w.alloc (.cells #[.slice A ln lc] 22 (0, 0)) := ⟨_, rfl⟩
  obtain ⟨w2, hw2⟩ : ∃ w2, w2 = w1.alloc (.cells #[.int .i64 n] 2 (0, 0)) := ⟨_, rfl⟩
  obtain ⟨w3, hw3⟩ : ∃ w3, w3 = w2.alloc (.cells #[.func (.func f) #[] cp] 42 (0, 0)) := ⟨_, rfl⟩
  have s1 : w1.heap.size = w.heap.size + 1 := by rw [hw1]; simp
  have s2 : w2.heap.size = w.heap.size + 2 := by rw [hw2]; simp [s1]
  have hfin := Lib.hid (hK w3 (by rw [hw3, hw2, hw1]; exact ((al_same _ _).trans (al_same _ _)).trans (al_same _ _)) (by rw [hw3, hw2, hw1]; exact al_old (al_old (al_new _ _)))
    (by rw [hw3, hw2]; rw [← s1]; exact al_old (al_new _ _)) (by rw [hw3, ← s2]; exact al_new _ _))
  rw [hw3, hw2, hw1] at hfin
  clear hK hw1 hw2 hw3 s1 s2
  unfold sR0  sAll Try.f21
  dsimp only [sq1, sq2, inBl, opsOf]
  go_wp2_with fail
  exact ⟨rfl, by simpa using hfin.out⟩
theorem s_r2 {K : Act → World → Prop} (z0 z1 z2 z3 z5 z6 z7 z8 x9 x10 x11 x12 x13 x14 x15 x16 x17 x18 x19 x20 x21 x22 x23 x24 x25 x26 : Value) (n : Int) (a4 : Addr) (w : World) (hc : w.cell? a4 = some (.int .i64 n))
    (hK : K ⟨#[z0, z1, z2, z3, .pointer (some a4), z5, z6, z7, z8, x9, x10, x11, x12, x13, .int .i64 n, .int .i64 0, x16, x17, x18, x19, x20, x21, x22, x23, x24, x25, x26], []⟩ w) :
    sR2.wp Try.prog (QN K) ⟨#[z0, z1, z2, z3, .pointer (some a4), z5, z6, z7, z8, x9, x10, x11, x12, x13, x14, x15, x16, x17, x18, x19, x20, x21, x22, x23, x24, x25, x26], []⟩ w := by
  unfold sR2 sLp1 sAll Try.f21
  dsimp only [sq1, sq2, inBl, opsOf]
  go_wp2_with fail
  exact ⟨rfl, hK⟩

theorem s_enter (p0 p1 p2 : Value) : Frame.enter Try.prog 21 #[p0, p1, p2] .normal =
    sB.at ⟨#[p0, p1, p2, undef, undef, undef, undef, undef, undef, undef, undef, undef, undef, undef, undef, undef, undef, undef, undef, undef, undef, undef, undef, undef, undef, undef, undef], []⟩ [.code (.seq sR0 (.seq sR1 (.seq (.seq sR2 (.block 0 (.loop sL1))) (.seq (.seq sR7 (.block 2 (.loop sL2))) sEnd))))] := by
  have h1 : Try.prog.funcs[21]? = some Try.f21 := by kernel_rfl
  have h2 : Try.f21.ntmps = 27 := by kernel_rfl
  have e : #[p0, p1, p2] ++ Array.replicate (27 - #[p0, p1, p2].size) undef = #[p0, p1, p2, undef, undef, undef, undef, undef, undef, undef, undef, undef, undef, undef, undef, undef, undef, undef, undef, undef, undef, undef, undef, undef, undef, undef, undef] := by
    apply Array.ext'
    simp [List.replicate]
  rw [enter_eq h1 h2 s_body, e]
  rfl

/-- ████ FROM THE ENTRY TO THE FIRST LOOP's HEAD ████ -/
theorem shared_in (v : World) (gA ln lc n bR : Nat) (hl : ln ≤ 60) (cs : List Frame) : ∃ t1 v' b1 b2 b3 b4 b5 bO bC,
    Steps Try.prog (lone (Frame.enter Try.prog 21 #[.slice (some ⟨gA, 0, none⟩) ln lc, .int .i64 n, .func (.func 22) #[] #[.pointer (some ⟨bR, 0, none⟩)]] .normal) cs v) (lone (sB.at ⟨t1, []⟩ sH1) cs v') ∧
    S1 b1 b2 b3 b4 b5 n 0 t1 ∧ OldSame v v' ∧ (v.heap.size ≤ b1 ∧ v.heap.size ≤ b2 ∧ v.heap.size ≤ b3 ∧ v.heap.size ≤ b4 ∧ v.heap.size ≤ b5 ∧ v.heap.size ≤ bO) ∧ (b1 < bO ∧ b2 < bO ∧ b3 < bO ∧ b4 ≠ bO ∧ b5 ≠ bO) ∧
    (∃ el fz, v'.heap[b1]? = some (.cells #[.slice (some ⟨gA, 0, none⟩) ln lc] el fz)) ∧ (∃ el fz, v'.heap[b2]? = some (.cells #[.int .i64 n] el fz)) ∧
    (∃ el fz, v'.heap[b3]? = some (.cells #[.func (.func 22) #[] #[.pointer (some ⟨bR, 0, none⟩)]] el fz)) ∧ (∃ el fz, v'.heap[b4]? = some (.cells #[.slice (some ⟨bO, 0, none⟩) ln ln] el fz)) ∧
    (∃ el fz, v'.heap[b5]? = some (.cells #[.chan (some bC)] el fz)) ∧ (∃ zs0, v'.heap[bO]? = some (.cells zs0 2 (0, 0)) ∧ zs0.size = ln) ∧ chansOf v' bC := by
  obtain ⟨t1, v1, ⟨rfl, o1, e1, e2, e3⟩, hs1⟩ := wp_steps (P := Try.prog) (K := fun a u => a = ⟨#[.slice (some ⟨gA, 0, none⟩) ln lc, .int .i64 n, .func (.func 22) #[] #[.pointer (some ⟨bR, 0, none⟩)], .pointer (some ⟨v.heap.size, 0, none⟩), .pointer (some ⟨v.heap.size + 1, 0, none⟩), .pointer (some ⟨v.heap.size + 2, 0, none⟩), .slice none 0 0, undef, undef, undef, undef, undef, undef, undef, undef, undef, undef, undef, undef, undef, undef, undef, undef, undef, undef, undef, undef], []⟩ ∧ OldSame v u ∧
      u.heap[v.heap.size]? = some (.cells #[.slice (some ⟨gA, 0, none⟩) ln lc] 22 (0, 0)) ∧ u.heap[v.heap.size + 1]? = some (.cells #[.int .i64 n] 2 (0, 0)) ∧ u.heap[v.heap.size + 2]? = some (.cells #[.func (.func 22) #[] #[.pointer (some ⟨bR, 0, none⟩)]] 42 (0, 0)))
    (s_r0 (some ⟨gA, 0, none⟩) ln lc n 22 #[.pointer (some ⟨bR, 0, none⟩)] undef undef undef undef undef undef undef undef undef undef undef undef undef undef undef undef undef undef undef undef undef undef undef undef v (fun w' h1 h2 h3 h4 => ⟨rfl, h1, h2, h3, h4⟩)) sB [.code (.seq sR1 (.seq (.seq sR2 (.block 0 (.loop sL1))) (.seq (.seq sR7 (.block 2 (.loop sL2))) sEnd)))] cs
  have hc3 : v1.cell? ⟨v.heap.size, 0, none⟩ = some (.slice (some ⟨gA, 0, none⟩) ln lc) := by rw [cell_of e1]; rfl
  obtain ⟨t2, v2, ⟨y7, y8, y10, y11, y12, y13, L, rfl, hall, hI⟩, hs2⟩ := wp_steps (P := Try.prog) (K := fun a u => ∃ y7 y8 y10 y11 y12 y13 L, a = ⟨#[.slice (some ⟨gA, 0, none⟩) ln lc, .int .i64 n, .func (.func 22) #[] #[.pointer (some ⟨bR, 0, none⟩)], .pointer (some ⟨v.heap.size, 0, none⟩), .pointer (some ⟨v.heap.size + 1, 0, none⟩), .pointer (some ⟨v.heap.size + 2, 0, none⟩), .slice none 0 0, y7, y8, undef, y10, y11, y12, y13, undef, undef, undef, undef, undef, undef, undef, undef, undef, undef, undef, undef, undef], []⟩ ∧ (∀ i, i < 8 → L.getD i true = true) ∧ MkInv v1 (some ⟨gA, 0, none⟩) ln lc L y7 y8 y10 y11 y12 y13 u)
    (s_make _ _ _ _ _ _ undef undef undef undef undef undef undef undef undef undef undef undef undef undef undef undef undef undef undef undef ⟨v.heap.size, 0, none⟩ (some ⟨gA, 0, none⟩) ln lc v1 hc3 hl (fun y7 y8 y10 y11 y12 y13 w' L h1 h2 => ⟨y7, y8, y10, y11, y12, y13, L, rfl, h1, h2⟩)) sB [.code (.seq (.seq sR2 (.block 0 (.loop sL1))) (.seq (.seq sR7 (.block 2 (.loop sL2))) sEnd))] cs
  obtain ⟨bO, zs0, p1, rfl, p3, p4⟩ := hI.l2 (hall 2 (by omega))
  obtain ⟨bC, q1, rfl, q3⟩ := hI.l3 (hall 3 (by omega))
  obtain ⟨b4, r1, rfl, r3⟩ := hI.l4 (hall 4 (by omega))
  obtain ⟨b5, u1, rfl, u3⟩ := hI.l5 (hall 5 (by omega))
  rw [if_pos (hall 6 (by omega))] at r3
  rw [if_pos (hall 7 (by omega))] at u3
  have hsz := o1.size
  have hb2 := (Array.getElem?_eq_some_iff.1 e3).1
  obtain ⟨t3, v3, ⟨rfl, rfl⟩, hs3⟩ := wp_steps (P := Try.prog) (K := fun a u => a = ⟨#[.slice (some ⟨gA, 0, none⟩) ln lc, .int .i64 n, .func (.func 22) #[] #[.pointer (some ⟨bR, 0, none⟩)], .pointer (some ⟨v.heap.size, 0, none⟩), .pointer (some ⟨v.heap.size + 1, 0, none⟩), .pointer (some ⟨v.heap.size + 2, 0, none⟩), .slice none 0 0, .pointer (some ⟨b4, 0, none⟩), .pointer (some ⟨b5, 0, none⟩), undef, y10, y11, .slice (some ⟨bO, 0, none⟩) ln ln, .chan (some bC), .int .i64 n, .int .i64 0, undef, undef, undef, undef, undef, undef, undef, undef, undef, undef, undef], []⟩ ∧ u = v2)
    (s_r2 _ _ _ _ _ _ _ _ undef y10 y11 _ _ undef undef undef undef undef undef undef undef undef undef undef undef undef n ⟨v.heap.size + 1, 0, none⟩ v2 (by rw [cell_of (hI.old.get e2)]; rfl) ⟨rfl, rfl⟩) sB [.code (.block 0 (.loop sL1)), .code (.seq (.seq sR7 (.block 2 (.loop sL2))) sEnd)] cs
  refine ⟨#[.slice (some ⟨gA, 0, none⟩) ln lc, .int .i64 n, .func (.func 22) #[] #[.pointer (some ⟨bR, 0, none⟩)], .pointer (some ⟨v.heap.size, 0, none⟩), .pointer (some ⟨v.heap.size + 1, 0, none⟩), .pointer (some ⟨v.heap.size + 2, 0, none⟩), .slice none 0 0, .pointer (some ⟨b4, 0, none⟩), .pointer (some ⟨b5, 0, none⟩), undef, y10, y11, .slice (some ⟨bO, 0, none⟩) ln ln, .chan (some bC), .int .i64 n, .int .i64 (0 : Nat), undef, undef, undef, undef, undef, undef, undef, undef, undef, undef, undef], v3, v.heap.size, v.heap.size + 1, v.heap.size + 2, b4, b5, bO, bC, ?_, ⟨_, _, _, _, _, _, _, _, _, _, _, _, _, _, _, _, _, _, _, _, rfl⟩, o1.trans hI.old, ⟨by omega, by omega, by omega, by omega, by omega, by omega⟩, ⟨by omega, by omega, by omega, (fun e => by rw [e, p4] at r3; cases r3), (fun e => by rw [e, p4] at u3; cases u3)⟩, ⟨_, _, hI.old.get e1⟩, ⟨_, _, hI.old.get e2⟩, ⟨_, _, hI.old.get e3⟩, ⟨_, _, r3⟩, ⟨_, _, u3⟩, ⟨zs0, p4, p3⟩, ⟨_, _, q3⟩⟩
  rw [s_enter]
  refine .head step_seq (Steps.trans hs1 (.head step_seq (Steps.trans hs2 ?_)))
  exact .head step_seq (.head step_seq (Steps.trans hs3 (.head step_block (.one step_loop))))
end Go.Proofs.Ytneclhkpgalnlaa
