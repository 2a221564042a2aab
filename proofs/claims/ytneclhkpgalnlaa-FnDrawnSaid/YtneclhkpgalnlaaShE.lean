/-
  shared: the starter's script, its stretches.
-/
import Derived.Test.YtneclhkpgalnlaaShD
namespace Go.Proofs.Ytneclhkpgalnlaa
open Go.ChangeShapes Go.WideShapes Go.ChangeAt Go.RowKit Sm Go.Conc
set_option linter.unusedVariables false

section
variable {b1 b2 b3 b4 b5 : Nat}
/-- The slots in the first loop. -/
def S1 (b1 b2 b3 b4 b5 n i : Nat) (t : Array Value) : Prop := ∃ z0 z1 z2 z6 x9 x10 x11 x12 x13 x16 x17 x18 x19 x20 x21 x22 x23 x24 x25 x26 : Value, t = #[z0, z1, z2, .pointer (some ⟨b1, 0, none⟩), .pointer (some ⟨b2, 0, none⟩), .pointer (some ⟨b3, 0, none⟩), z6, .pointer (some ⟨b4, 0, none⟩), .pointer (some ⟨b5, 0, none⟩), x9, x10, x11, x12, x13, .int .i64 (n : Nat), .int .i64 (i : Nat), x16, x17, x18, x19, x20, x21, x22, x23, x24, x25, x26]
/-- The slots in the second. -/
def S2 (b1 b2 b3 b4 b5 n i : Nat) (t : Array Value) : Prop := ∃ z0 z1 z2 z6 x9 x10 x11 x12 x13 x14 x15 x16 x17 x18 x19 x22 x23 x24 x25 x26 : Value, t = #[z0, z1, z2, .pointer (some ⟨b1, 0, none⟩), .pointer (some ⟨b2, 0, none⟩), .pointer (some ⟨b3, 0, none⟩), z6, .pointer (some ⟨b4, 0, none⟩), .pointer (some ⟨b5, 0, none⟩), x9, x10, x11, x12, x13, x14, x15, x16, x17, x18, x19, .int .i64 (n : Nat), .int .i64 (i : Nat), x22, x23, x24, x25, x26]
noncomputable def sK1 : List Item := [.inBlock 1, .code sR6, .inLoop sL1, .inBlock 0, .code (.seq (.seq sR7 (.block 2 (.loop sL2))) sEnd)]
noncomputable def sH1 : List Item := [.code sL1, .inLoop sL1, .inBlock 0, .code (.seq (.seq sR7 (.block 2 (.loop sL2))) sEnd)]
noncomputable def sK2 : List Item := [.inBlock 3, .code sR10, .inLoop sL2, .inBlock 2, .code sEnd]
noncomputable def sH2 : List Item := [.code sL2, .inLoop sL2, .inBlock 2, .code sEnd]
noncomputable def sB : Frame := B 21 .normal

variable {n i : Nat} {t : Array Value} {v : World}

theorem head1_go (h : S1 b1 b2 b3 b4 b5 n i t) (hi : i < n) (cs : List Frame) : ∃ t' v', S1 b1 b2 b3 b4 b5 n i t' ∧ OldSame v v' ∧ v'.heap[v.heap.size]? = some (.cells #[.int .i64 i] 2 (0, 0)) ∧
    t'.getD 18 undef = .func (.func 29) #[] #[.pointer (some ⟨v.heap.size, 0, none⟩), .pointer (some ⟨b1, 0, none⟩), .pointer (some ⟨b2, 0, none⟩), .pointer (some ⟨b3, 0, none⟩), .pointer (some ⟨b4, 0, none⟩), .pointer (some ⟨b5, 0, none⟩)] ∧
    Steps Try.prog (lone (sB.at ⟨t, []⟩ sH1) cs v) (lone (sB.at ⟨t', []⟩ (.inRegion (opsOf sR5) [1] :: sK1)) cs v') := by
  obtain ⟨z0, z1, z2, z6, x9, x10, x11, x12, x13, x16, x17, x18, x19, x20, x21, x22, x23, x24, x25, x26, rfl⟩ := h
  obtain ⟨t1, v1, ⟨rfl, rfl⟩, hs1⟩ := wp_steps (P := Try.prog) (K := fun a v1 => a = ⟨#[z0, z1, z2, .pointer (some ⟨b1, 0, none⟩), .pointer (some ⟨b2, 0, none⟩), .pointer (some ⟨b3, 0, none⟩), z6, .pointer (some ⟨b4, 0, none⟩), .pointer (some ⟨b5, 0, none⟩), x9, x10, x11, x12, x13, .int .i64 (n : Nat), .int .i64 (i : Nat), .bool (decide ((i : Int) < (n : Int))), x17, x18, x19, x20, x21, x22, x23, x24, x25, x26], []⟩ ∧ v1 = v)
    (s_more z0 z1 z2 (.pointer (some ⟨b1, 0, none⟩)) (.pointer (some ⟨b2, 0, none⟩)) (.pointer (some ⟨b3, 0, none⟩)) z6 (.pointer (some ⟨b4, 0, none⟩)) (.pointer (some ⟨b5, 0, none⟩)) x9 x10 x11 x12 x13 x16 x17 x18 x19 x20 x21 x22 x23 x24 x25 x26 n i v ⟨rfl, rfl⟩) sB [.code (.seq (.cond (.tmp 16) .skip (.exit 0)) (.seq (.block 1 (.seq sR4 sR5)) sR6)), .inLoop sL1, .inBlock 0, .code (.seq (.seq sR7 (.block 2 (.loop sL2))) sEnd)] cs
  obtain ⟨t2, v2, ⟨rfl, ho, hsz, hbox⟩, hs2⟩ := wp_steps (P := Try.prog) (K := fun a v2 => a = ⟨#[z0, z1, z2, .pointer (some ⟨b1, 0, none⟩), .pointer (some ⟨b2, 0, none⟩), .pointer (some ⟨b3, 0, none⟩), z6, .pointer (some ⟨b4, 0, none⟩), .pointer (some ⟨b5, 0, none⟩), .pointer (some ⟨v1.heap.size, 0, none⟩), x10, x11, x12, x13, .int .i64 (n : Nat), .int .i64 (i : Nat), .bool (decide ((i : Int) < (n : Int))), .int .i64 (i : Nat), x18, x19, x20, x21, x22, x23, x24, x25, x26], []⟩ ∧ OldSame v1 v2 ∧ v2.heap.size = v1.heap.size + 1 ∧ v2.heap[v1.heap.size]? = some (.cells #[.int .i64 i] 2 (0, 0)))
    (s_box z0 z1 z2 (.pointer (some ⟨b1, 0, none⟩)) (.pointer (some ⟨b2, 0, none⟩)) (.pointer (some ⟨b3, 0, none⟩)) z6 (.pointer (some ⟨b4, 0, none⟩)) (.pointer (some ⟨b5, 0, none⟩)) x9 x10 x11 x12 x13 (.int .i64 (n : Nat)) (.bool (decide ((i : Int) < (n : Int)))) x17 x18 x19 x20 x21 x22 x23 x24 x25 x26 i v1 (fun w' h1 h2 h3 => ⟨rfl, h1, h2, h3⟩)) sB [.code sR5, .inBlock 1, .code sR6, .inLoop sL1, .inBlock 0, .code (.seq (.seq sR7 (.block 2 (.loop sL2))) sEnd)] cs
  obtain ⟨t3, v3, ⟨rfl, rfl⟩, hs3⟩ := ops_more (P := Try.prog) (ops := opsOf sR5) (ops2 := opsOf sR5) (K := fun a v3 => a = ⟨#[z0, z1, z2, .pointer (some ⟨b1, 0, none⟩), .pointer (some ⟨b2, 0, none⟩), .pointer (some ⟨b3, 0, none⟩), z6, .pointer (some ⟨b4, 0, none⟩), .pointer (some ⟨b5, 0, none⟩), .pointer (some ⟨v1.heap.size, 0, none⟩), x10, x11, x12, x13, .int .i64 (n : Nat), .int .i64 (i : Nat), .bool (decide ((i : Int) < (n : Int))), .int .i64 (i : Nat), .func (.func 29) #[] #[.pointer (some ⟨v1.heap.size, 0, none⟩), .pointer (some ⟨b1, 0, none⟩), .pointer (some ⟨b2, 0, none⟩), .pointer (some ⟨b3, 0, none⟩), .pointer (some ⟨b4, 0, none⟩), .pointer (some ⟨b5, 0, none⟩)], x19, x20, x21, x22, x23, x24, x25, x26], []⟩ ∧ v3 = v2) (fun _ => rfl) [0] _ v2 (fun _ _ => rfl)
    (s_fun z0 z1 z2 z6 x10 x11 x12 x13 (.int .i64 (n : Nat)) (.int .i64 (i : Nat)) (.bool (decide ((i : Int) < (n : Int)))) (.int .i64 (i : Nat)) x18 x19 x20 x21 x22 x23 x24 x25 x26 ⟨b1, 0, none⟩ ⟨b2, 0, none⟩ ⟨b3, 0, none⟩ ⟨b4, 0, none⟩ ⟨b5, 0, none⟩ ⟨v1.heap.size, 0, none⟩ v2 ⟨rfl, rfl⟩) sB [1] sK1 cs
  refine ⟨#[z0, z1, z2, .pointer (some ⟨b1, 0, none⟩), .pointer (some ⟨b2, 0, none⟩), .pointer (some ⟨b3, 0, none⟩), z6, .pointer (some ⟨b4, 0, none⟩), .pointer (some ⟨b5, 0, none⟩), .pointer (some ⟨v1.heap.size, 0, none⟩), x10, x11, x12, x13, .int .i64 (n : Nat), .int .i64 (i : Nat), .bool (decide ((i : Int) < (n : Int))), .int .i64 (i : Nat), .func (.func 29) #[] #[.pointer (some ⟨v1.heap.size, 0, none⟩), .pointer (some ⟨b1, 0, none⟩), .pointer (some ⟨b2, 0, none⟩), .pointer (some ⟨b3, 0, none⟩), .pointer (some ⟨b4, 0, none⟩), .pointer (some ⟨b5, 0, none⟩)], x19, x20, x21, x22, x23, x24, x25, x26], v3, ⟨_, _, _, _, _, _, _, _, _, _, _, _, _, _, _, _, _, _, _, _, rfl⟩, ho, hbox, rfl, ?_⟩
  unfold sH1
  rw [s_l1]
  refine .head step_seq (Steps.trans hs1 (.head step_seq (.head (step_cond (t := true) (by rw [show (decide ((i : Int) < (n : Int))) = true from decide_eq_true (by omega)]; rfl)) ?_)))
  refine .head step_skip (.head step_seq (.head step_block (.head step_seq (Steps.trans hs2 ?_))))
  rw [show sR5 = .region 5 (opsOf sR5) false from s_r5]
  refine .head step_region ?_
  rw [show List.range (opsOf sR5).size = [0] ++ [1] from by rw [s_size5]; rfl]
  exact hs3

theorem go_next (h : S1 b1 b2 b3 b4 b5 n i t) (hi : i ≤ 1000) (cs : List Frame) : ∃ t', S1 b1 b2 b3 b4 b5 n (i + 1) t' ∧ Steps Try.prog (lone (sB.at ⟨t, []⟩ (.inRegion (opsOf sR5) [] :: sK1)) cs v) (lone (sB.at ⟨t', []⟩ sH1) cs v) := by
  obtain ⟨z0, z1, z2, z6, x9, x10, x11, x12, x13, x16, x17, x18, x19, x20, x21, x22, x23, x24, x25, x26, rfl⟩ := h
  obtain ⟨t1, v1, ⟨rfl, rfl⟩, hs1⟩ := wp_steps (P := Try.prog) (K := fun a v1 => a = ⟨#[z0, z1, z2, .pointer (some ⟨b1, 0, none⟩), .pointer (some ⟨b2, 0, none⟩), .pointer (some ⟨b3, 0, none⟩), z6, .pointer (some ⟨b4, 0, none⟩), .pointer (some ⟨b5, 0, none⟩), x9, x10, x11, x12, x13, .int .i64 (n : Nat), .int .i64 ((i : Int) + 1), x16, x17, x18, .int .i64 ((i : Int) + 1), x20, x21, x22, x23, x24, x25, x26], []⟩ ∧ v1 = v)
    (s_inc z0 z1 z2 (.pointer (some ⟨b1, 0, none⟩)) (.pointer (some ⟨b2, 0, none⟩)) (.pointer (some ⟨b3, 0, none⟩)) z6 (.pointer (some ⟨b4, 0, none⟩)) (.pointer (some ⟨b5, 0, none⟩)) x9 x10 x11 x12 x13 (.int .i64 (n : Nat)) x16 x17 x18 x19 x20 x21 x22 x23 x24 x25 x26 i v (by omega) ⟨rfl, rfl⟩) sB [.inLoop sL1, .inBlock 0, .code (.seq (.seq sR7 (.block 2 (.loop sL2))) sEnd)] cs
  refine ⟨#[z0, z1, z2, .pointer (some ⟨b1, 0, none⟩), .pointer (some ⟨b2, 0, none⟩), .pointer (some ⟨b3, 0, none⟩), z6, .pointer (some ⟨b4, 0, none⟩), .pointer (some ⟨b5, 0, none⟩), x9, x10, x11, x12, x13, .int .i64 (n : Nat), .int .i64 ((i + 1 : Nat) : Int), x16, x17, x18, .int .i64 ((i + 1 : Nat) : Int), x20, x21, x22, x23, x24, x25, x26], ⟨_, _, _, _, _, _, _, _, _, _, _, _, .int .i64 ((i + 1 : Nat) : Int), _, _, _, _, _, _, _, rfl⟩, .head step_region_end (.head step_inBlock (Steps.trans hs1 (.one ?_)))⟩
  rw [show ((i : Int) + 1) = ((i + 1 : Nat) : Int) from by omega]
  exact step_inLoop

theorem head1_exit (h : S1 b1 b2 b3 b4 b5 n n t) (h2 : v.cell? ⟨b2, 0, none⟩ = some (.int .i64 n)) (cs : List Frame) : ∃ t', S2 b1 b2 b3 b4 b5 n 0 t' ∧ Steps Try.prog (lone (sB.at ⟨t, []⟩ sH1) cs v) (lone (sB.at ⟨t', []⟩ sH2) cs v) := by
  obtain ⟨z0, z1, z2, z6, x9, x10, x11, x12, x13, x16, x17, x18, x19, x20, x21, x22, x23, x24, x25, x26, rfl⟩ := h
  obtain ⟨t1, v1, ⟨rfl, rfl⟩, hs1⟩ := wp_steps (P := Try.prog) (K := fun a v1 => a = ⟨#[z0, z1, z2, .pointer (some ⟨b1, 0, none⟩), .pointer (some ⟨b2, 0, none⟩), .pointer (some ⟨b3, 0, none⟩), z6, .pointer (some ⟨b4, 0, none⟩), .pointer (some ⟨b5, 0, none⟩), x9, x10, x11, x12, x13, .int .i64 (n : Nat), .int .i64 (n : Nat), .bool (decide ((n : Int) < (n : Int))), x17, x18, x19, x20, x21, x22, x23, x24, x25, x26], []⟩ ∧ v1 = v)
    (s_more z0 z1 z2 (.pointer (some ⟨b1, 0, none⟩)) (.pointer (some ⟨b2, 0, none⟩)) (.pointer (some ⟨b3, 0, none⟩)) z6 (.pointer (some ⟨b4, 0, none⟩)) (.pointer (some ⟨b5, 0, none⟩)) x9 x10 x11 x12 x13 x16 x17 x18 x19 x20 x21 x22 x23 x24 x25 x26 n n v ⟨rfl, rfl⟩) sB [.code (.seq (.cond (.tmp 16) .skip (.exit 0)) (.seq (.block 1 (.seq sR4 sR5)) sR6)), .inLoop sL1, .inBlock 0, .code (.seq (.seq sR7 (.block 2 (.loop sL2))) sEnd)] cs
  obtain ⟨t2, v2, ⟨rfl, rfl⟩, hs2⟩ := wp_steps (P := Try.prog) (K := fun a v2 => a = ⟨#[z0, z1, z2, .pointer (some ⟨b1, 0, none⟩), .pointer (some ⟨b2, 0, none⟩), .pointer (some ⟨b3, 0, none⟩), z6, .pointer (some ⟨b4, 0, none⟩), .pointer (some ⟨b5, 0, none⟩), x9, x10, x11, x12, x13, .int .i64 (n : Nat), .int .i64 (n : Nat), .bool (decide ((n : Int) < (n : Int))), x17, x18, x19, .int .i64 (n : Nat), .int .i64 0, x22, x23, x24, x25, x26], []⟩ ∧ v2 = v1)
    (s_two z0 z1 z2 (.pointer (some ⟨b1, 0, none⟩)) (.pointer (some ⟨b3, 0, none⟩)) z6 (.pointer (some ⟨b4, 0, none⟩)) (.pointer (some ⟨b5, 0, none⟩)) x9 x10 x11 x12 x13 (.int .i64 (n : Nat)) (.int .i64 (n : Nat)) (.bool (decide ((n : Int) < (n : Int)))) x17 x18 x19 x20 x21 x22 x23 x24 x25 x26 n ⟨b2, 0, none⟩ v1 h2 ⟨rfl, rfl⟩) sB [.code (.block 2 (.loop sL2)), .code sEnd] cs
  refine ⟨#[z0, z1, z2, .pointer (some ⟨b1, 0, none⟩), .pointer (some ⟨b2, 0, none⟩), .pointer (some ⟨b3, 0, none⟩), z6, .pointer (some ⟨b4, 0, none⟩), .pointer (some ⟨b5, 0, none⟩), x9, x10, x11, x12, x13, .int .i64 (n : Nat), .int .i64 (n : Nat), .bool (decide ((n : Int) < (n : Int))), x17, x18, x19, .int .i64 (n : Nat), .int .i64 0, x22, x23, x24, x25, x26], ⟨_, _, _, _, _, _, _, _, _, _, _, _, _, _, _, _, _, _, _, _, rfl⟩, ?_⟩
  unfold sH1
  rw [s_l1]
  refine .head step_seq (Steps.trans hs1 (.head step_seq (.head (step_cond (t := false) (by rw [show (decide ((n : Int) < (n : Int))) = false from decide_eq_false (by omega)]; rfl)) ?_)))
  refine .head (step_exit (k' := [.code (.seq (.seq sR7 (.block 2 (.loop sL2))) sEnd)]) rfl) ?_
  exact .head step_seq (.head step_seq (Steps.trans hs2 (.head step_block (.one step_loop))))

theorem head2_recv {bC : Nat} (h : S2 b1 b2 b3 b4 b5 n i t) (hi : i < n) (h5 : v.cell? ⟨b5, 0, none⟩ = some (.chan (some bC))) (cs : List Frame) : ∃ t', S2 b1 b2 b3 b4 b5 n i t' ∧ t'.getD 23 undef = .chan (some bC) ∧
    Steps Try.prog (lone (sB.at ⟨t, []⟩ sH2) cs v) (lone (sB.at ⟨t', []⟩ (.inRegion (opsOf sR9) [1] :: sK2)) cs v) := by
  obtain ⟨z0, z1, z2, z6, x9, x10, x11, x12, x13, x14, x15, x16, x17, x18, x19, x22, x23, x24, x25, x26, rfl⟩ := h
  obtain ⟨t1, v1, ⟨rfl, rfl⟩, hs1⟩ := wp_steps (P := Try.prog) (K := fun a v1 => a = ⟨#[z0, z1, z2, .pointer (some ⟨b1, 0, none⟩), .pointer (some ⟨b2, 0, none⟩), .pointer (some ⟨b3, 0, none⟩), z6, .pointer (some ⟨b4, 0, none⟩), .pointer (some ⟨b5, 0, none⟩), x9, x10, x11, x12, x13, x14, x15, x16, x17, x18, x19, .int .i64 (n : Nat), .int .i64 (i : Nat), .bool (decide ((i : Int) < (n : Int))), x23, x24, x25, x26], []⟩ ∧ v1 = v)
    (s_more2 z0 z1 z2 (.pointer (some ⟨b1, 0, none⟩)) (.pointer (some ⟨b2, 0, none⟩)) (.pointer (some ⟨b3, 0, none⟩)) z6 (.pointer (some ⟨b4, 0, none⟩)) (.pointer (some ⟨b5, 0, none⟩)) x9 x10 x11 x12 x13 x14 x15 x16 x17 x18 x19 x22 x23 x24 x25 x26 n i v ⟨rfl, rfl⟩) sB [.code (.seq (.cond (.tmp 22) .skip (.exit 2)) (.seq (.block 3 sR9) sR10)), .inLoop sL2, .inBlock 2, .code sEnd] cs
  obtain ⟨t3, v3, ⟨rfl, rfl⟩, hs3⟩ := ops_more (P := Try.prog) (ops := opsOf sR9) (ops2 := opsOf sR9) (K := fun a v3 => a = ⟨#[z0, z1, z2, .pointer (some ⟨b1, 0, none⟩), .pointer (some ⟨b2, 0, none⟩), .pointer (some ⟨b3, 0, none⟩), z6, .pointer (some ⟨b4, 0, none⟩), .pointer (some ⟨b5, 0, none⟩), x9, x10, x11, x12, x13, x14, x15, x16, x17, x18, x19, .int .i64 (n : Nat), .int .i64 (i : Nat), .bool (decide ((i : Int) < (n : Int))), .chan (some bC), x24, x25, x26], []⟩ ∧ v3 = v1) (fun _ => rfl) [0] _ v1 (fun _ _ => rfl)
    (s_chan z0 z1 z2 (.pointer (some ⟨b1, 0, none⟩)) (.pointer (some ⟨b2, 0, none⟩)) (.pointer (some ⟨b3, 0, none⟩)) z6 (.pointer (some ⟨b4, 0, none⟩)) x9 x10 x11 x12 x13 x14 x15 x16 x17 x18 x19 (.int .i64 (n : Nat)) (.int .i64 (i : Nat)) (.bool (decide ((i : Int) < (n : Int)))) x23 x24 x25 x26 ⟨b5, 0, none⟩ bC v1 h5 ⟨rfl, rfl⟩) sB [1] sK2 cs
  refine ⟨#[z0, z1, z2, .pointer (some ⟨b1, 0, none⟩), .pointer (some ⟨b2, 0, none⟩), .pointer (some ⟨b3, 0, none⟩), z6, .pointer (some ⟨b4, 0, none⟩), .pointer (some ⟨b5, 0, none⟩), x9, x10, x11, x12, x13, x14, x15, x16, x17, x18, x19, .int .i64 (n : Nat), .int .i64 (i : Nat), .bool (decide ((i : Int) < (n : Int))), .chan (some bC), x24, x25, x26], ⟨_, _, _, _, _, _, _, _, _, _, _, _, _, _, _, _, _, _, _, _, rfl⟩, rfl, ?_⟩
  unfold sH2
  rw [s_l2]
  refine .head step_seq (Steps.trans hs1 (.head step_seq (.head (step_cond (t := true) (by rw [show (decide ((i : Int) < (n : Int))) = true from decide_eq_true (by omega)]; rfl)) ?_)))
  refine .head step_skip (.head step_seq (.head step_block ?_))
  rw [show sR9 = .region 9 (opsOf sR9) false from s_r9]
  refine .head step_region ?_
  rw [show List.range (opsOf sR9).size = [0] ++ [1] from by rw [s_size9]; rfl]
  exact hs3

theorem recv_next (h : S2 b1 b2 b3 b4 b5 n i t) (hi : i ≤ 1000) (cs : List Frame) : ∃ t', S2 b1 b2 b3 b4 b5 n (i + 1) t' ∧ Steps Try.prog (lone (sB.at ⟨t, []⟩ (.inRegion (opsOf sR9) [] :: sK2)) cs v) (lone (sB.at ⟨t', []⟩ sH2) cs v) := by
  obtain ⟨z0, z1, z2, z6, x9, x10, x11, x12, x13, x14, x15, x16, x17, x18, x19, x22, x23, x24, x25, x26, rfl⟩ := h
  obtain ⟨t1, v1, ⟨rfl, rfl⟩, hs1⟩ := wp_steps (P := Try.prog) (K := fun a v1 => a = ⟨#[z0, z1, z2, .pointer (some ⟨b1, 0, none⟩), .pointer (some ⟨b2, 0, none⟩), .pointer (some ⟨b3, 0, none⟩), z6, .pointer (some ⟨b4, 0, none⟩), .pointer (some ⟨b5, 0, none⟩), x9, x10, x11, x12, x13, x14, x15, x16, x17, x18, x19, .int .i64 (n : Nat), .int .i64 ((i : Int) + 1), x22, x23, x24, .int .i64 ((i : Int) + 1), x26], []⟩ ∧ v1 = v)
    (s_inc2 z0 z1 z2 (.pointer (some ⟨b1, 0, none⟩)) (.pointer (some ⟨b2, 0, none⟩)) (.pointer (some ⟨b3, 0, none⟩)) z6 (.pointer (some ⟨b4, 0, none⟩)) (.pointer (some ⟨b5, 0, none⟩)) x9 x10 x11 x12 x13 x14 x15 x16 x17 x18 x19 (.int .i64 (n : Nat)) x22 x23 x24 x25 x26 i v (by omega) ⟨rfl, rfl⟩) sB [.inLoop sL2, .inBlock 2, .code sEnd] cs
  refine ⟨#[z0, z1, z2, .pointer (some ⟨b1, 0, none⟩), .pointer (some ⟨b2, 0, none⟩), .pointer (some ⟨b3, 0, none⟩), z6, .pointer (some ⟨b4, 0, none⟩), .pointer (some ⟨b5, 0, none⟩), x9, x10, x11, x12, x13, x14, x15, x16, x17, x18, x19, .int .i64 (n : Nat), .int .i64 ((i + 1 : Nat) : Int), x22, x23, x24, .int .i64 ((i + 1 : Nat) : Int), x26], ⟨_, _, _, _, _, _, _, _, _, _, _, _, _, _, _, _, _, _, .int .i64 ((i + 1 : Nat) : Int), _, rfl⟩, .head step_region_end (.head step_inBlock (Steps.trans hs1 (.one ?_)))⟩
  rw [show ((i : Int) + 1) = ((i + 1 : Nat) : Int) from by omega]
  exact step_inLoop

theorem head2_exit (h : S2 b1 b2 b3 b4 b5 n n t) (cs : List Frame) : ∃ t', S2 b1 b2 b3 b4 b5 n n t' ∧ Steps Try.prog (lone (sB.at ⟨t, []⟩ sH2) cs v) (lone (sB.at ⟨t', []⟩ [.code sEnd]) cs v) := by
  obtain ⟨z0, z1, z2, z6, x9, x10, x11, x12, x13, x14, x15, x16, x17, x18, x19, x22, x23, x24, x25, x26, rfl⟩ := h
  obtain ⟨t1, v1, ⟨rfl, rfl⟩, hs1⟩ := wp_steps (P := Try.prog) (K := fun a v1 => a = ⟨#[z0, z1, z2, .pointer (some ⟨b1, 0, none⟩), .pointer (some ⟨b2, 0, none⟩), .pointer (some ⟨b3, 0, none⟩), z6, .pointer (some ⟨b4, 0, none⟩), .pointer (some ⟨b5, 0, none⟩), x9, x10, x11, x12, x13, x14, x15, x16, x17, x18, x19, .int .i64 (n : Nat), .int .i64 (n : Nat), .bool (decide ((n : Int) < (n : Int))), x23, x24, x25, x26], []⟩ ∧ v1 = v)
    (s_more2 z0 z1 z2 (.pointer (some ⟨b1, 0, none⟩)) (.pointer (some ⟨b2, 0, none⟩)) (.pointer (some ⟨b3, 0, none⟩)) z6 (.pointer (some ⟨b4, 0, none⟩)) (.pointer (some ⟨b5, 0, none⟩)) x9 x10 x11 x12 x13 x14 x15 x16 x17 x18 x19 x22 x23 x24 x25 x26 n n v ⟨rfl, rfl⟩) sB [.code (.seq (.cond (.tmp 22) .skip (.exit 2)) (.seq (.block 3 sR9) sR10)), .inLoop sL2, .inBlock 2, .code sEnd] cs
  refine ⟨#[z0, z1, z2, .pointer (some ⟨b1, 0, none⟩), .pointer (some ⟨b2, 0, none⟩), .pointer (some ⟨b3, 0, none⟩), z6, .pointer (some ⟨b4, 0, none⟩), .pointer (some ⟨b5, 0, none⟩), x9, x10, x11, x12, x13, x14, x15, x16, x17, x18, x19, .int .i64 (n : Nat), .int .i64 (n : Nat), .bool (decide ((n : Int) < (n : Int))), x23, x24, x25, x26], ⟨_, _, _, _, _, _, _, _, _, _, _, _, _, _, _, _, _, _, _, _, rfl⟩, ?_⟩
  unfold sH2
  rw [s_l2]
  refine .head step_seq (Steps.trans hs1 (.head step_seq (.head (step_cond (t := false) (by rw [show (decide ((n : Int) < (n : Int))) = false from decide_eq_false (by omega)]; rfl)) ?_)))
  exact .one (step_exit rfl)
end
end Go.Proofs.Ytneclhkpgalnlaa
