/-
  shared: out.
-/
import Derived.Test.YtneclhkpgalnlaaShL
namespace Go.Proofs.Ytneclhkpgalnlaa
open Go.ChangeShapes Go.WideShapes Go.ChangeAt Go.RowKit Sm Go.Conc
set_option linter.unusedVariables false
noncomputable def sR11 : Code := sq1 sEnd
theorem s_end : sEnd = .seq sR11 .ret := by kernel_rfl
theorem s_r11 {K : Act → World → Prop} (z0 z1 z2 z3 z4 z5 z6 z8 x9 x10 x11 x12 x13 x14 x15 x16 x17 x18 x19 x20 x21 x22 x23 x24 x25 x26 : Value) (A : Option Addr) (n c : Nat) (a7 : Addr) (w : World) (hc : w.cell? a7 = some (.slice A n c))
    (hK : K ⟨#[z0, z1, z2, z3, z4, z5, .slice A n c, .pointer (some a7), z8, x9, x10, x11, x12, x13, x14, x15, x16, x17, x18, x19, x20, x21, x22, x23, x24, x25, .slice A n c], []⟩ w) :
    sR11.wp Try.prog (QN K) ⟨#[z0, z1, z2, z3, z4, z5, z6, .pointer (some a7), z8, x9, x10, x11, x12, x13, x14, x15, x16, x17, x18, x19, x20, x21, x22, x23, x24, x25, x26], []⟩ w := by
  unfold sR11 sEnd sAll Try.f21
  dsimp only [sq1, sq2, inBl, opsOf]
  go_wp2_with fail
  exact ⟨rfl, hK⟩

theorem shared_out {b1 b2 b3 b4 b5 n ln bO : Nat} {t : Array Value} {v : World} (h1 : 1 ≤ n ∧ n ≤ 8) (hS : S2 b1 b2 b3 b4 b5 n (n - 1) t) (h4 : v.cell? ⟨b4, 0, none⟩ = some (.slice (some ⟨bO, 0, none⟩) ln ln)) (c : Frame) (cs : List Frame) :
    Steps Try.prog (lone (sB.at ⟨t, []⟩ (.inRegion (opsOf sR9) [] :: sK2)) (c :: cs) v) (lone (c.finish (.slice (some ⟨bO, 0, none⟩) ln ln)) cs v) := by
  obtain ⟨t1, hS1, hs1⟩ := recv_next (v := v) hS (by omega) (c :: cs)
  rw [show n - 1 + 1 = n from by omega] at hS1
  obtain ⟨t2, hS2, hs2⟩ := head2_exit (v := v) hS1 (c :: cs)
  obtain ⟨z0, z1, z2, z6, x9, x10, x11, x12, x13, x14, x15, x16, x17, x18, x19, x22, x23, x24, x25, x26, rfl⟩ := hS2
  obtain ⟨t3, v3, ⟨⟨t, rfl, ht⟩, rfl⟩, hs3⟩ := wp_steps (P := Try.prog) (K := fun a u => (∃ t : Array Value, a = ⟨t, []⟩ ∧ t.getD 6 undef = .slice (some ⟨bO, 0, none⟩) ln ln) ∧ u = v)
    (s_r11 z0 z1 z2 _ _ _ z6 _ x9 x10 x11 x12 x13 x14 x15 x16 x17 x18 x19 _ _ x22 x23 x24 x25 x26 _ ln ln ⟨b4, 0, none⟩ v h4 ⟨⟨_, rfl, rfl⟩, rfl⟩) sB [.code .ret] (c :: cs)
  refine Steps.trans hs1 (Steps.trans hs2 ?_)
  rw [s_end]
  refine .head step_seq (Steps.trans hs3 (.head step_ret (.one (step_leave_returned ?_))))
  refine ⟨rfl, rfl, rfl, Try.f21, by kernel_rfl, ?_⟩
  rw [results_tmp (t := 6) (by kernel_rfl)]
  exact congrArg (fun x => Result.ok x _) ht
end Go.Proofs.Ytneclhkpgalnlaa
