/-
  LIFE TABLES: IsLifeTable; who is alive: what the program's and the reference's functions return.
-/
import Derived.Test.YtkdiegplbloccaaAppF
namespace Go.Proofs.Ytkdiegplbloccaa
open Go.ChangeShapes Go.WideShapes Go.ChangeAt Go.RowKit
set_option linter.unusedVariables false

def shareB (b : Nat) : Bool := ge0 b && le1 b
def isOne (b : Nat) : Bool := Ieee.single.order b 1065353216 == some .eq
def tabOk (bs : List Nat) : Bool := bs.all shareB && (decide (1 ≤ bs.length) && (decide (bs.length ≤ 120) && isOne (bs[bs.length - 1]?.getD 0)))
theorem share_in1 {b : Nat} (hb : b < 4294967296) (h : shareB b = true) : In1 b := by
  simp [shareB] at h; exact in1_of hb h.1 h.2
theorem all_snoc {bs : List Nat} {k : Nat} (h : (bs.take k).all shareB = true) (hk : k < bs.length) (hp : shareB (bs[k]?.getD 0) = true) : (bs.take (k + 1)).all shareB = true := by
  rw [take_snoc bs k 0 hk, List.all_append, h]; simp [hp]
theorem all_not {bs : List Nat} {k : Nat} (hk : k < bs.length) (hp : shareB (bs[k]?.getD 0) = false) : tabOk bs = false := by
  have : bs.all shareB = false := by
    rw [List.all_eq_false]
    exact ⟨_, getD_memN hk, by simp [hp]⟩
  simp [tabOk, this]
theorem tab_empty {bs : List Nat} (h : bs.length = 0) : tabOk bs = false := by simp [tabOk, h]
theorem tab_long {bs : List Nat} (h : 120 < bs.length) : tabOk bs = false := by simp [tabOk]; omega
theorem tab_all {bs : List Nat} (h : bs.all shareB = true) (h1 : 1 ≤ bs.length) (h2 : bs.length ≤ 120) : tabOk bs = isOne (bs[bs.length - 1]?.getD 0) := by simp [tabOk, h, h1, h2]
/-- the tests of a share, as the walk spells them -/
theorem ge0_is {b : Nat} {x : Bool} (h : ge0 b = x) : (FloatKind.f32.format.order b 0 == some Ordering.gt || FloatKind.f32.format.order b 0 == some Ordering.eq) = x := h
theorem le1_is {b : Nat} {x : Bool} (h : le1 b = x) : (FloatKind.f32.format.order b 1065353216 == some Ordering.lt || FloatKind.f32.format.order b 1065353216 == some Ordering.eq) = x := h
theorem one_is {b : Nat} {x : Bool} (h : isOne b = x) : (FloatKind.f32.format.order b 1065353216 == some Ordering.eq) = x := h
theorem l02Share_any (b : Nat) (w : World) : Calls Try.prog 104 #[.float .f32 b] w fun e w' => e = .returned (.bool (shareB b)) ∧ w = w' := by
  cases h0 : ge0 b
  · have f0 := ge0_is h0
    have hfin := Lib.hid (show shareB b = false by simp [shareB, h0])
    go_enter Try.func104, Try.ntmps104
    go_wp2
    go_ret
    exact ⟨by rw [hfin.out]; rfl, rfl⟩
  · cases h1 : le1 b
    · have f0 := ge0_is h0
      have f1 := le1_is h1
      have hfin := Lib.hid (show shareB b = false by simp [shareB, h1])
      go_enter Try.func104, Try.ntmps104
      go_wp2
      go_ret
      exact ⟨by rw [hfin.out]; rfl, rfl⟩
    · have f0 := ge0_is h0
      have f1 := le1_is h1
      have hfin := Lib.hid (show shareB b = true by simp [shareB, h0, h1])
      go_enter Try.func104, Try.ntmps104
      go_wp2
      go_ret
      exact ⟨by rw [hfin.out]; rfl, rfl⟩
end Go.Proofs.Ytkdiegplbloccaa
