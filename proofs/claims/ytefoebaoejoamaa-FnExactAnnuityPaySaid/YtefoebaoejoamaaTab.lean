/-
  LIFE TABLES: IsLifeTable; who is alive: what the program's and the reference's functions return.
-/
import Derived.Test.YtefoebaoejoamaaAppF
namespace Go.Proofs.Ytefoebaoejoamaa
open Go.ChangeShapes Go.WideShapes Go.ChangeAt Go.RowKit
set_option linter.unusedVariables false

def shareB (b : Nat) : Bool := ge0 b && le1 b
def isOne (b : Nat) : Bool := Ieee.single.order b 1065353216 == some .eq
def tabOk (bs : List Nat) : Bool := bs.all shareB && (decide (1 ≤ bs.length) && (decide (bs.length ≤ 120) && isOne (bs[bs.length - 1]?.getD 0)))
theorem share_in1 {b : Nat} (hb : b < 4294967296) (h : shareB b = true) : In1 b := by
  simp [shareB] at h; exact in1_of hb h.1 h.2
theorem all_snoc {bs : List Nat} {k : Nat} (h : (bs.take k).all shareB = true) (hk : k < bs.length) (hp : shareB (bs[k]?.getD 0) = true) : (bs.take (k + 1)).all shareB = true := by
  rw [take_snoc bs k 0 hk, List.all_append, h]; simp [hp]
theorem all_not {bs : List Nat} {k : Nat} (hk : k < bs.length) (hp : shareB (bs[k]?.getD 0) = false) : tabOk bs = false := by
  have : bs.all shareB = false := by
    rw [List.all_eq_false]
    exact ⟨_, getD_memN hk, by simp [hp]⟩
  simp [tabOk, this]
theorem tab_empty {bs : List Nat} (h : bs.length = 0) : tabOk bs = false := by simp [tabOk, h]
theorem tab_long {bs : List Nat} (h : 120 < bs.length) : tabOk bs = false := by simp [tabOk]; omega
theorem tab_all {bs : List Nat} (h : bs.all shareB = true) (h1 : 1 ≤ bs.length) (h2 : bs.length ≤ 120) : tabOk bs = isOne (bs[bs.length - 1]?.getD 0) := by simp [tabOk, h, h1, h2]
/-- the tests of a share, as the walk spells them -/
theorem ge0_is {b : Nat} {x : Bool} (h : ge0 b = x) : (FloatKind.f32.format.order b 0 == some Ordering.gt || FloatKind.f32.format.order b 0 == some Ordering.eq) = x := h
theorem le1_is {b : Nat} {x : Bool} (h : le1 b = x) : (FloatKind.f32.format.order b 1065353216 == some Ordering.lt || FloatKind.f32.format.order b 1065353216 == some Ordering.eq) = x := h
theorem one_is {b : Nat} {x : Bool} (h : isOne b = x) : (FloatKind.f32.format.order b 1065353216 == some Ordering.eq) = x := h
theorem l02Share_any (b : Nat) (w : World) : Calls Try.prog 47 #[.float .f32 b] w fun e w' => e = .returned (.bool (shareB b)) ∧ w = w' := by
  cases h0 : ge0 b
  · have f0 := ge0_is h0
    have hfin := Lib.hid (show shareB b = false by simp [shareB, h0])
    go_enter Try.func47, Try.ntmps47
    go_wp2
    go_ret
    exact ⟨by rw [hfin.out]; rfl, rfl⟩
  · cases h1 : le1 b
    · have f0 := ge0_is h0
      have f1 := le1_is h1
      have hfin := Lib.hid (show shareB b = false by simp [shareB, h1])
      go_enter Try.func47, Try.ntmps47
      go_wp2
      go_ret
      exact ⟨by rw [hfin.out]; rfl, rfl⟩
    · have f0 := ge0_is h0
      have f1 := le1_is h1
      have hfin := Lib.hid (show shareB b = true by simp [shareB, h0, h1])
      go_enter Try.func47, Try.ntmps47
      go_wp2
      go_ret
      exact ⟨by rw [hfin.out]; rfl, rfl⟩
theorem isYield_any (b : Nat) (w : World) : Calls Try.prog 48 #[.float .f32 b] w fun e w' => e = .returned (.bool (shareB b)) ∧ w = w' := by
  cases h0 : ge0 b
  · have f0 := ge0_is h0
    have hfin := Lib.hid (show shareB b = false by simp [shareB, h0])
    go_enter Try.func48, Try.ntmps48
    go_wp2
    go_ret
    exact ⟨by rw [hfin.out]; rfl, rfl⟩
  · cases h1 : le1 b
    · have f0 := ge0_is h0
      have f1 := le1_is h1
      have hfin := Lib.hid (show shareB b = false by simp [shareB, h1])
      go_enter Try.func48, Try.ntmps48
      go_wp2
      go_ret
      exact ⟨by rw [hfin.out]; rfl, rfl⟩
    · have f0 := ge0_is h0
      have f1 := le1_is h1
      have hfin := Lib.hid (show shareB b = true by simp [shareB, h0, h1])
      go_enter Try.func48, Try.ntmps48
      go_wp2
      go_ret
      exact ⟨by rw [hfin.out]; rfl, rfl⟩
set_option maxHeartbeats 800000 in
theorem isLife_any (A : Option Addr) (n c : Nat) (bs : List Nat) (w : World) (hr : Rd w w.heap.size 1 A n (flts bs)) (hn : n ≤ 1048576) :
    Calls Try.prog 17 #[.slice A n c] w fun e w' => e = .returned (.bool (tabOk bs)) ∧ w = w' := by
  have HL := Lib.hid hr.flen
  go_enter Try.func17, Try.ntmps17
  go_wp2
  go_loop [4, 7] (fun _ i => ∃ k : Nat, k ≤ n ∧ i = .int .i64 k ∧ (bs.take k).all shareB = true) (fun _ i => n - (intOf i).toNat)
  case atStart => exact ⟨0, Nat.zero_le _, rfl, rfl⟩
  case round =>
    obtain ⟨k, hk, rfl, ha⟩ := hrel
    have HA := Lib.hid ha
    clear ha
    by_cases hlt : k < n
    · obtain ⟨ad, rfl, hc⟩ := hr.flt hlt
      clear hr
      obtain ⟨b, hb⟩ : ∃ b, b = bs[k]?.getD 0 := ⟨_, rfl⟩
      rw [← hb] at hc
      have HB := Lib.hid hb
      clear hb
      cases h0 : ge0 b
      · have f0 := ge0_is h0
        have hs : shareB b = false := by simp [shareB, h0]
        have hfin := Lib.hid (all_not (bs := bs) (k := k) (by have := HL.out; omega) (by rw [← HB.out]; exact hs))
        go_wp2_with fail
        go_ret
        exact ⟨by rw [hfin.out]; rfl, rfl⟩
      · cases h1 : le1 b
        · have f0 := ge0_is h0
          have f1 := le1_is h1
          have hs : shareB b = false := by simp [shareB, h1]
          have hfin := Lib.hid (all_not (bs := bs) (k := k) (by have := HL.out; omega) (by rw [← HB.out]; exact hs))
          go_wp2_with fail
          go_ret
          exact ⟨by rw [hfin.out]; rfl, rfl⟩
        · have f0 := ge0_is h0
          have f1 := le1_is h1
          have hs : shareB b = true := by simp [shareB, h0, h1]
          have hfin := Lib.hid (all_snoc (bs := bs) (k := k) HA.out (by have := HL.out; omega) (by rw [← HB.out]; exact hs))
          go_wp2_with fail
          go_round
          case rel => exact ⟨k + 1, by omega, by go_num, hfin.out⟩
          case measure => simp [intOf]; omega
    · obtain rfl : n = k := by omega
      have HA2 := Lib.hid (show bs.all shareB = true by have := HA.out; rwa [List.take_of_length_le (by have := HL.out; omega)] at this)
      clear HA
      by_cases h0 : n = 0
      · subst h0
        have hfin := Lib.hid (tab_empty HL.out)
        go_wp2
        go_ret
        exact ⟨by rw [hfin.out]; rfl, rfl⟩
      · have h1 : 1 ≤ n := by omega
        clear h0
        by_cases h2 : n ≤ 120
        · obtain ⟨ad, rfl, hc⟩ := hr.flt (k := n - 1) (by omega)
          clear hr
          have hfin := Lib.hid (tab_all HA2.out (by rw [HL.out]; exact h1) (by rw [HL.out]; exact h2))
          obtain ⟨b, hb⟩ : ∃ b, b = bs[n - 1]?.getD 0 := ⟨_, rfl⟩
          rw [← hb] at hc
          have HB := Lib.hid hb
          clear hb
          cases ho : isOne b
          · have f1 := one_is ho
            have HO := Lib.hid ho
            clear ho
            go_wp2
            go_ret
            exact ⟨by rw [hfin.out, HL.out, ← HB.out, HO.out]; rfl, rfl⟩
          · have f1 := one_is ho
            have HO := Lib.hid ho
            clear ho
            go_wp2
            go_ret
            exact ⟨by rw [hfin.out, HL.out, ← HB.out, HO.out]; rfl, rfl⟩
        · have hfin := Lib.hid (tab_long (bs := bs) (by rw [HL.out]; omega))
          go_wp2
          go_ret
          exact ⟨by rw [hfin.out]; rfl, rfl⟩
set_option maxHeartbeats 800000 in
theorem l06Table_any (A : Option Addr) (n c : Nat) (bs : List Nat) (w : World) (hr : Rd w w.heap.size 1 A n (flts bs)) (hn : n ≤ 1048576) :
    Calls Try.prog 46 #[.slice A n c] w fun e w' => e = .returned (.bool (tabOk bs)) ∧ w = w' := by
  have HL := Lib.hid hr.flen
  go_enter Try.func46, Try.ntmps46
  go_wp2
  go_loop [4] (fun i => ∃ k : Nat, k ≤ n ∧ i = .int .i64 k ∧ (bs.take k).all shareB = true) (fun i => n - (intOf i).toNat)
  case atStart => exact ⟨0, Nat.zero_le _, rfl, rfl⟩
  case round =>
    obtain ⟨k, hk, rfl, ha⟩ := hrel
    have HA := Lib.hid ha
    clear ha
    by_cases hlt : k < n
    · obtain ⟨ad, rfl, hc⟩ := hr.flt hlt
      clear hr
      obtain ⟨b, hb⟩ : ∃ b, b = bs[k]?.getD 0 := ⟨_, rfl⟩
      rw [← hb] at hc
      have HB := Lib.hid hb
      clear hb
      cases h0 : ge0 b
      · have f0 := ge0_is h0
        have hs : shareB b = false := by simp [shareB, h0]
        have hfin := Lib.hid (all_not (bs := bs) (k := k) (by have := HL.out; omega) (by rw [← HB.out]; exact hs))
        go_wp2_with (first | (go_at_call 47; refine (l02Share_any _ _).mono ?_; rintro e w' ⟨rfl, rfl⟩))
        go_ret
        exact ⟨by rw [hfin.out]; rfl, rfl⟩
      · cases h1 : le1 b
        · have f0 := ge0_is h0
          have f1 := le1_is h1
          have hs : shareB b = false := by simp [shareB, h1]
          have hfin := Lib.hid (all_not (bs := bs) (k := k) (by have := HL.out; omega) (by rw [← HB.out]; exact hs))
          go_wp2_with (first | (go_at_call 47; refine (l02Share_any _ _).mono ?_; rintro e w' ⟨rfl, rfl⟩))
          go_ret
          exact ⟨by rw [hfin.out]; rfl, rfl⟩
        · have f0 := ge0_is h0
          have f1 := le1_is h1
          have hs : shareB b = true := by simp [shareB, h0, h1]
          have hfin := Lib.hid (all_snoc (bs := bs) (k := k) HA.out (by have := HL.out; omega) (by rw [← HB.out]; exact hs))
          go_wp2_with (first | (go_at_call 47; refine (l02Share_any _ _).mono ?_; rintro e w' ⟨rfl, rfl⟩))
          go_round
          case rel => exact ⟨k + 1, by omega, by go_num, hfin.out⟩
          case measure => simp [intOf]; omega
    · obtain rfl : n = k := by omega
      have HA2 := Lib.hid (show bs.all shareB = true by have := HA.out; rwa [List.take_of_length_le (by have := HL.out; omega)] at this)
      clear HA
      by_cases h0 : n = 0
      · subst h0
        have hfin := Lib.hid (tab_empty HL.out)
        go_wp2
        go_ret
        exact ⟨by rw [hfin.out]; rfl, rfl⟩
      · have h1 : 1 ≤ n := by omega
        clear h0
        by_cases h2 : n ≤ 120
        · obtain ⟨ad, rfl, hc⟩ := hr.flt (k := n - 1) (by omega)
          clear hr
          have hfin := Lib.hid (tab_all HA2.out (by rw [HL.out]; exact h1) (by rw [HL.out]; exact h2))
          obtain ⟨b, hb⟩ : ∃ b, b = bs[n - 1]?.getD 0 := ⟨_, rfl⟩
          rw [← hb] at hc
          have HB := Lib.hid hb
          clear hb
          cases ho : isOne b
          · have f1 := one_is ho
            have HO := Lib.hid ho
            clear ho
            go_wp2
            go_ret
            exact ⟨by rw [hfin.out, HL.out, ← HB.out, HO.out]; rfl, rfl⟩
          · have f1 := one_is ho
            have HO := Lib.hid ho
            clear ho
            go_wp2
            go_ret
            exact ⟨by rw [hfin.out, HL.out, ← HB.out, HO.out]; rfl, rfl⟩
        · have hfin := Lib.hid (tab_long (bs := bs) (by rw [HL.out]; omega))
          go_wp2
          go_ret
          exact ⟨by rw [hfin.out]; rfl, rfl⟩
def IsLifeTable_r0 (bs : List Nat) : Bool := tabOk bs
theorem impl_IsLifeTable (A : Option Addr) (n c : Nat) (bs : List Nat) (w : World) (hr : Rd w w.heap.size 1 A n (flts bs)) (hn : n ≤ 1048576) (hz : F32s bs) :
    Calls Try.prog 17 #[.slice A n c] w fun E w' => E = .returned (.bool (IsLifeTable_r0 bs)) ∧ Below w.heap.size w w' :=
  (isLife_any A n c bs w hr hn).mono fun e w' ⟨h1, h2⟩ => ⟨h1, by subst h2; exact Below.refl _ _⟩
theorem spec_IsLifeTable (A : Option Addr) (n c : Nat) (bs : List Nat) (w : World) (hr : Rd w w.heap.size 1 A n (flts bs)) (hn : n ≤ 1048576) (hz : F32s bs) :
    Calls Try.prog 15 #[.slice A n c] w fun E w' => E = .returned (.bool (IsLifeTable_r0 bs)) ∧ Below w.heap.size w w' := by
  go_enter Try.func15, Try.ntmps15
  go_wp2_with (go_at_call 46; refine (l06Table_any _ _ _ bs _ hr hn).mono ?_; rintro e w' ⟨rfl, rfl⟩)
  go_ret
  exact ⟨rfl, Below.refl _ _⟩
end Go.Proofs.Ytefoebaoejoamaa
