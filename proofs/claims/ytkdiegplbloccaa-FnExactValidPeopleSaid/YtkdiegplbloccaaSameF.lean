/-
  SAME NUMBERS: bits of 32; lists of the same numbers; people.
-/
import Derived.Test.YtkdiegplbloccaaAreF
import Derived.Deep.QuietTactic
import Derived.BigQuiet
namespace Go.Proofs.Ytkdiegplbloccaa
open Fl
open Go.ChangeShapes Go.WideShapes Go.ChangeAt Go.RowKit
set_option linter.unusedVariables false
set_option linter.unusedSimpArgs false

def bitsB (b : Nat) : Int := if nan32 b then 2143289344 else (b : Int)
theorem run_bits32 (r : Nat) (w : World) : (callFunc 144 #[.float .f32 r]).run Try.prog w = .ok (.value (.int .u32 r)) w := by
  rw [run_callFunc_extern Try.func144 (by kernel_rfl) (by kernel_rfl) (by kernel_rfl) (e := Extern.MathFloatBits.float32bits) (by kernel_rfl)]
  rfl
theorem BitsOf_any (b : Nat) (w : World) (h : b < 4294967296) : Calls Try.prog 126 #[.float .f32 b] w fun e w' => e = .returned (.int .i64 (bitsB b)) ∧ w = w' := by
  have h1 := run_bits32 b
  have hb : (b : Int) ≤ 4294967295 := by omega
  have hb0 : (0 : Int) ≤ b := by omega
  clear h
  cases hn : nan32 b
  · have hs : (FloatKind.f32.format.order b b != some .eq) = false := by
      have := order_self hn
      show (Ieee.single.order b b != some .eq) = false
      rw [this]; rfl
    have hfin := Lib.hid (show bitsB b = b by simp [bitsB, hn])
    clear hn
    go_enter Try.func126, Try.ntmps126
    go_wp2_with fail
    go_ret
    exact ⟨by rw [hfin.out]; first | rfl | go_num, rfl⟩
  · have hs : (FloatKind.f32.format.order b b != some .eq) = true := by
      have := order_nan_l (b := b) hn
      show (Ieee.single.order b b != some .eq) = true
      rw [this]; rfl
    have hfin := Lib.hid (show bitsB b = 2143289344 by simp [bitsB, hn])
    clear hn
    go_enter Try.func126, Try.ntmps126
    go_wp2_with fail
    go_ret
    exact ⟨by rw [hfin.out]; rfl, rfl⟩
theorem l01Bits_any (b : Nat) (w : World) (h : b < 4294967296) : Calls Try.prog 125 #[.float .f32 b] w fun e w' => e = .returned (.int .i64 (bitsB b)) ∧ w = w' := by
  have h1 := run_bits32 b
  have hb : (b : Int) ≤ 4294967295 := by omega
  have hb0 : (0 : Int) ≤ b := by omega
  clear h
  cases hn : nan32 b
  · have hs : (FloatKind.f32.format.order b b != some .eq) = false := by
      have := order_self hn
      show (Ieee.single.order b b != some .eq) = false
      rw [this]; rfl
    have hfin := Lib.hid (show bitsB b = b by simp [bitsB, hn])
    clear hn
    go_enter Try.func125, Try.ntmps125
    go_wp2_with fail
    go_ret
    exact ⟨by rw [hfin.out]; first | rfl | go_num, rfl⟩
  · have hs : (FloatKind.f32.format.order b b != some .eq) = true := by
      have := order_nan_l (b := b) hn
      show (Ieee.single.order b b != some .eq) = true
      rw [this]; rfl
    have hfin := Lib.hid (show bitsB b = 2143289344 by simp [bitsB, hn])
    clear hn
    go_enter Try.func125, Try.ntmps125
    go_wp2_with fail
    go_ret
    exact ⟨by rw [hfin.out]; rfl, rfl⟩
def sameB (a b : Nat) : Bool := bitsB a == bitsB b
theorem sameB_is {a b : Nat} {x : Bool} (h : sameB a b = x) : (bitsB a == bitsB b) = x := h
theorem SameNumber_is {x : Bool} (a b : Nat) (w : World) (ha : a < 4294967296) (hb : b < 4294967296) (h : sameB a b = x) : Calls Try.prog 102 #[.float .f32 a, .float .f32 b] w fun e w' => e = .returned (.bool x) ∧ w = w' := by
  have hs := Lib.hid (sameB_is h)
  clear h
  go_enter Try.func102, Try.ntmps102
  go_wp2_with (first | (go_at_call_of 126 a; refine (BitsOf_any a _ ha).mono ?_; rintro e w' ⟨rfl, rfl⟩) | (go_at_call_of 126 b; refine (BitsOf_any b _ hb).mono ?_; rintro e w' ⟨rfl, rfl⟩))
  go_ret
  exact ⟨ret_bool (by rw [← hs.out]), rfl⟩
theorem l01Same_is {x : Bool} (a b : Nat) (w : World) (ha : a < 4294967296) (hb : b < 4294967296) (h : sameB a b = x) : Calls Try.prog 100 #[.float .f32 a, .float .f32 b] w fun e w' => e = .returned (.bool x) ∧ w = w' := by
  have hs := Lib.hid (sameB_is h)
  clear h
  go_enter Try.func100, Try.ntmps100
  go_wp2_with (first | (go_at_call_of 125 a; refine (l01Bits_any a _ ha).mono ?_; rintro e w' ⟨rfl, rfl⟩) | (go_at_call_of 125 b; refine (l01Bits_any b _ hb).mono ?_; rintro e w' ⟨rfl, rfl⟩))
  go_ret
  exact ⟨ret_bool (by rw [← hs.out]), rfl⟩
def sameFs (xs ys : List Nat) : Bool := decide (xs.map bitsB = ys.map bitsB)
theorem same_len {xs ys : List Nat} (h : xs.length ≠ ys.length) : sameFs xs ys = false := by
  unfold sameFs; rw [decide_eq_false_iff_not]; intro e; have := congrArg List.length e; simp at this; omega
theorem same_miss {xs ys : List Nat} {k : Nat} (h1 : k < xs.length) (h2 : k < ys.length) (h : sameB (xs[k]?.getD 0) (ys[k]?.getD 0) = false) : sameFs xs ys = false := by
  unfold sameFs; rw [decide_eq_false_iff_not]; intro e
  have := congrArg (fun l => l[k]?) e
  simp only [List.getElem?_map] at this
  rw [List.getElem?_eq_getElem h1, List.getElem?_eq_getElem h2] at this h
  simp at this
  simp [sameB, this] at h
theorem same_step {xs ys : List Nat} {k : Nat} (h1 : k < xs.length) (h2 : k < ys.length) (h0 : (xs.take k).map bitsB = (ys.take k).map bitsB) (h : sameB (xs[k]?.getD 0) (ys[k]?.getD 0) = true) : (xs.take (k + 1)).map bitsB = (ys.take (k + 1)).map bitsB := by
  rw [take_snoc xs k 0 h1, take_snoc ys k 0 h2, List.map_append, List.map_append, h0]
  have : bitsB (xs[k]?.getD 0) = bitsB (ys[k]?.getD 0) := by simpa [sameB] using h
  simp only [List.map_cons, List.map_nil, this]
theorem same_done {xs ys : List Nat} {n : Nat} (h1 : xs.length = n) (h2 : ys.length = n) (h0 : (xs.take n).map bitsB = (ys.take n).map bitsB) : sameFs xs ys = true := by
  rw [List.take_of_length_le (by omega), List.take_of_length_le (by omega)] at h0
  unfold sameFs; exact decide_eq_true h0
set_option maxHeartbeats 800000 in
theorem l01SameAll_any (A : Option Addr) (n c : Nat) (xs : List Nat) (B : Option Addr) (m d : Nat) (ys : List Nat) (w : World) (hr : Rd w w.heap.size 1 A n (flts xs)) (hs : Rd w w.heap.size 1 B m (flts ys)) (hn : n ≤ 1048576) (hm : m ≤ 1048576) (ha : F32s xs) (hb : F32s ys) :
    Calls Try.prog 60 #[.slice A n c, .slice B m d] w fun e w' => e = .returned (.bool (sameFs xs ys)) ∧ Below w.heap.size w w' := by
  have HL := Lib.hid hr.flen
  have HM := Lib.hid hs.flen
  by_cases hnm : n = m
  case neg =>
    have hfin := Lib.hid (same_len (xs := xs) (ys := ys) (by rw [HL.out, HM.out]; exact hnm))
    have hne : ((n : Int) != (m : Int)) = true := by simp; omega
    go_enter Try.func60, Try.ntmps60
    go_wp2_with fail
    go_ret
    exact ⟨by rw [hfin.out]; rfl, Below.refl _ _⟩
  subst hnm
  have HA := Lib.hid ha
  have HB := Lib.hid hb
  clear ha hb
  go_enter Try.func60, Try.ntmps60
  go_wp2_with fail
  go_loopw [5] (fun i wr => ∃ k : Nat, k ≤ n ∧ i = .int .i64 k ∧ (xs.take k).map bitsB = (ys.take k).map bitsB ∧ Below w.heap.size w wr) (fun i _ => n - (intOf i).toNat)
  case atStart => exact ⟨0, Nat.zero_le _, rfl, rfl, Below.refl _ _⟩
  case round =>
    obtain ⟨k, hk, rfl, he, hbw⟩ := hrel
    have HE := Lib.hid he
    clear he
    by_cases hlt : k < n
    · obtain ⟨ad, rfl, hc⟩ := (hr.below hbw).flt hlt
      obtain ⟨ae, rfl, hd⟩ := (hs.below hbw).flt hlt
      clear hr hs
      have ba := HA.out _ (getD_memN (bs := xs) (k := k) (by have := HL.out; omega))
      have bb := HB.out _ (getD_memN (bs := ys) (k := k) (by have := HM.out; omega))
      have i1 : (0 : Int) ≤ k := by omega
      have i2 : (k : Int) < n := by omega
      obtain ⟨x, hx⟩ : ∃ x, x = xs[k]?.getD 0 := ⟨_, rfl⟩
      obtain ⟨y, hy⟩ : ∃ y, y = ys[k]?.getD 0 := ⟨_, rfl⟩
      rw [← hx] at hc ba
      rw [← hy] at hd bb
      have HX := Lib.hid hx
      have HY := Lib.hid hy
      clear hx hy
      cases h0 : sameB x y
      · have hfin := Lib.hid (same_miss (xs := xs) (ys := ys) (k := k) (by have := HL.out; omega) (by have := HM.out; omega) (by rw [← HX.out, ← HY.out]; exact h0))
        go_wp2_with fail
        go_quiet ((go_at_call 100; exact quiet_left (l01Same_is x y _ ba bb h0)))
        go_wp2_with fail
        go_ret
        exact ⟨by rw [hfin.out]; rfl, below_drewN hbw _⟩
      · have hfin := Lib.hid (same_step (xs := xs) (ys := ys) (k := k) (by have := HL.out; omega) (by have := HM.out; omega) HE.out (by rw [← HX.out, ← HY.out]; exact h0))
        go_wp2_with fail
        go_quiet ((go_at_call 100; exact quiet_left (l01Same_is x y _ ba bb h0)))
        go_wp2_with fail
        go_roundw
        case rel => exact ⟨k + 1, by omega, by go_num, hfin.out, below_drewN hbw _⟩
        case measure => simp [intOf]; omega
    · obtain rfl : n = k := by omega
      have hfin := Lib.hid (same_done HL.out HM.out HE.out)
      clear hr hs
      go_wp2
      go_ret
      exact ⟨by rw [hfin.out]; rfl, hbw⟩
set_option maxHeartbeats 800000 in
theorem equalF_any (A : Option Addr) (n c : Nat) (xs : List Nat) (B : Option Addr) (m d : Nat) (ys : List Nat) (w : World) (hr : Rd w w.heap.size 1 A n (flts xs)) (hs : Rd w w.heap.size 1 B m (flts ys)) (hn : n ≤ 1048576) (hm : m ≤ 1048576) (ha : F32s xs) (hb : F32s ys) :
    Calls Try.prog 101 #[.slice A n c, .slice B m d, .func (.func 102) #[] #[]] w fun e w' => e = .returned (.bool (sameFs xs ys)) ∧ Below w.heap.size w w' := by
  have HL := Lib.hid hr.flen
  have HM := Lib.hid hs.flen
  by_cases hnm : n = m
  case neg =>
    have hfin := Lib.hid (same_len (xs := xs) (ys := ys) (by rw [HL.out, HM.out]; exact hnm))
    have hne : ((n : Int) != (m : Int)) = true := by simp; omega
    go_enter Try.func101, Try.ntmps101
    go_wp2_with fail
    go_ret
    exact ⟨by rw [hfin.out]; rfl, Below.refl _ _⟩
  subst hnm
  have HA := Lib.hid ha
  have HB := Lib.hid hb
  clear ha hb
  go_enter Try.func101, Try.ntmps101
  go_wp2_with fail
  go_loopw [7, 8, 9, 17] (fun _ _ _ i wr => ∃ k : Nat, k ≤ n ∧ i = .int .i64 k ∧ (xs.take k).map bitsB = (ys.take k).map bitsB ∧ Below w.heap.size w wr) (fun _ _ _ i _ => n - (intOf i).toNat)
  case atStart => exact ⟨0, Nat.zero_le _, rfl, rfl, Below.refl _ _⟩
  case round =>
    obtain ⟨k, hk, rfl, he, hbw⟩ := hrel
    have HE := Lib.hid he
    clear he
    by_cases hlt : k < n
    · obtain ⟨ad, rfl, hc⟩ := (hr.below hbw).flt hlt
      obtain ⟨ae, rfl, hd⟩ := (hs.below hbw).flt hlt
      clear hr hs
      have ba := HA.out _ (getD_memN (bs := xs) (k := k) (by have := HL.out; omega))
      have bb := HB.out _ (getD_memN (bs := ys) (k := k) (by have := HM.out; omega))
      have i1 : (0 : Int) ≤ k := by omega
      have i2 : (k : Int) < n := by omega
      obtain ⟨x, hx⟩ : ∃ x, x = xs[k]?.getD 0 := ⟨_, rfl⟩
      obtain ⟨y, hy⟩ : ∃ y, y = ys[k]?.getD 0 := ⟨_, rfl⟩
      rw [← hx] at hc ba
      rw [← hy] at hd bb
      have HX := Lib.hid hx
      have HY := Lib.hid hy
      clear hx hy
      cases h0 : sameB x y
      · have hfin := Lib.hid (same_miss (xs := xs) (ys := ys) (k := k) (by have := HL.out; omega) (by have := HM.out; omega) (by rw [← HX.out, ← HY.out]; exact h0))
        go_wp2_with (go_at_call 102; refine (SameNumber_is x y _ ba bb h0).mono ?_; rintro e w' ⟨rfl, rfl⟩)
        go_ret
        exact ⟨by rw [hfin.out]; rfl, hbw⟩
      · have hfin := Lib.hid (same_step (xs := xs) (ys := ys) (k := k) (by have := HL.out; omega) (by have := HM.out; omega) HE.out (by rw [← HX.out, ← HY.out]; exact h0))
        go_wp2_with (go_at_call 102; refine (SameNumber_is x y _ ba bb h0).mono ?_; rintro e w' ⟨rfl, rfl⟩)
        go_roundw
        case rel => exact ⟨k + 1, by omega, by go_num, hfin.out, hbw⟩
        case measure => simp [intOf]; omega
    · obtain rfl : n = k := by omega
      have hfin := Lib.hid (same_done HL.out HM.out HE.out)
      clear hr hs
      go_wp2
      go_ret
      exact ⟨by rw [hfin.out]; rfl, hbw⟩
theorem sameNumbers_is {x : Bool} (A : Option Addr) (n c : Nat) (xs : List Nat) (B : Option Addr) (m d : Nat) (ys : List Nat) (w : World) (hr : Rd w w.heap.size 1 A n (flts xs)) (hs : Rd w w.heap.size 1 B m (flts ys)) (hn : n ≤ 1048576) (hm : m ≤ 1048576) (ha : F32s xs) (hb : F32s ys) (h : sameFs xs ys = x) :
    Calls Try.prog 61 #[.slice A n c, .slice B m d] w fun e w' => e = .returned (.bool x) ∧ Below w.heap.size w w' := by
  subst h
  go_enter Try.func61, Try.ntmps61
  go_wp2_with (go_at_call 101; refine (equalF_any _ _ _ xs _ _ _ ys _ hr hs hn hm ha hb).mono ?_; rintro e w' ⟨rfl, hb2⟩)
  go_ret
  exact ⟨rfl, hb2⟩
end Go.Proofs.Ytkdiegplbloccaa
