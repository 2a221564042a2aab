/-
  AreIncomes, PoorOf: what the program's and the reference's function return.
-/
import Derived.Test.YtjngepglbmjagaaList
namespace Go.Proofs.Ytjngepglbmjagaa
open Go.ChangeShapes Go.WideShapes Go.ChangeAt Go.RowKit
set_option linter.unusedVariables false

def AreIncomes_r0 (zs : List Int) : Bool := cntIn zs 1 64 0 1000000000
theorem impl_AreIncomes (A : Option Addr) (n c : Nat) (zs : List Int) (w : World) (hr : Rd w w.heap.size 1 A n (ints zs)) (hn : n ≤ 1048576) (hz : I64s zs) :
    Calls Try.prog 16 #[.slice A n c] w fun E w' => E = .returned (.bool (AreIncomes_r0 zs)) ∧ Below w.heap.size w w' := AreIncomes_any _ _ _ zs _ hr (by omega)
theorem spec_AreIncomes (A : Option Addr) (n c : Nat) (zs : List Int) (w : World) (hr : Rd w w.heap.size 1 A n (ints zs)) (hn : n ≤ 1048576) (hz : I64s zs) :
    Calls Try.prog 14 #[.slice A n c] w fun E w' => E = .returned (.bool (AreIncomes_r0 zs)) ∧ Below w.heap.size w w' := by
  go_enter Try.func14, Try.ntmps14
  go_wp2_with (go_at_call 44; refine (l07Incomes_any _ _ _ zs _ hr (by omega)).mono ?_; rintro e w' ⟨rfl, rfl⟩)
  go_ret
  exact ⟨rfl, Below.refl _ _⟩

/-! ### PoorOf -/
def poorOk (zs : List Int) (l : Int) : Bool := cntIn zs 1 64 0 1000000000 && inB l 0 1000000000
def poorTo (zs : List Int) (l : Int) : Nat → Int × Int
  | 0 => (0, 0)
  | k + 1 => if zs[k]?.getD 0 < l then ((poorTo zs l k).1 + 1, (poorTo zs l k).2 + (l - zs[k]?.getD 0)) else poorTo zs l k
def PoorOf_r0 (zs : List Int) (l : Int) : Int := if poorOk zs l then (poorTo zs l zs.length).1 else 0
def PoorOf_r1 (zs : List Int) (l : Int) : Int := if poorOk zs l then (poorTo zs l zs.length).2 else 0
def PoorOf_r2 (zs : List Int) (l : Int) : Bool := poorOk zs l
def PoorIs (zs : List Int) (c : Int) (E : Ending) : Prop := E = .returned (.tuple #[.int .i64 (PoorOf_r0 zs c), .int .i64 (PoorOf_r1 zs c), .bool (PoorOf_r2 zs c)])
theorem poor_no {zs : List Int} {c : Int} (h : poorOk zs c = false) : PoorIs zs c (.returned (.tuple #[.int .i64 0, .int .i64 0, .bool false])) := by
  unfold PoorIs PoorOf_r0 PoorOf_r1 PoorOf_r2; rw [h]; rfl
theorem poor_yes {zs : List Int} {c a b : Int} (h : poorOk zs c = true) (ha : (poorTo zs c zs.length) = (a, b)) : PoorIs zs c (.returned (.tuple #[.int .i64 a, .int .i64 b, .bool true])) := by
  unfold PoorIs PoorOf_r0 PoorOf_r1 PoorOf_r2; rw [h, ha]; rfl
set_option maxHeartbeats 800000 in
theorem impl_PoorOf (A : Option Addr) (n c : Nat) (zs : List Int) (l : Int) (w : World) (hr : Rd w w.heap.size 1 A n (ints zs)) (hn : n ≤ 1048576) (hz : I64s zs) (b1 : -9223372036854775808 ≤ l ∧ l ≤ 9223372036854775807) :
    Calls Try.prog 19 #[.slice A n c, .int .i64 l] w fun E w' => E = .returned (.tuple #[.int .i64 (PoorOf_r0 zs l), .int .i64 (PoorOf_r1 zs l), .bool (PoorOf_r2 zs l)]) ∧ Below w.heap.size w w' := by
  show Calls Try.prog _ _ w fun E w' => PoorIs zs l E ∧ Below w.heap.size w w'
  have HL := Lib.hid hr.ilen
  cases h1 : cntIn zs 1 64 0 1000000000
  · have hfin := Lib.hid (poor_no (zs := zs) (c := l) (by simp [poorOk, h1]))
    go_enter Try.func19, Try.ntmps19
    go_wp2_with fail
    refine (AreIncomes_any _ _ _ zs _ hr (by omega)).mono ?_; rintro e w1 ⟨rfl, hb⟩
    go_wp2_with (go_at_call 47; refine (within_any _ _ _ _).mono ?_; rintro e w' ⟨rfl, rfl⟩)
    go_ret3
    exact ⟨hfin.out, hb⟩
  cases h2 : inB l 0 1000000000
  · have hfin := Lib.hid (poor_no (zs := zs) (c := l) (by simp [poorOk, h2]))
    go_enter Try.func19, Try.ntmps19
    go_wp2_with fail
    refine (AreIncomes_any _ _ _ zs _ hr (by omega)).mono ?_; rintro e w1 ⟨rfl, hb⟩
    go_wp2_with (go_at_call 47; refine (within_any _ _ _ _).mono ?_; rintro e w' ⟨rfl, rfl⟩)
    go_ret3
    exact ⟨hfin.out, hb⟩
  have hok := Lib.hid (show poorOk zs l = true by simp [poorOk, h1, h2])
  have bl := inB_iff.1 h2
  obtain ⟨_, h4, h5⟩ := cntIn_iff.1 h1
  have H5 := Lib.hid h5
  have hn64 : n ≤ 64 := by have := HL.out; omega
  go_enter Try.func19, Try.ntmps19
  go_wp2_with fail
  refine (AreIncomes_any _ _ _ zs _ hr (by omega)).mono ?_; rintro e w1 ⟨rfl, hb⟩
  have hr1 := hr.on hb
  go_wp2_with (go_at_call 47; refine (within_any _ _ _ _).mono ?_; rintro e w' ⟨rfl, rfl⟩)
  clear hr h1 h2 h4 h5 hz hn b1
  go_loop [7, 8, 10, 21] (fun a b _ i => ∃ (k : Nat) (p : Int × Int), k ≤ n ∧ i = .int .i64 k ∧ p = poorTo zs l k ∧ a = .int .i64 p.1 ∧ b = .int .i64 p.2 ∧ (0 ≤ p.1 ∧ p.1 ≤ k) ∧ (0 ≤ p.2 ∧ p.2 ≤ 1000000000 * k)) (fun _ _ _ i => n - (intOf i).toNat)
  case atStart => exact ⟨0, (0, 0), Nat.zero_le _, rfl, rfl, rfl, rfl, by simp, by simp⟩
  case round =>
    obtain ⟨k, p, hk, rfl, hp, rfl, rfl, bp, bq⟩ := hrel
    have HP := Lib.hid hp
    clear hp
    by_cases hlt : k < n
    · obtain ⟨ad, rfl, hc⟩ := hr1.int hlt
      clear hr1
      have hst := Lib.hid (show poorTo zs l (k + 1) = if zs[k]?.getD 0 < l then ((poorTo zs l k).1 + 1, (poorTo zs l k).2 + (l - zs[k]?.getD 0)) else poorTo zs l k from rfl)
      obtain ⟨x, hx⟩ : ∃ x, x = zs[k]?.getD 0 := ⟨_, rfl⟩
      have bx := allIn_at H5.out _ (getD_mem (zs := zs) (k := k) (by have := HL.out; omega))
      rw [← hx] at hc bx
      have HX := Lib.hid hx
      clear hx
      by_cases ht : x < l
      · go_wp2_with fail
        go_round
        case rel => exact ⟨k + 1, (p.1 + 1, p.2 + (l - x)), by omega, by go_num, by rw [hst.out, ← HX.out, if_pos ht, ← HP.out], rfl, rfl, by simp; omega, by simp; omega⟩
        case measure => simp [intOf]; omega
      · go_wp2_with fail
        go_round
        case rel => exact ⟨k + 1, p, by omega, by go_num, by rw [hst.out, ← HX.out, if_neg ht, ← HP.out], rfl, rfl, by omega, by omega⟩
        case measure => simp [intOf]; omega
    · obtain rfl : n = k := by omega
      have hfin := Lib.hid (poor_yes (zs := zs) (c := l) (a := p.1) (b := p.2) hok.out (by rw [HL.out, ← HP.out]))
      go_wp2_with fail
      go_ret3
      exact ⟨hfin.out, hb⟩
set_option maxHeartbeats 800000 in
theorem spec_PoorOf (A : Option Addr) (n c : Nat) (zs : List Int) (l : Int) (w : World) (hr : Rd w w.heap.size 1 A n (ints zs)) (hn : n ≤ 1048576) (hz : I64s zs) (b1 : -9223372036854775808 ≤ l ∧ l ≤ 9223372036854775807) :
    Calls Try.prog 18 #[.slice A n c, .int .i64 l] w fun E w' => E = .returned (.tuple #[.int .i64 (PoorOf_r0 zs l), .int .i64 (PoorOf_r1 zs l), .bool (PoorOf_r2 zs l)]) ∧ Below w.heap.size w w' := by
  show Calls Try.prog _ _ w fun E w' => PoorIs zs l E ∧ Below w.heap.size w w'
  have HL := Lib.hid hr.ilen
  cases h1 : cntIn zs 1 64 0 1000000000
  · have hfin := Lib.hid (poor_no (zs := zs) (c := l) (by simp [poorOk, h1]))
    go_enter Try.func18, Try.ntmps18
    go_wp2_with fail
    refine (l07Incomes_any _ _ _ zs _ hr (by omega)).mono ?_; rintro e w1 ⟨rfl, rfl⟩; have hb := Below.refl w.heap.size w
    go_wp2_with (go_at_call 46; refine (l00In_any _ _ _ _).mono ?_; rintro e w' ⟨rfl, rfl⟩)
    go_ret3
    exact ⟨hfin.out, hb⟩
  cases h2 : inB l 0 1000000000
  · have hfin := Lib.hid (poor_no (zs := zs) (c := l) (by simp [poorOk, h2]))
    go_enter Try.func18, Try.ntmps18
    go_wp2_with fail
    refine (l07Incomes_any _ _ _ zs _ hr (by omega)).mono ?_; rintro e w1 ⟨rfl, rfl⟩; have hb := Below.refl w.heap.size w
    go_wp2_with (go_at_call 46; refine (l00In_any _ _ _ _).mono ?_; rintro e w' ⟨rfl, rfl⟩)
    go_ret3
    exact ⟨hfin.out, hb⟩
  have hok := Lib.hid (show poorOk zs l = true by simp [poorOk, h1, h2])
  have bl := inB_iff.1 h2
  obtain ⟨_, h4, h5⟩ := cntIn_iff.1 h1
  have H5 := Lib.hid h5
  have hn64 : n ≤ 64 := by have := HL.out; omega
  go_enter Try.func18, Try.ntmps18
  go_wp2_with fail
  refine (l07Incomes_any _ _ _ zs _ hr (by omega)).mono ?_; rintro e w1 ⟨rfl, rfl⟩; have hb := Below.refl w.heap.size w
  have hr1 := hr.on hb
  go_wp2_with (go_at_call 46; refine (l00In_any _ _ _ _).mono ?_; rintro e w' ⟨rfl, rfl⟩)
  clear hr h1 h2 h4 h5 hz hn b1
  go_loop [7, 8, 9, 20] (fun a b _ i => ∃ (k : Nat) (p : Int × Int), k ≤ n ∧ i = .int .i64 k ∧ p = poorTo zs l k ∧ a = .int .i64 p.1 ∧ b = .int .i64 p.2 ∧ (0 ≤ p.1 ∧ p.1 ≤ k) ∧ (0 ≤ p.2 ∧ p.2 ≤ 1000000000 * k)) (fun _ _ _ i => n - (intOf i).toNat)
  case atStart => exact ⟨0, (0, 0), Nat.zero_le _, rfl, rfl, rfl, rfl, by simp, by simp⟩
  case round =>
    obtain ⟨k, p, hk, rfl, hp, rfl, rfl, bp, bq⟩ := hrel
    have HP := Lib.hid hp
    clear hp
    by_cases hlt : k < n
    · obtain ⟨ad, rfl, hc⟩ := hr1.int hlt
      clear hr1
      have hst := Lib.hid (show poorTo zs l (k + 1) = if zs[k]?.getD 0 < l then ((poorTo zs l k).1 + 1, (poorTo zs l k).2 + (l - zs[k]?.getD 0)) else poorTo zs l k from rfl)
      obtain ⟨x, hx⟩ : ∃ x, x = zs[k]?.getD 0 := ⟨_, rfl⟩
      have bx := allIn_at H5.out _ (getD_mem (zs := zs) (k := k) (by have := HL.out; omega))
      rw [← hx] at hc bx
      have HX := Lib.hid hx
      clear hx
      by_cases ht : x < l
      · go_wp2_with fail
        go_round
        case rel => exact ⟨k + 1, (p.1 + 1, p.2 + (l - x)), by omega, by go_num, by rw [hst.out, ← HX.out, if_pos ht, ← HP.out], rfl, rfl, by simp; omega, by simp; omega⟩
        case measure => simp [intOf]; omega
      · go_wp2_with fail
        go_round
        case rel => exact ⟨k + 1, p, by omega, by go_num, by rw [hst.out, ← HX.out, if_neg ht, ← HP.out], rfl, rfl, by omega, by omega⟩
        case measure => simp [intOf]; omega
    · obtain rfl : n = k := by omega
      have hfin := Lib.hid (poor_yes (zs := zs) (c := l) (a := p.1) (b := p.2) hok.out (by rw [HL.out, ← HP.out]))
      go_wp2_with fail
      go_ret3
      exact ⟨hfin.out, hb⟩
end Go.Proofs.Ytjngepglbmjagaa
