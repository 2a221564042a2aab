/-
  CONTRACTS OF THE SMALL FUNCTIONS ON WHOLE NUMBERS (ranges, least, greatest, rounding) of the program and of the reference.
-/
import Derived.Test.YtpealngmghcmdaaMem
import Derived.BigQuiet
import Derived.Deep.QuietTactic
import Derived.IntWalk
namespace Go.Proofs.Ytpealngmghcmdaa
open Go.ChangeShapes Go.WideShapes Go.ChangeAt Go.RowKit
set_option linter.unusedVariables false

/-- a number is in a range -/
def inB (n lo hi : Int) : Bool := decide (lo ≤ n ∧ n ≤ hi)
theorem inB_iff {n lo hi : Int} : inB n lo hi = true ↔ lo ≤ n ∧ n ≤ hi := by unfold inB; simp
theorem inB_no {n lo hi : Int} : inB n lo hi = false ↔ ¬ (lo ≤ n ∧ n ≤ hi) := by unfold inB; simp

theorem within_any (n lo hi : Int) (w : World) :
    Calls Try.prog 45 #[.int .i64 n, .int .i64 lo, .int .i64 hi] w fun e w' => e = .returned (.bool (inB n lo hi)) ∧ w = w' := by
  go_enter Try.func45, Try.ntmps45
  go_wp2
  all_goals go_ret
  all_goals refine ⟨?_, rfl⟩
  all_goals refine ret_bool ?_
  all_goals simp [inB]
  all_goals omega
theorem l00In_any (n lo hi : Int) (w : World) :
    Calls Try.prog 43 #[.int .i64 n, .int .i64 lo, .int .i64 hi] w fun e w' => e = .returned (.bool (inB n lo hi)) ∧ w = w' := by
  go_enter Try.func43, Try.ntmps43
  go_wp2
  all_goals go_ret
  all_goals refine ⟨?_, rfl⟩
  all_goals refine ret_bool ?_
  all_goals simp [inB]
  all_goals omega
theorem l00Max_any (a b : Int) (w : World) :
    Calls Try.prog 44 #[.int .i64 a, .int .i64 b] w fun e w' => e = .returned (.int .i64 (max a b)) ∧ w = w' := by
  go_enter Try.func44, Try.ntmps44
  go_wp2
  all_goals go_ret
  all_goals refine ⟨?_, rfl⟩
  all_goals refine ret_int ?_
  all_goals omega
theorem l00Min_any (a b : Int) (w : World) :
    Calls Try.prog 62 #[.int .i64 a, .int .i64 b] w fun e w' => e = .returned (.int .i64 (min a b)) ∧ w = w' := by
  go_enter Try.func62, Try.ntmps62
  go_wp2
  all_goals go_ret
  all_goals refine ⟨?_, rfl⟩
  all_goals refine ret_int ?_
  all_goals omega
theorem isAmount_any (n : Int) (w : World) :
    Calls Try.prog 48 #[.int .i64 n] w fun e w' => e = .returned (.bool (inB n (0) (1000000000000))) ∧ w = w' := by
  go_enter Try.func48, Try.ntmps48
  go_wp2_with (go_at_call 45; refine (within_any _ _ _ _).mono ?_; rintro e w' ⟨rfl, rfl⟩)
  go_ret
  exact ⟨rfl, rfl⟩
theorem isRate_any (n : Int) (w : World) :
    Calls Try.prog 49 #[.int .i64 n] w fun e w' => e = .returned (.bool (inB n (0) (10000))) ∧ w = w' := by
  go_enter Try.func49, Try.ntmps49
  go_wp2_with (go_at_call 45; refine (within_any _ _ _ _).mono ?_; rintro e w' ⟨rfl, rfl⟩)
  go_ret
  exact ⟨rfl, rfl⟩
theorem l02Cents_any (n : Int) (w : World) :
    Calls Try.prog 46 #[.int .i64 n] w fun e w' => e = .returned (.bool (inB n (0) (1000000000000))) ∧ w = w' := by
  go_enter Try.func46, Try.ntmps46
  go_wp2_with (go_at_call 43; refine (l00In_any _ _ _ _).mono ?_; rintro e w' ⟨rfl, rfl⟩)
  go_ret
  exact ⟨rfl, rfl⟩
theorem l02Rate_any (n : Int) (w : World) :
    Calls Try.prog 47 #[.int .i64 n] w fun e w' => e = .returned (.bool (inB n (0) (10000))) ∧ w = w' := by
  go_enter Try.func47, Try.ntmps47
  go_wp2_with (go_at_call 43; refine (l00In_any _ _ _ _).mono ?_; rintro e w' ⟨rfl, rfl⟩)
  go_ret
  exact ⟨rfl, rfl⟩
theorem amount_yes (n : Int) (w : World) (h : inB n 0 1000000000000 = true) :
    Calls Try.prog 54 #[.int .i64 n] w fun e w' => e = .returned (.tuple #[.int .i64 n, .bool true]) ∧ w = w' := by
  go_enter Try.func54, Try.ntmps54
  go_wp2_with (go_at_call 48; refine (isAmount_any _ _).mono ?_; rintro e w' ⟨rfl, rfl⟩)
  go_ret2
  exact ⟨rfl, rfl⟩
theorem amount_no (n : Int) (w : World) (h : inB n 0 1000000000000 = false) :
    Calls Try.prog 54 #[.int .i64 n] w fun e w' => e = .returned (.tuple #[.int .i64 0, .bool false]) ∧ w = w' := by
  go_enter Try.func54, Try.ntmps54
  go_wp2_with (go_at_call 48; refine (isAmount_any _ _).mono ?_; rintro e w' ⟨rfl, rfl⟩)
  go_ret2
  exact ⟨rfl, rfl⟩

theorem mul_bd {a b : Int} (A B : Int) (h0 : 0 ≤ a) (h1 : a ≤ A) (h2 : 0 ≤ b) (h3 : b ≤ B) : 0 ≤ a * b ∧ a * b ≤ A * B :=
  ⟨Int.mul_nonneg h0 h2, Int.mul_le_mul h1 h3 h2 (by omega)⟩
theorem mul_bds {a b : Int} (A B : Int) (h0 : -A ≤ a) (h1 : a ≤ A) (h2 : 0 ≤ b) (h3 : b ≤ B) : -(A * B) ≤ a * b ∧ a * b ≤ A * B := by
  have hA : 0 ≤ A := by omega
  rcases Int.le_total 0 a with h | h
  · have := mul_bd A B h h1 h2 h3; have := Int.mul_nonneg hA (by omega : (0 : Int) ≤ B); omega
  · have h5 := mul_bd A B (by omega : 0 ≤ -a) (by omega) h2 h3
    rw [Int.neg_mul] at h5
    have := Int.mul_nonneg hA (by omega : (0 : Int) ≤ B)
    omega
/-- a quotient, rounded: 1 half up, 2 half even, 3 up, else down -/
def rndUp (a b m : Int) : Bool := if m = 1 then decide (b - a % b ≤ a % b) else if m = 2 then decide (b - a % b < a % b) || (decide (a % b = b - a % b) && decide (a / b % 2 = 1)) else if m = 3 then decide (0 < a % b) else false
def rnd (a b m : Int) : Int := a / b + if rndUp a b m then 1 else 0
theorem rnd_yes {a b m : Int} (h : rndUp a b m = true) : rnd a b m = a / b + 1 := by unfold rnd; rw [h]; rfl
theorem rnd_no {a b m : Int} (h : rndUp a b m = false) : rnd a b m = a / b := by unfold rnd; rw [h]; simp
theorem rnd_le {a b m : Int} (ha : 0 ≤ a) (hb : 1 ≤ b) : 0 ≤ rnd a b m ∧ rnd a b m ≤ a + 1 := by
  have h1 : 0 ≤ a / b := Int.ediv_nonneg ha (by omega)
  have h2 : a / b ≤ a := Int.ediv_le_self b ha
  unfold rnd
  split <;> omega
theorem rnd_zero {a b : Int} : rnd a b 0 = a / b := rnd_no (by simp [rndUp])
set_option maxHeartbeats 1000000 in
theorem rounded_any (a b m : Int) (w : World) (ha : 0 ≤ a) (ha' : a ≤ 4000000000000000000) (hb : 1 ≤ b) (hb' : b ≤ 1000000000000000) :
    Calls Try.prog 66 #[.int .i64 a, .int .i64 b, .int .i64 m] w fun e w' => e = .returned (.int .i64 (rnd a b m)) ∧ ∃ q, w' = w.drewN q := by
  have q0 : 0 ≤ a / b := Int.ediv_nonneg ha (by omega)
  have q1 : a / b ≤ a := Int.ediv_le_self b ha
  have r0 : 0 ≤ a % b := Int.emod_nonneg a (by omega)
  have r1 : a % b < b := Int.emod_lt_of_pos a (by omega)
  have x1 : a.tdiv b = a / b := Int.tdiv_eq_ediv_of_nonneg ha
  have x2 : a.tmod b = a % b := Int.tmod_eq_emod_of_nonneg ha
  have x3 : IntKind.i64.wrap (a / b) = a / b := IntWalk.i64_in _ (by omega)
  have x4 : (b == 0) = false := by simp; omega
  by_cases m1 : m = 1
  · subst m1
    by_cases t : b - a % b ≤ a % b
    ·
      have hfin := Lib.hid (rnd_yes (a := a) (b := b) (m := 1) (by simp [rndUp]; omega))
      go_enter Try.func66, Try.ntmps66
      go_wp2
      go_quiet (fail)
      go_wp2
      go_ret
      exact ⟨by rw [hfin.out]; rfl, _, rfl⟩
    ·
      have hfin := Lib.hid (rnd_no (a := a) (b := b) (m := 1) (by simp [rndUp]; omega))
      go_enter Try.func66, Try.ntmps66
      go_wp2
      go_quiet (fail)
      go_wp2
      go_ret
      exact ⟨by rw [hfin.out]; rfl, _, rfl⟩
  by_cases m2 : m = 2
  · subst m2
    by_cases t : b - a % b < a % b
    ·
      have hfin := Lib.hid (rnd_yes (a := a) (b := b) (m := 2) (by simp [rndUp]; omega))
      go_enter Try.func66, Try.ntmps66
      go_wp2
      go_quiet (fail)
      go_wp2
      go_ret
      exact ⟨by rw [hfin.out]; rfl, _, rfl⟩
    by_cases t2 : a % b = b - a % b
    · have t3 := beq_iff_eq.2 t2
      have T2 := Lib.hid t2
      clear t2
      by_cases u : a / b % 2 = 1
      · have u2 := beq_iff_eq.2 u
        have U := Lib.hid u
        clear u
        have hfin := Lib.hid (rnd_yes (a := a) (b := b) (m := 2) (by have := T2.out; have := U.out; simp [rndUp]; omega))
        go_enter Try.func66, Try.ntmps66
        go_wp2
        go_quiet (fail)
        go_wp2
        go_ret
        exact ⟨by rw [hfin.out]; rfl, _, rfl⟩
      · have u2 := beq_eq_false_iff_ne.2 u
        have U := Lib.hid u
        clear u
        have hfin := Lib.hid (rnd_no (a := a) (b := b) (m := 2) (by have := T2.out; have := U.out; simp [rndUp]; omega))
        go_enter Try.func66, Try.ntmps66
        go_wp2
        go_quiet (fail)
        go_wp2
        go_ret
        exact ⟨by rw [hfin.out]; rfl, _, rfl⟩
    · have t3 := beq_eq_false_iff_ne.2 t2
      have hfin := Lib.hid (rnd_no (a := a) (b := b) (m := 2) (by simp [rndUp]; omega))
      clear t2
      go_enter Try.func66, Try.ntmps66
      go_wp2
      go_quiet (fail)
      go_wp2
      go_ret
      exact ⟨by rw [hfin.out]; rfl, _, rfl⟩
  by_cases m3 : m = 3
  · subst m3
    by_cases t : 0 < a % b
    ·
      have hfin := Lib.hid (rnd_yes (a := a) (b := b) (m := 3) (by simp [rndUp]; omega))
      go_enter Try.func66, Try.ntmps66
      go_wp2
      go_quiet (fail)
      go_wp2
      go_ret
      exact ⟨by rw [hfin.out]; rfl, _, rfl⟩
    ·
      have hfin := Lib.hid (rnd_no (a := a) (b := b) (m := 3) (by simp [rndUp]; omega))
      go_enter Try.func66, Try.ntmps66
      go_wp2
      go_quiet (fail)
      go_wp2
      go_ret
      exact ⟨by rw [hfin.out]; rfl, _, rfl⟩
  · have k1 := beq_eq_false_iff_ne.2 m1
    have k2 := beq_eq_false_iff_ne.2 m2
    have k3 := beq_eq_false_iff_ne.2 m3
    have hfin := Lib.hid (rnd_no (a := a) (b := b) (m := m) (by simp [rndUp, m1, m2, m3]))
    clear m1 m2 m3
    go_enter Try.func66, Try.ntmps66
    go_wp2
    go_quiet (fail)
    go_wp2
    go_ret
    exact ⟨by rw [hfin.out]; rfl, _, rfl⟩
set_option maxHeartbeats 1000000 in
theorem l02Round_any (a b m : Int) (w : World) (ha : 0 ≤ a) (ha' : a ≤ 4000000000000000000) (hb : 1 ≤ b) (hb' : b ≤ 1000000000000000) :
    Calls Try.prog 63 #[.int .i64 a, .int .i64 b, .int .i64 m] w fun e w' => e = .returned (.int .i64 (rnd a b m)) ∧ w = w' := by
  have q0 : 0 ≤ a / b := Int.ediv_nonneg ha (by omega)
  have q1 : a / b ≤ a := Int.ediv_le_self b ha
  have r0 : 0 ≤ a % b := Int.emod_nonneg a (by omega)
  have r1 : a % b < b := Int.emod_lt_of_pos a (by omega)
  by_cases m1 : m = 1
  · subst m1
    by_cases t : b - a % b ≤ a % b
    ·
      have hfin := Lib.hid (rnd_yes (a := a) (b := b) (m := 1) (by simp [rndUp]; omega))
      go_enter Try.func63, Try.ntmps63
      go_wp2
      go_ret
      exact ⟨by rw [hfin.out]; rfl, rfl⟩
    ·
      have hfin := Lib.hid (rnd_no (a := a) (b := b) (m := 1) (by simp [rndUp]; omega))
      go_enter Try.func63, Try.ntmps63
      go_wp2
      go_ret
      exact ⟨by rw [hfin.out]; rfl, rfl⟩
  by_cases m2 : m = 2
  · subst m2
    by_cases t : b - a % b < a % b
    ·
      have hfin := Lib.hid (rnd_yes (a := a) (b := b) (m := 2) (by simp [rndUp]; omega))
      go_enter Try.func63, Try.ntmps63
      go_wp2
      go_ret
      exact ⟨by rw [hfin.out]; rfl, rfl⟩
    by_cases t2 : a % b = b - a % b
    · have t3 := beq_iff_eq.2 t2
      have T2 := Lib.hid t2
      clear t2
      by_cases u : a / b % 2 = 1
      · have u2 := beq_iff_eq.2 u
        have U := Lib.hid u
        clear u
        have hfin := Lib.hid (rnd_yes (a := a) (b := b) (m := 2) (by have := T2.out; have := U.out; simp [rndUp]; omega))
        go_enter Try.func63, Try.ntmps63
        go_wp2
        go_ret
        exact ⟨by rw [hfin.out]; rfl, rfl⟩
      · have u2 := beq_eq_false_iff_ne.2 u
        have U := Lib.hid u
        clear u
        have hfin := Lib.hid (rnd_no (a := a) (b := b) (m := 2) (by have := T2.out; have := U.out; simp [rndUp]; omega))
        go_enter Try.func63, Try.ntmps63
        go_wp2
        go_ret
        exact ⟨by rw [hfin.out]; rfl, rfl⟩
    · have t3 := beq_eq_false_iff_ne.2 t2
      have hfin := Lib.hid (rnd_no (a := a) (b := b) (m := 2) (by simp [rndUp]; omega))
      clear t2
      go_enter Try.func63, Try.ntmps63
      go_wp2
      go_ret
      exact ⟨by rw [hfin.out]; rfl, rfl⟩
  by_cases m3 : m = 3
  · subst m3
    by_cases t : 0 < a % b
    ·
      have hfin := Lib.hid (rnd_yes (a := a) (b := b) (m := 3) (by simp [rndUp]; omega))
      go_enter Try.func63, Try.ntmps63
      go_wp2
      go_ret
      exact ⟨by rw [hfin.out]; rfl, rfl⟩
    ·
      have hfin := Lib.hid (rnd_no (a := a) (b := b) (m := 3) (by simp [rndUp]; omega))
      go_enter Try.func63, Try.ntmps63
      go_wp2
      go_ret
      exact ⟨by rw [hfin.out]; rfl, rfl⟩
  · have k1 := beq_eq_false_iff_ne.2 m1
    have k2 := beq_eq_false_iff_ne.2 m2
    have k3 := beq_eq_false_iff_ne.2 m3
    have hfin := Lib.hid (rnd_no (a := a) (b := b) (m := m) (by simp [rndUp, m1, m2, m3]))
    clear m1 m2 m3
    go_enter Try.func63, Try.ntmps63
    go_wp2
    go_ret
    exact ⟨by rw [hfin.out]; rfl, rfl⟩
theorem dueBy_any (c r : Int) (w : World) (h1 : 0 ≤ c) (h2 : c ≤ 100000000000000) (h3 : 0 ≤ r) (h4 : r ≤ 10000) (p0 : 0 ≤ c * r) (p1 : c * r ≤ 4000000000000000000) :
    Calls Try.prog 50 #[.int .i64 c, .int .i64 r, .int .i64 0] w fun e w' => e = .returned (.int .i64 (c * r / 10000)) ∧ ∃ q, w' = w.drewN q := by
  have hr := Lib.hid (rnd_zero (a := c * r) (b := 10000))
  go_enter Try.func50, Try.ntmps50
  go_wp2_with fail
  refine (rounded_any _ _ _ _ (by omega) (by omega) (by omega) (by omega)).mono ?_
  rintro e w' ⟨rfl, q, rfl⟩
  rw [hr.out]
  go_wp2_with fail
  go_ret
  exact ⟨rfl, q, rfl⟩
end Go.Proofs.Ytpealngmghcmdaa
