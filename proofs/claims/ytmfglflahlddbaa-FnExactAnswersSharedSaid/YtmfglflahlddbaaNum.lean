/-
  CONTRACTS OF THE SMALL FUNCTIONS ON WHOLE NUMBERS (ranges, least, greatest, rounding) of the program and of the reference.
-/
import Derived.Test.YtmfglflahlddbaaMem
import Derived.BigQuiet
import Derived.Deep.QuietTactic
import Derived.IntWalk
namespace Go.Proofs.Ytmfglflahlddbaa
open Go.ChangeShapes Go.WideShapes Go.ChangeAt Go.RowKit
set_option linter.unusedVariables false

/-- a number is in a range -/
def inB (n lo hi : Int) : Bool := decide (lo ≤ n ∧ n ≤ hi)
theorem inB_iff {n lo hi : Int} : inB n lo hi = true ↔ lo ≤ n ∧ n ≤ hi := by unfold inB; simp
theorem inB_no {n lo hi : Int} : inB n lo hi = false ↔ ¬ (lo ≤ n ∧ n ≤ hi) := by unfold inB; simp

theorem within_any (n lo hi : Int) (w : World) :
    Calls Try.prog 43 #[.int .i64 n, .int .i64 lo, .int .i64 hi] w fun e w' => e = .returned (.bool (inB n lo hi)) ∧ w = w' := by
  go_enter Try.func43, Try.ntmps43
  go_wp2
  all_goals go_ret
  all_goals refine ⟨?_, rfl⟩
  all_goals refine ret_bool ?_
  all_goals simp [inB]
  all_goals omega
theorem l00In_any (n lo hi : Int) (w : World) :
    Calls Try.prog 21 #[.int .i64 n, .int .i64 lo, .int .i64 hi] w fun e w' => e = .returned (.bool (inB n lo hi)) ∧ w = w' := by
  go_enter Try.func21, Try.ntmps21
  go_wp2
  all_goals go_ret
  all_goals refine ⟨?_, rfl⟩
  all_goals refine ret_bool ?_
  all_goals simp [inB]
  all_goals omega
theorem isWorkers_any (n : Int) (w : World) :
    Calls Try.prog 27 #[.int .i64 n] w fun e w' => e = .returned (.bool (inB n (1) (8))) ∧ w = w' := by
  go_enter Try.func27, Try.ntmps27
  go_wp2_with (go_at_call 43; refine (within_any _ _ _ _).mono ?_; rintro e w' ⟨rfl, rfl⟩)
  go_ret
  exact ⟨rfl, rfl⟩
theorem isDate_any (n : Int) (w : World) :
    Calls Try.prog 26 #[.int .i64 n] w fun e w' => e = .returned (.bool (inB n (0) (100000))) ∧ w = w' := by
  go_enter Try.func26, Try.ntmps26
  go_wp2_with (go_at_call 43; refine (within_any _ _ _ _).mono ?_; rintro e w' ⟨rfl, rfl⟩)
  go_ret
  exact ⟨rfl, rfl⟩
theorem l05Day_any (n : Int) (w : World) :
    Calls Try.prog 20 #[.int .i64 n] w fun e w' => e = .returned (.bool (inB n (0) (100000))) ∧ w = w' := by
  go_enter Try.func20, Try.ntmps20
  go_wp2_with (go_at_call 21; refine (l00In_any _ _ _ _).mono ?_; rintro e w' ⟨rfl, rfl⟩)
  go_ret
  exact ⟨rfl, rfl⟩

theorem mul_bd {a b : Int} (A B : Int) (h0 : 0 ≤ a) (h1 : a ≤ A) (h2 : 0 ≤ b) (h3 : b ≤ B) : 0 ≤ a * b ∧ a * b ≤ A * B :=
  ⟨Int.mul_nonneg h0 h2, Int.mul_le_mul h1 h3 h2 (by omega)⟩
theorem mul_bds {a b : Int} (A B : Int) (h0 : -A ≤ a) (h1 : a ≤ A) (h2 : 0 ≤ b) (h3 : b ≤ B) : -(A * B) ≤ a * b ∧ a * b ≤ A * B := by
  have hA : 0 ≤ A := by omega
  rcases Int.le_total 0 a with h | h
  · have := mul_bd A B h h1 h2 h3; have := Int.mul_nonneg hA (by omega : (0 : Int) ≤ B); omega
  · have h5 := mul_bd A B (by omega : 0 ≤ -a) (by omega) h2 h3
    rw [Int.neg_mul] at h5
    have := Int.mul_nonneg hA (by omega : (0 : Int) ≤ B)
    omega
/-- a quotient, rounded: 1 half up, 2 half even, 3 up, else down -/
def rndUp (a b m : Int) : Bool := if m = 1 then decide (b - a % b ≤ a % b) else if m = 2 then decide (b - a % b < a % b) || (decide (a % b = b - a % b) && decide (a / b % 2 = 1)) else if m = 3 then decide (0 < a % b) else false
def rnd (a b m : Int) : Int := a / b + if rndUp a b m then 1 else 0
theorem rnd_yes {a b m : Int} (h : rndUp a b m = true) : rnd a b m = a / b + 1 := by unfold rnd; rw [h]; rfl
theorem rnd_no {a b m : Int} (h : rndUp a b m = false) : rnd a b m = a / b := by unfold rnd; rw [h]; simp
theorem rnd_le {a b m : Int} (ha : 0 ≤ a) (hb : 1 ≤ b) : 0 ≤ rnd a b m ∧ rnd a b m ≤ a + 1 := by
  have h1 : 0 ≤ a / b := Int.ediv_nonneg ha (by omega)
  have h2 : a / b ≤ a := Int.ediv_le_self b ha
  unfold rnd
  split <;> omega
theorem rnd_zero {a b : Int} : rnd a b 0 = a / b := rnd_no (by simp [rndUp])
end Go.Proofs.Ytmfglflahlddbaa
