/-
  AgeFactor: what the program's and the reference's function return.
-/
import Derived.Test.YtpealngmghcmdaaNum
namespace Go.Proofs.Ytpealngmghcmdaa
open Go.ChangeShapes Go.WideShapes Go.ChangeAt Go.RowKit
set_option linter.unusedVariables false

def ageOk (m e l t : Int) : Bool := inB m (-600) 600 && inB e 0 200 && inB l 0 200 && inB t 0 10000
def AgeFactor_r0 (m e l t : Int) : Int := if ageOk m e l t then (if m < 0 then max (10000 + m * e) t else 10000 + m * l) else 0
def AgeFactor_r1 (m e l t : Int) : Bool := ageOk m e l t
def AgeIs (m e l t : Int) (E : Ending) : Prop := E = .returned (.tuple #[.int .i64 (AgeFactor_r0 m e l t), .bool (AgeFactor_r1 m e l t)])
theorem age_no {m e l t : Int} (h : ageOk m e l t = false) : AgeIs m e l t (.returned (.tuple #[.int .i64 0, .bool false])) := by
  unfold AgeIs AgeFactor_r0 AgeFactor_r1; rw [h]; rfl
theorem age_yes {m e l t v : Int} (h : ageOk m e l t = true) (hv : (if m < 0 then max (10000 + m * e) t else 10000 + m * l) = v) : AgeIs m e l t (.returned (.tuple #[.int .i64 v, .bool true])) := by
  unfold AgeIs AgeFactor_r0 AgeFactor_r1; rw [h, ← hv]; rfl
theorem impl_AgeFactor (m e l t : Int) (w : World) (b0 : -9223372036854775808 ≤ m ∧ m ≤ 9223372036854775807) (b1 : -9223372036854775808 ≤ e ∧ e ≤ 9223372036854775807) (b2 : -9223372036854775808 ≤ l ∧ l ≤ 9223372036854775807) (b3 : -9223372036854775808 ≤ t ∧ t ≤ 9223372036854775807) :
    Calls Try.prog 16 #[.int .i64 m, .int .i64 e, .int .i64 l, .int .i64 t] w fun E w' => E = .returned (.tuple #[.int .i64 (AgeFactor_r0 m e l t), .bool (AgeFactor_r1 m e l t)]) ∧ Below w.heap.size w w' := by
  show Calls Try.prog 16 _ w fun E w' => AgeIs m e l t E ∧ Below w.heap.size w w'
  cases h1 : inB m (-600) 600
  · have hfin := Lib.hid (age_no (m := m) (e := e) (l := l) (t := t) (by simp [ageOk, *]))
    go_enter Try.func16, Try.ntmps16
    go_wp2_with (go_at_call 45; refine (within_any _ _ _ _).mono ?_; rintro e w' ⟨rfl, rfl⟩)
    go_ret2
    exact ⟨hfin.out, Below.refl _ _⟩
  cases h2 : inB e 0 200
  · have hfin := Lib.hid (age_no (m := m) (e := e) (l := l) (t := t) (by simp [ageOk, *]))
    go_enter Try.func16, Try.ntmps16
    go_wp2_with (go_at_call 45; refine (within_any _ _ _ _).mono ?_; rintro e w' ⟨rfl, rfl⟩)
    go_ret2
    exact ⟨hfin.out, Below.refl _ _⟩
  cases h3 : inB l 0 200
  · have hfin := Lib.hid (age_no (m := m) (e := e) (l := l) (t := t) (by simp [ageOk, *]))
    go_enter Try.func16, Try.ntmps16
    go_wp2_with (go_at_call 45; refine (within_any _ _ _ _).mono ?_; rintro e w' ⟨rfl, rfl⟩)
    go_ret2
    exact ⟨hfin.out, Below.refl _ _⟩
  cases h4 : inB t 0 10000
  · have hfin := Lib.hid (age_no (m := m) (e := e) (l := l) (t := t) (by simp [ageOk, *]))
    go_enter Try.func16, Try.ntmps16
    go_wp2_with (go_at_call 45; refine (within_any _ _ _ _).mono ?_; rintro e w' ⟨rfl, rfl⟩)
    go_ret2
    exact ⟨hfin.out, Below.refl _ _⟩
  have c1 := inB_iff.1 h1
  have c2 := inB_iff.1 h2
  have c3 := inB_iff.1 h3
  have c4 := inB_iff.1 h4
  have p1 := mul_bds 600 200 (by omega : -600 ≤ m) (by omega) (by omega : 0 ≤ e) (by omega)
  have p2 := mul_bds 600 200 (by omega : -600 ≤ m) (by omega) (by omega : 0 ≤ l) (by omega)
  have hok := Lib.hid (show ageOk m e l t = true by simp [ageOk, *])
  by_cases hm : m < 0
  · go_enter Try.func16, Try.ntmps16
    go_wp2_with (go_at_call 45; refine (within_any _ _ _ _).mono ?_; rintro e w' ⟨rfl, rfl⟩)
    all_goals go_ret2
    all_goals exact ⟨age_yes hok.out (by rw [if_pos hm]; omega), Below.refl _ _⟩
  · go_enter Try.func16, Try.ntmps16
    go_wp2_with (go_at_call 45; refine (within_any _ _ _ _).mono ?_; rintro e w' ⟨rfl, rfl⟩)
    all_goals go_ret2
    all_goals exact ⟨age_yes hok.out (by rw [if_neg (by omega)]), Below.refl _ _⟩
theorem spec_AgeFactor (m e l t : Int) (w : World) (b0 : -9223372036854775808 ≤ m ∧ m ≤ 9223372036854775807) (b1 : -9223372036854775808 ≤ e ∧ e ≤ 9223372036854775807) (b2 : -9223372036854775808 ≤ l ∧ l ≤ 9223372036854775807) (b3 : -9223372036854775808 ≤ t ∧ t ≤ 9223372036854775807) :
    Calls Try.prog 15 #[.int .i64 m, .int .i64 e, .int .i64 l, .int .i64 t] w fun E w' => E = .returned (.tuple #[.int .i64 (AgeFactor_r0 m e l t), .bool (AgeFactor_r1 m e l t)]) ∧ Below w.heap.size w w' := by
  show Calls Try.prog 15 _ w fun E w' => AgeIs m e l t E ∧ Below w.heap.size w w'
  cases h1 : inB m (-600) 600
  · have hfin := Lib.hid (age_no (m := m) (e := e) (l := l) (t := t) (by simp [ageOk, *]))
    go_enter Try.func15, Try.ntmps15
    go_wp2_with (first | (go_at_call 43; refine (l00In_any _ _ _ _).mono ?_; rintro e w' ⟨rfl, rfl⟩) | (go_at_call 44; refine (l00Max_any _ _ _).mono ?_; rintro e w' ⟨rfl, rfl⟩))
    go_ret2
    exact ⟨hfin.out, Below.refl _ _⟩
  cases h2 : inB e 0 200
  · have hfin := Lib.hid (age_no (m := m) (e := e) (l := l) (t := t) (by simp [ageOk, *]))
    go_enter Try.func15, Try.ntmps15
    go_wp2_with (first | (go_at_call 43; refine (l00In_any _ _ _ _).mono ?_; rintro e w' ⟨rfl, rfl⟩) | (go_at_call 44; refine (l00Max_any _ _ _).mono ?_; rintro e w' ⟨rfl, rfl⟩))
    go_ret2
    exact ⟨hfin.out, Below.refl _ _⟩
  cases h3 : inB l 0 200
  · have hfin := Lib.hid (age_no (m := m) (e := e) (l := l) (t := t) (by simp [ageOk, *]))
    go_enter Try.func15, Try.ntmps15
    go_wp2_with (first | (go_at_call 43; refine (l00In_any _ _ _ _).mono ?_; rintro e w' ⟨rfl, rfl⟩) | (go_at_call 44; refine (l00Max_any _ _ _).mono ?_; rintro e w' ⟨rfl, rfl⟩))
    go_ret2
    exact ⟨hfin.out, Below.refl _ _⟩
  cases h4 : inB t 0 10000
  · have hfin := Lib.hid (age_no (m := m) (e := e) (l := l) (t := t) (by simp [ageOk, *]))
    go_enter Try.func15, Try.ntmps15
    go_wp2_with (first | (go_at_call 43; refine (l00In_any _ _ _ _).mono ?_; rintro e w' ⟨rfl, rfl⟩) | (go_at_call 44; refine (l00Max_any _ _ _).mono ?_; rintro e w' ⟨rfl, rfl⟩))
    go_ret2
    exact ⟨hfin.out, Below.refl _ _⟩
  have c1 := inB_iff.1 h1
  have c2 := inB_iff.1 h2
  have c3 := inB_iff.1 h3
  have c4 := inB_iff.1 h4
  have p1 := mul_bds 600 200 (by omega : -600 ≤ m) (by omega) (by omega : 0 ≤ e) (by omega)
  have p2 := mul_bds 600 200 (by omega : -600 ≤ m) (by omega) (by omega : 0 ≤ l) (by omega)
  have hok := Lib.hid (show ageOk m e l t = true by simp [ageOk, *])
  by_cases hm : m < 0
  · go_enter Try.func15, Try.ntmps15
    go_wp2_with (first | (go_at_call 43; refine (l00In_any _ _ _ _).mono ?_; rintro e w' ⟨rfl, rfl⟩) | (go_at_call 44; refine (l00Max_any _ _ _).mono ?_; rintro e w' ⟨rfl, rfl⟩))
    all_goals go_ret2
    all_goals exact ⟨age_yes hok.out (by rw [if_pos hm]; omega), Below.refl _ _⟩
  · go_enter Try.func15, Try.ntmps15
    go_wp2_with (first | (go_at_call 43; refine (l00In_any _ _ _ _).mono ?_; rintro e w' ⟨rfl, rfl⟩) | (go_at_call 44; refine (l00Max_any _ _ _).mono ?_; rintro e w' ⟨rfl, rfl⟩))
    all_goals go_ret2
    all_goals exact ⟨age_yes hok.out (by rw [if_neg (by omega)]), Below.refl _ _⟩
end Go.Proofs.Ytpealngmghcmdaa
