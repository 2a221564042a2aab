/-
  SurvivorShare and PointPension: what the program's and the reference's functions return.
-/
import Derived.Test.YtpealngmghcmdaaList
namespace Go.Proofs.Ytpealngmghcmdaa
open Go.ChangeShapes Go.WideShapes Go.ChangeAt Go.RowKit
set_option linter.unusedVariables false

/-! ### SurvivorShare -/
def survOk (p r o f t : Int) : Bool := inB p 0 1000000000000 && inB r 0 10000 && inB o 0 1000000000000 && inB f 0 1000000000000 && inB t 0 10000
def survV (p r o f t : Int) : Int := max (p * r / 10000 - (if f < o then (o - f) * t / 10000 else 0)) 0
def SurvivorShare_r0 (p r o f t : Int) : Int := if survOk p r o f t then survV p r o f t else 0
def SurvivorShare_r1 (p r o f t : Int) : Bool := survOk p r o f t
def SurvIs (p r o f t : Int) (E : Ending) : Prop := E = .returned (.tuple #[.int .i64 (SurvivorShare_r0 p r o f t), .bool (SurvivorShare_r1 p r o f t)])
theorem surv_no {p r o f t : Int} (h : survOk p r o f t = false) : SurvIs p r o f t (.returned (.tuple #[.int .i64 0, .bool false])) := by
  unfold SurvIs SurvivorShare_r0 SurvivorShare_r1; rw [h]; rfl
theorem surv_yes {p r o f t v : Int} (h : survOk p r o f t = true) (hv : survV p r o f t = v) : SurvIs p r o f t (.returned (.tuple #[.int .i64 v, .bool true])) := by
  unfold SurvIs SurvivorShare_r0 SurvivorShare_r1; rw [h, ← hv]; rfl
theorem spec_SurvivorShare (p r o f t : Int) (w : World) (b0 : -9223372036854775808 ≤ p ∧ p ≤ 9223372036854775807) (b1 : -9223372036854775808 ≤ r ∧ r ≤ 9223372036854775807) (b2 : -9223372036854775808 ≤ o ∧ o ≤ 9223372036854775807) (b3 : -9223372036854775808 ≤ f ∧ f ≤ 9223372036854775807) (b4 : -9223372036854775808 ≤ t ∧ t ≤ 9223372036854775807) :
    Calls Try.prog 17 #[.int .i64 p, .int .i64 r, .int .i64 o, .int .i64 f, .int .i64 t] w fun E w' => E = .returned (.tuple #[.int .i64 (SurvivorShare_r0 p r o f t), .bool (SurvivorShare_r1 p r o f t)]) ∧ Below w.heap.size w w' := by
  show Calls Try.prog 17 _ w fun E w' => SurvIs p r o f t E ∧ Below w.heap.size w w'
  cases h1 : inB p 0 1000000000000
  · have hfin := Lib.hid (surv_no (p := p) (r := r) (o := o) (f := f) (t := t) (by simp [survOk, *]))
    go_enter Try.func17, Try.ntmps17
    go_wp2_with (first | (go_at_call 46; refine (l02Cents_any _ _).mono ?_; rintro e w' ⟨rfl, rfl⟩) | (go_at_call 47; refine (l02Rate_any _ _).mono ?_; rintro e w' ⟨rfl, rfl⟩))
    go_ret2
    exact ⟨hfin.out, Below.refl _ _⟩
  cases h2 : inB r 0 10000
  · have hfin := Lib.hid (surv_no (p := p) (r := r) (o := o) (f := f) (t := t) (by simp [survOk, *]))
    go_enter Try.func17, Try.ntmps17
    go_wp2_with (first | (go_at_call 46; refine (l02Cents_any _ _).mono ?_; rintro e w' ⟨rfl, rfl⟩) | (go_at_call 47; refine (l02Rate_any _ _).mono ?_; rintro e w' ⟨rfl, rfl⟩))
    go_ret2
    exact ⟨hfin.out, Below.refl _ _⟩
  cases h3 : inB o 0 1000000000000
  · have hfin := Lib.hid (surv_no (p := p) (r := r) (o := o) (f := f) (t := t) (by simp [survOk, *]))
    go_enter Try.func17, Try.ntmps17
    go_wp2_with (first | (go_at_call 46; refine (l02Cents_any _ _).mono ?_; rintro e w' ⟨rfl, rfl⟩) | (go_at_call 47; refine (l02Rate_any _ _).mono ?_; rintro e w' ⟨rfl, rfl⟩))
    go_ret2
    exact ⟨hfin.out, Below.refl _ _⟩
  cases h4 : inB f 0 1000000000000
  · have hfin := Lib.hid (surv_no (p := p) (r := r) (o := o) (f := f) (t := t) (by simp [survOk, *]))
    go_enter Try.func17, Try.ntmps17
    go_wp2_with (first | (go_at_call 46; refine (l02Cents_any _ _).mono ?_; rintro e w' ⟨rfl, rfl⟩) | (go_at_call 47; refine (l02Rate_any _ _).mono ?_; rintro e w' ⟨rfl, rfl⟩))
    go_ret2
    exact ⟨hfin.out, Below.refl _ _⟩
  cases h5 : inB t 0 10000
  · have hfin := Lib.hid (surv_no (p := p) (r := r) (o := o) (f := f) (t := t) (by simp [survOk, *]))
    go_enter Try.func17, Try.ntmps17
    go_wp2_with (first | (go_at_call 46; refine (l02Cents_any _ _).mono ?_; rintro e w' ⟨rfl, rfl⟩) | (go_at_call 47; refine (l02Rate_any _ _).mono ?_; rintro e w' ⟨rfl, rfl⟩))
    go_ret2
    exact ⟨hfin.out, Below.refl _ _⟩
  have c1 := inB_iff.1 h1
  have c2 := inB_iff.1 h2
  have c3 := inB_iff.1 h3
  have c4 := inB_iff.1 h4
  have c5 := inB_iff.1 h5
  have p1 := mul_bd 1000000000000 10000 (by omega : 0 ≤ p) (by omega) (by omega : 0 ≤ r) (by omega)
  have hok := Lib.hid (show survOk p r o f t = true by simp [survOk, *])
  by_cases hm : f < o
  · have p2 := mul_bd 1000000000000 10000 (by omega : 0 ≤ o - f) (by omega) (by omega : 0 ≤ t) (by omega)
    (go_enter Try.func17, Try.ntmps17; go_wp2_with (first | (go_at_call 46; refine (l02Cents_any _ _).mono ?_; rintro e w' ⟨rfl, rfl⟩) | (go_at_call 47; refine (l02Rate_any _ _).mono ?_; rintro e w' ⟨rfl, rfl⟩) | (go_at_call 44; refine (l00Max_any _ _ _).mono ?_; rintro e w' ⟨rfl, rfl⟩)); all_goals go_ret2; all_goals exact ⟨surv_yes hok.out (by unfold survV; first | (rw [if_pos (by omega)]; omega) | (rw [if_neg (by omega)]; omega)), Below.refl _ _⟩)
  · by_cases he : o < f
    · (go_enter Try.func17, Try.ntmps17; go_wp2_with (first | (go_at_call 46; refine (l02Cents_any _ _).mono ?_; rintro e w' ⟨rfl, rfl⟩) | (go_at_call 47; refine (l02Rate_any _ _).mono ?_; rintro e w' ⟨rfl, rfl⟩) | (go_at_call 44; refine (l00Max_any _ _ _).mono ?_; rintro e w' ⟨rfl, rfl⟩)); all_goals go_ret2; all_goals exact ⟨surv_yes hok.out (by unfold survV; first | (rw [if_pos (by omega)]; omega) | (rw [if_neg (by omega)]; omega)), Below.refl _ _⟩)
    · obtain rfl : o = f := by omega
      clear he hm
      have hm : ¬ o < o := by omega
      (go_enter Try.func17, Try.ntmps17; go_wp2_with (first | (go_at_call 46; refine (l02Cents_any _ _).mono ?_; rintro e w' ⟨rfl, rfl⟩) | (go_at_call 47; refine (l02Rate_any _ _).mono ?_; rintro e w' ⟨rfl, rfl⟩) | (go_at_call 44; refine (l00Max_any _ _ _).mono ?_; rintro e w' ⟨rfl, rfl⟩)); all_goals go_ret2; all_goals exact ⟨surv_yes hok.out (by unfold survV; first | (rw [if_pos (by omega)]; omega) | (rw [if_neg (by omega)]; omega)), Below.refl _ _⟩)
theorem impl_SurvivorShare (p r o f t : Int) (w : World) (b0 : -9223372036854775808 ≤ p ∧ p ≤ 9223372036854775807) (b1 : -9223372036854775808 ≤ r ∧ r ≤ 9223372036854775807) (b2 : -9223372036854775808 ≤ o ∧ o ≤ 9223372036854775807) (b3 : -9223372036854775808 ≤ f ∧ f ≤ 9223372036854775807) (b4 : -9223372036854775808 ≤ t ∧ t ≤ 9223372036854775807) :
    Calls Try.prog 18 #[.int .i64 p, .int .i64 r, .int .i64 o, .int .i64 f, .int .i64 t] w fun E w' => E = .returned (.tuple #[.int .i64 (SurvivorShare_r0 p r o f t), .bool (SurvivorShare_r1 p r o f t)]) ∧ Below w.heap.size w w' := by
  show Calls Try.prog 18 _ w fun E w' => SurvIs p r o f t E ∧ Below w.heap.size w w'
  cases h1 : inB p 0 1000000000000
  · have hfin := Lib.hid (surv_no (p := p) (r := r) (o := o) (f := f) (t := t) (by simp [survOk, *]))
    go_enter Try.func18, Try.ntmps18
    go_wp2_with (first | (go_at_call 48; refine (isAmount_any _ _).mono ?_; rintro e w' ⟨rfl, rfl⟩) | (go_at_call 49; refine (isRate_any _ _).mono ?_; rintro e w' ⟨rfl, rfl⟩))
    go_ret2
    exact ⟨hfin.out, Below.refl _ _⟩
  cases h2 : inB r 0 10000
  · have hfin := Lib.hid (surv_no (p := p) (r := r) (o := o) (f := f) (t := t) (by simp [survOk, *]))
    go_enter Try.func18, Try.ntmps18
    go_wp2_with (first | (go_at_call 48; refine (isAmount_any _ _).mono ?_; rintro e w' ⟨rfl, rfl⟩) | (go_at_call 49; refine (isRate_any _ _).mono ?_; rintro e w' ⟨rfl, rfl⟩))
    go_ret2
    exact ⟨hfin.out, Below.refl _ _⟩
  cases h3 : inB o 0 1000000000000
  · have hfin := Lib.hid (surv_no (p := p) (r := r) (o := o) (f := f) (t := t) (by simp [survOk, *]))
    go_enter Try.func18, Try.ntmps18
    go_wp2_with (first | (go_at_call 48; refine (isAmount_any _ _).mono ?_; rintro e w' ⟨rfl, rfl⟩) | (go_at_call 49; refine (isRate_any _ _).mono ?_; rintro e w' ⟨rfl, rfl⟩))
    go_ret2
    exact ⟨hfin.out, Below.refl _ _⟩
  cases h4 : inB f 0 1000000000000
  · have hfin := Lib.hid (surv_no (p := p) (r := r) (o := o) (f := f) (t := t) (by simp [survOk, *]))
    go_enter Try.func18, Try.ntmps18
    go_wp2_with (first | (go_at_call 48; refine (isAmount_any _ _).mono ?_; rintro e w' ⟨rfl, rfl⟩) | (go_at_call 49; refine (isRate_any _ _).mono ?_; rintro e w' ⟨rfl, rfl⟩))
    go_ret2
    exact ⟨hfin.out, Below.refl _ _⟩
  cases h5 : inB t 0 10000
  · have hfin := Lib.hid (surv_no (p := p) (r := r) (o := o) (f := f) (t := t) (by simp [survOk, *]))
    go_enter Try.func18, Try.ntmps18
    go_wp2_with (first | (go_at_call 48; refine (isAmount_any _ _).mono ?_; rintro e w' ⟨rfl, rfl⟩) | (go_at_call 49; refine (isRate_any _ _).mono ?_; rintro e w' ⟨rfl, rfl⟩))
    go_ret2
    exact ⟨hfin.out, Below.refl _ _⟩
  have c1 := inB_iff.1 h1
  have c2 := inB_iff.1 h2
  have c3 := inB_iff.1 h3
  have c4 := inB_iff.1 h4
  have c5 := inB_iff.1 h5
  have p1 := mul_bd 1000000000000 10000 (by omega : 0 ≤ p) (by omega) (by omega : 0 ≤ r) (by omega)
  have hok := Lib.hid (show survOk p r o f t = true by simp [survOk, *])
  by_cases hm : f < o
  · have p2 := mul_bd 1000000000000 10000 (by omega : 0 ≤ o - f) (by omega) (by omega : 0 ≤ t) (by omega)
    (go_enter Try.func18, Try.ntmps18; go_wp2_with (first | (go_at_call 48; refine (isAmount_any _ _).mono ?_; rintro e w' ⟨rfl, rfl⟩) | (go_at_call 49; refine (isRate_any _ _).mono ?_; rintro e w' ⟨rfl, rfl⟩) | (go_at_call 50; refine (dueBy_any _ _ _ (by omega) (by omega) (by omega) (by omega) (by omega) (by omega)).mono ?_; rintro e w' ⟨rfl, q, rfl⟩)); all_goals go_ret2; all_goals exact ⟨surv_yes hok.out (by unfold survV; first | (rw [if_pos (by omega)]; omega) | (rw [if_neg (by omega)]; omega)), by repeat (first | exact Below.refl _ _ | apply below_drewN)⟩)
  · by_cases he : o < f
    · (go_enter Try.func18, Try.ntmps18; go_wp2_with (first | (go_at_call 48; refine (isAmount_any _ _).mono ?_; rintro e w' ⟨rfl, rfl⟩) | (go_at_call 49; refine (isRate_any _ _).mono ?_; rintro e w' ⟨rfl, rfl⟩) | (go_at_call 50; refine (dueBy_any _ _ _ (by omega) (by omega) (by omega) (by omega) (by omega) (by omega)).mono ?_; rintro e w' ⟨rfl, q, rfl⟩)); all_goals go_ret2; all_goals exact ⟨surv_yes hok.out (by unfold survV; first | (rw [if_pos (by omega)]; omega) | (rw [if_neg (by omega)]; omega)), by repeat (first | exact Below.refl _ _ | apply below_drewN)⟩)
    · obtain rfl : o = f := by omega
      clear he hm
      have hm : ¬ o < o := by omega
      (go_enter Try.func18, Try.ntmps18; go_wp2_with (first | (go_at_call 48; refine (isAmount_any _ _).mono ?_; rintro e w' ⟨rfl, rfl⟩) | (go_at_call 49; refine (isRate_any _ _).mono ?_; rintro e w' ⟨rfl, rfl⟩) | (go_at_call 50; refine (dueBy_any _ _ _ (by omega) (by omega) (by omega) (by omega) (by omega) (by omega)).mono ?_; rintro e w' ⟨rfl, q, rfl⟩)); all_goals go_ret2; all_goals exact ⟨surv_yes hok.out (by unfold survV; first | (rw [if_pos (by omega)]; omega) | (rw [if_neg (by omega)]; omega)), by repeat (first | exact Below.refl _ _ | apply below_drewN)⟩)

/-! ### PointPension -/
def pointOk (zs : List Int) (v f : Int) : Bool := cntIn zs 1 60 0 1000000 && inB v 0 100000 && inB f 0 30000
def pointV (zs : List Int) (v f : Int) : Int := sumI zs * v / 10000 * f / 10000
def PointPension_r0 (zs : List Int) (v f : Int) : Int := if pointOk zs v f then pointV zs v f else 0
def PointPension_r1 (zs : List Int) (v f : Int) : Bool := pointOk zs v f
def PointIs (zs : List Int) (v f : Int) (E : Ending) : Prop := E = .returned (.tuple #[.int .i64 (PointPension_r0 zs v f), .bool (PointPension_r1 zs v f)])
theorem point_no {zs : List Int} {v f : Int} (h : pointOk zs v f = false) : PointIs zs v f (.returned (.tuple #[.int .i64 0, .bool false])) := by
  unfold PointIs PointPension_r0 PointPension_r1; rw [h]; rfl
theorem point_yes {zs : List Int} {v f x : Int} (h : pointOk zs v f = true) (hv : pointV zs v f = x) : PointIs zs v f (.returned (.tuple #[.int .i64 x, .bool true])) := by
  unfold PointIs PointPension_r0 PointPension_r1; rw [h, ← hv]; rfl
theorem point_bd {s v f : Int} (h0 : 0 ≤ s) (h1 : s ≤ 60000000) (c2 : 0 ≤ v ∧ v ≤ 100000) (c3 : 0 ≤ f ∧ f ≤ 30000) :
    (0 ≤ s * v ∧ s * v ≤ 6000000000000) ∧ (0 ≤ s * v / 10000 * f ∧ s * v / 10000 * f ≤ 18000000000000) ∧ (0 ≤ s * v / 10000 * f / 10000 ∧ s * v / 10000 * f / 10000 ≤ 1800000000) := by
  have a := mul_bd 60000000 100000 h0 h1 c2.1 c2.2
  have b := mul_bd 600000000 30000 (a := s * v / 10000) (by omega) (by omega) c3.1 c3.2
  omega
theorem point_sum {zs : List Int} (h : cntIn zs 1 60 0 1000000 = true) : 0 ≤ sumI zs ∧ sumI zs ≤ 60000000 := by
  obtain ⟨_, h2, h3⟩ := cntIn_iff.1 h
  have := sumI_le zs (allIn_at h3)
  omega
theorem impl_PointPension (A : Option Addr) (n c : Nat) (zs : List Int) (v f : Int) (w : World) (hr : Rd w w.heap.size 1 A n (ints zs)) (hn : n ≤ 1048576) (hz : I64s zs) (b1 : -9223372036854775808 ≤ v ∧ v ≤ 9223372036854775807) (b2 : -9223372036854775808 ≤ f ∧ f ≤ 9223372036854775807) :
    Calls Try.prog 21 #[.slice A n c, .int .i64 v, .int .i64 f] w fun E w' => E = .returned (.tuple #[.int .i64 (PointPension_r0 zs v f), .bool (PointPension_r1 zs v f)]) ∧ Below w.heap.size w w' := by
  show Calls Try.prog 21 _ w fun E w' => PointIs zs v f E ∧ Below w.heap.size w w'
  cases h1 : cntIn zs 1 60 0 1000000
  · have hfin := Lib.hid (point_no (zs := zs) (v := v) (f := f) (by simp [pointOk, *]))
    go_enter Try.func21, Try.ntmps21
    go_wp2_with fail
    refine (arePoints_any _ _ _ zs _ hr (by omega)).mono ?_
    rintro e w' ⟨rfl, hb⟩
    go_wp2_with fail
    go_ret2
    exact ⟨hfin.out, hb⟩
  cases h2 : inB v 0 100000
  · have hfin := Lib.hid (point_no (zs := zs) (v := v) (f := f) (by simp [pointOk, *]))
    go_enter Try.func21, Try.ntmps21
    go_wp2_with fail
    refine (arePoints_any _ _ _ zs _ hr (by omega)).mono ?_
    rintro e w' ⟨rfl, hb⟩
    go_wp2_with (go_at_call 45; refine (within_any _ _ _ _).mono ?_; rintro e w' ⟨rfl, rfl⟩)
    go_ret2
    exact ⟨hfin.out, hb⟩
  cases h3 : inB f 0 30000
  · have hfin := Lib.hid (point_no (zs := zs) (v := v) (f := f) (by simp [pointOk, *]))
    go_enter Try.func21, Try.ntmps21
    go_wp2_with fail
    refine (arePoints_any _ _ _ zs _ hr (by omega)).mono ?_
    rintro e w' ⟨rfl, hb⟩
    go_wp2_with (go_at_call 45; refine (within_any _ _ _ _).mono ?_; rintro e w' ⟨rfl, rfl⟩)
    go_ret2
    exact ⟨hfin.out, hb⟩
  have c2 := inB_iff.1 h2
  have c3 := inB_iff.1 h3
  have hs := point_sum h1
  obtain ⟨p1, p2, p3⟩ := point_bd hs.1 hs.2 c2 c3
  have hok := Lib.hid (show pointOk zs v f = true by simp [pointOk, *])
  have hl : n ≤ 60 := by have := (cntIn_iff.1 h1).2.1; have := hr.ilen; omega
  have hsm := Lib.hid (small_of (cntIn_iff.1 h1).2.2 (by omega) (by omega))
  go_enter Try.func21, Try.ntmps21
  go_wp2_with fail
  refine (arePoints_any _ _ _ zs _ hr (by omega)).mono ?_
  rintro e w' ⟨rfl, hb⟩
  have hr2 := hr.on hb
  clear hr
  obtain ⟨s, hs'⟩ : ∃ s, s = sumI zs := ⟨_, rfl⟩
  have hy := point_yes (x := s * v / 10000 * f / 10000) hok.out (by rw [hs']; rfl)
  rw [← hs'] at hs p1 p2 p3
  have H := Lib.hid hy
  have HS := Lib.hid hs'
  clear hy hs'
  go_wp2_with (first | (go_at_call 45; refine (within_any _ _ _ _).mono ?_; rintro e w' ⟨rfl, rfl⟩) | fail)
  refine (total_any _ _ _ zs _ hr2 (by omega) hsm.out).mono ?_
  rintro e w2 ⟨rfl, rfl⟩
  rw [← HS.out]
  have h5 : inB (s * v / 10000 * f / 10000) 0 1000000000000 = true := inB_iff.2 (by omega)
  go_wp2_with (go_at_call 54; refine (amount_yes _ _ h5).mono ?_; rintro e w' ⟨rfl, rfl⟩)
  go_ret2
  exact ⟨H.out, hb⟩
theorem spec_PointPension (A : Option Addr) (n c : Nat) (zs : List Int) (v f : Int) (w : World) (hr : Rd w w.heap.size 1 A n (ints zs)) (hn : n ≤ 1048576) (hz : I64s zs) (b1 : -9223372036854775808 ≤ v ∧ v ≤ 9223372036854775807) (b2 : -9223372036854775808 ≤ f ∧ f ≤ 9223372036854775807) :
    Calls Try.prog 19 #[.slice A n c, .int .i64 v, .int .i64 f] w fun E w' => E = .returned (.tuple #[.int .i64 (PointPension_r0 zs v f), .bool (PointPension_r1 zs v f)]) ∧ Below w.heap.size w w' := by
  show Calls Try.prog 19 _ w fun E w' => PointIs zs v f E ∧ Below w.heap.size w w'
  cases h1 : cntIn zs 1 60 0 1000000
  · have hfin := Lib.hid (point_no (zs := zs) (v := v) (f := f) (by simp [pointOk, *]))
    go_enter Try.func19, Try.ntmps19
    go_wp2_with (go_at_call 51; refine (l06Points_any _ _ _ zs _ hr (by omega)).mono ?_; rintro e w' ⟨rfl, rfl⟩)
    go_ret2
    exact ⟨hfin.out, Below.refl _ _⟩
  cases h2 : inB v 0 100000
  · have hfin := Lib.hid (point_no (zs := zs) (v := v) (f := f) (by simp [pointOk, *]))
    go_enter Try.func19, Try.ntmps19
    go_wp2_with (first | (go_at_call 51; refine (l06Points_any _ _ _ zs _ hr (by omega)).mono ?_; rintro e w' ⟨rfl, rfl⟩) | (go_at_call 43; refine (l00In_any _ _ _ _).mono ?_; rintro e w' ⟨rfl, rfl⟩))
    go_ret2
    exact ⟨hfin.out, Below.refl _ _⟩
  cases h3 : inB f 0 30000
  · have hfin := Lib.hid (point_no (zs := zs) (v := v) (f := f) (by simp [pointOk, *]))
    go_enter Try.func19, Try.ntmps19
    go_wp2_with (first | (go_at_call 51; refine (l06Points_any _ _ _ zs _ hr (by omega)).mono ?_; rintro e w' ⟨rfl, rfl⟩) | (go_at_call 43; refine (l00In_any _ _ _ _).mono ?_; rintro e w' ⟨rfl, rfl⟩))
    go_ret2
    exact ⟨hfin.out, Below.refl _ _⟩
  have c2 := inB_iff.1 h2
  have c3 := inB_iff.1 h3
  have hs := point_sum h1
  obtain ⟨p1, p2, p3⟩ := point_bd hs.1 hs.2 c2 c3
  have hok := Lib.hid (show pointOk zs v f = true by simp [pointOk, *])
  have hl : n ≤ 60 := by have := (cntIn_iff.1 h1).2.1; have := hr.ilen; omega
  have hsm := Lib.hid (small_of (cntIn_iff.1 h1).2.2 (by omega) (by omega))
  go_enter Try.func19, Try.ntmps19
  obtain ⟨s, hs'⟩ : ∃ s, s = sumI zs := ⟨_, rfl⟩
  have hy := point_yes (x := s * v / 10000 * f / 10000) hok.out (by rw [hs']; rfl)
  rw [← hs'] at hs p1 p2 p3
  have H := Lib.hid hy
  have HS := Lib.hid hs'
  clear hy hs'
  go_wp2_with (first | (go_at_call 51; refine (l06Points_any _ _ _ zs _ hr (by omega)).mono ?_; rintro e w' ⟨rfl, rfl⟩) | (go_at_call 43; refine (l00In_any _ _ _ _).mono ?_; rintro e w' ⟨rfl, rfl⟩))
  refine (l06Sum_any _ _ _ zs _ hr (by omega) hsm.out).mono ?_
  rintro e w2 ⟨rfl, rfl⟩
  rw [← HS.out]
  go_wp2_with fail
  go_ret2
  exact ⟨H.out, Below.refl _ _⟩
end Go.Proofs.Ytpealngmghcmdaa
