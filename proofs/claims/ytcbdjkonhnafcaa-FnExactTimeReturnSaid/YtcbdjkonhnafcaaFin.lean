/-
  IsFinite, finite: what the program's functions return.
-/
import Derived.Test.YtcbdjkonhnafcaaLawF
import Derived.Laws.Externs
import Derived.Laws.BitsAllLaws
namespace Go.Proofs.Ytcbdjkonhnafcaa
open Fl
open Go.ChangeShapes Go.WideShapes Go.ChangeAt Go.RowKit
set_option linter.unusedVariables false

/-! ### words of 64 bits -/
def absW (r : Nat) : Nat := r % 9223372036854775808
def W64 (r : Nat) : Prop := r < 18446744073709551616
theorem d_sw : Ieee.double.signWeight = 9223372036854775808 := by decide
theorem wide_w64 {b : Nat} (h : nan32 b = false) : W64 (wide b) := by
  have h1 := (wide_not_nan h).1
  unfold floatToFloatBits at h1
  rw [if_neg (by decide)] at h1
  split at h1
  · cases h1
  · have h2 := Option.some.inj h1
    show wide b < _
    rw [← h2]
    exact Ieee.Format.write_lt Ieee.double _
  · split at h1
    · cases h1
    · have h2 := Option.some.inj h1
      show wide b < _
      rw [← h2]
      exact Ieee.Format.write_lt Ieee.double _
theorem absW_rg (r : Nat) : rg Ieee.double (absW r) = rg Ieee.double r := by
  unfold rg absW
  rw [d_sw]; omega
theorem absW_sg (r : Nat) : sg Ieee.double (absW r) = false := by
  unfold sg absW
  rw [d_sw, Nat.div_eq_of_lt (Nat.mod_lt _ (by decide))]
  rfl
/-- 'abs(r) > the greatest finite number' -/
def infB (r : Nat) : Bool := FloatKind.f64.format.order (absW r) 9218868437227405311 == some .gt
theorem infB_fin {r : Nat} (h : Fi Ieee.double r) : infB r = false := by
  have h1 : Fi Ieee.double (absW r) := by unfold Fi; rw [absW_rg]; exact h
  have hm : rg Ieee.double 9218868437227405311 = 9218868437227405311 := by unfold rg; rw [d_sw]
  have h2 : Fi Ieee.double 9218868437227405311 := by unfold Fi; rw [hm, d_inf]; decide
  have h3 : vl Ieee.double (absW r) ≤ vl Ieee.double 9218868437227405311 := by
    have e2 : sg Ieee.double 9218868437227405311 = false := by decide
    unfold vl
    rw [absW_sg, e2, if_neg (by decide), if_neg (by decide)]
    have : vm Ieee.double (absW r) ≤ vm Ieee.double 9218868437227405311 := by
      unfold vm
      refine mg_mono (binade_pos _) ?_
      rw [hm]
      have := h1; unfold Fi at this; rw [d_inf] at this; omega
    omega
  have h4 : Ieee.double.order (absW r) 9218868437227405311 = some (compare (vl Ieee.double (absW r)) (vl Ieee.double 9218868437227405311)) := order_fi h1 h2
  show (Ieee.double.order (absW r) 9218868437227405311 == some .gt) = false
  rw [h4]
  generalize vl Ieee.double (absW r) = x at h3 ⊢
  generalize vl Ieee.double 9218868437227405311 = y at h3 ⊢
  rcases Int.lt_or_eq_of_le h3 with h | h
  · rw [Int.compare_eq_lt.2 h]; rfl
  · rw [Int.compare_eq_eq.2 h]; rfl
theorem d_read_inf {r : Nat} {s : Bool} (h : Ieee.double.read r = .infinity s) : Ieee.double.read (absW r) = .infinity false := by
  have hr : rg Ieee.double r = 9218868437227405312 := by
    unfold Ieee.Format.read at h
    simp only at h
    rw [d_bin, d_inf] at h
    unfold rg
    split at h
    · cases h
    · split at h
      · cases h
      · split at h
        · assumption
        · cases h
  have h1 : absW r % Ieee.double.signWeight = 9218868437227405312 := by
    have := absW_rg r
    unfold rg at this hr
    rw [this, hr]
  have h2 := absW_sg r
  unfold sg at h2
  unfold Ieee.Format.read
  simp only
  rw [h1, h2, d_bin, d_inf]
  rfl
theorem infB_inf {r : Nat} {s : Bool} (h : Ieee.double.read r = .infinity s) : infB r = true := by
  obtain ⟨m, e, h2, _⟩ := read_fi (f := Ieee.double) (b := 9218868437227405311) (by unfold Fi rg; rw [d_sw, d_inf]; decide)
  show (Ieee.double.order (absW r) 9218868437227405311 == some .gt) = true
  unfold Ieee.Format.order
  rw [d_read_inf h, h2]
  rfl
theorem run_bits64 (r : Nat) (w : World) : (callFunc 36 #[.float .f64 r]).run Try.prog w = .ok (.value (.int .u64 r)) w := by
  rw [run_callFunc_extern Try.func36 (by kernel_rfl) (by kernel_rfl) (by kernel_rfl) (e := Extern.MathFloatBits.float64bits) (by kernel_rfl)]
  rfl
theorem run_frombits64 (r : Nat) (w : World) : (callFunc 29 #[.int .u64 r]).run Try.prog w = .ok (.value (.float .f64 r)) w := by
  rw [run_callFunc_extern Try.func29 (by kernel_rfl) (by kernel_rfl) (by kernel_rfl) (e := Extern.MathFloatBits.float64frombits) (by kernel_rfl)]
  rfl
theorem bits_abs {r : Nat} (h : W64 r) : bits .andNot .u64 (r : Int) 9223372036854775808 = ((absW r : Nat) : Int) := by
  have := u64_andNot_nat r 9223372036854775808 h (by decide)
  rw [show ((9223372036854775808 : Nat) : Int) = 9223372036854775808 from rfl] at this
  rw [this, show (18446744073709551615 - 9223372036854775808 : Nat) = 2 ^ 63 - 1 from rfl, Nat.and_two_pow_sub_one_eq_mod]
  rfl
set_option maxRecDepth 100000 in
theorem abs_any (r : Nat) (w : World) (h : W64 r) : Calls Try.prog 31 #[.float .f64 r] w fun e w' => e = .returned (.float .f64 (absW r)) ∧ w = w' := by
  have h1 := run_bits64 r
  have h2 := run_frombits64 (absW r)
  have h3 := bits_abs h
  clear h
  go_enter Try.func31, Try.ntmps31
  go_wp2_with fail
  go_ret
  exact ⟨rfl, rfl⟩
set_option maxRecDepth 100000 in
theorem isInf_any (r : Nat) (w : World) (h : W64 r) : Calls Try.prog 27 #[.float .f64 r, .int .i64 0] w fun e w' => e = .returned (.bool (infB r)) ∧ w = w' := by
  go_enter Try.func27, Try.ntmps27
  go_wp2_with (go_at_call 31; refine (abs_any _ _ h).mono ?_; rintro e w' ⟨rfl, rfl⟩)
  go_ret
  exact ⟨rfl, rfl⟩
theorem isNone_any (r : Nat) (w : World) : Calls Try.prog 35 #[.float .f64 r] w fun e w' => e = .returned (.bool (nan64 r)) ∧ w = w' := by
  cases hn : nan64 r
  · have hs : (FloatKind.f64.format.order r r != some .eq) = false := by
      have := d_self hn
      show (Ieee.double.order r r != some .eq) = false
      rw [this]; rfl
    go_enter Try.func35, Try.ntmps35
    go_wp2_with fail
    go_ret
    exact ⟨rfl, rfl⟩
  · have hs : (FloatKind.f64.format.order r r != some .eq) = true := by
      have := d_nan_l (b := r) hn
      show (Ieee.double.order r r != some .eq) = true
      rw [this]; rfl
    go_enter Try.func35, Try.ntmps35
    go_wp2_with fail
    go_ret
    exact ⟨rfl, rfl⟩
theorem isEnded_nan (r : Nat) (w : World) (h : nan64 r = true) : Calls Try.prog 30 #[.float .f64 r] w fun e w' => e = .returned (.bool false) ∧ w = w' := by
  go_enter Try.func30, Try.ntmps30
  go_wp2_with (go_at_call 35; refine (isNone_any _ _).mono ?_; rintro e w' ⟨rfl, rfl⟩)
  go_ret
  exact ⟨rfl, rfl⟩
theorem isEnded_num (r : Nat) (w : World) (h : nan64 r = false) (h2 : W64 r) : Calls Try.prog 30 #[.float .f64 r] w fun e w' => e = .returned (.bool (!infB r)) ∧ w = w' := by
  go_enter Try.func30, Try.ntmps30
  go_wp2_with (first | (go_at_call 35; refine (isNone_any _ _).mono ?_; rintro e w' ⟨rfl, rfl⟩) | (go_at_call 27; refine (isInf_any _ _ h2).mono ?_; rintro e w' ⟨rfl, rfl⟩))
  go_ret
  exact ⟨rfl, rfl⟩
/-- a finite word of 32 bits -/
def finB (b : Nat) : Bool := decide (rk b < 2139095040)
theorem finB_iff {b : Nat} : finB b = true ↔ F b := by rw [F_iff]; simp [finB]
theorem isFinite_num (b : Nat) (w : World) (h : nan32 b = false) : Calls Try.prog 25 #[.float .f32 b] w fun e w' => e = .returned (.bool (finB b)) ∧ w = w' := by
  have hcv := conv_ok h
  have HN := Lib.hid (wide_not_nan h).2
  have HW := Lib.hid (wide_w64 h)
  have HF := Lib.hid (show (!infB (wide b)) = finB b by
    by_cases hf : F b
    · rw [infB_fin (wide_fin hf).2, finB_iff.2 hf]; rfl
    · have h1 : ¬ rk b < 2139095040 := fun x => hf (F_iff.2 x)
      have h2 : ¬ 2139095040 < rk b := fun x => by rw [nan_iff.2 x] at h; cases h
      rw [infB_inf (wide_inf (by omega)).2]
      simp [finB]; omega)
  clear h
  go_enter Try.func25, Try.ntmps25
  go_wp2_with (go_at_call 30; refine (isEnded_num _ _ HN.out HW.out).mono ?_; rintro e w' ⟨rfl, rfl⟩)
  go_ret
  exact ⟨by rw [← HF.out]; rfl, rfl⟩
theorem isFinite_nan (b : Nat) (w : World) (h : nan32 b = true) : Calls Try.prog 25 #[.float .f32 b] w fun e w' => e = .returned (.bool false) ∧ w.drew = w' := by
  have hcv := conv_nan h
  clear h
  go_enter Try.func25, Try.ntmps25
  go_wp2_with (go_at_call 30; refine (isEnded_nan _ _ (nanOf_nan _ _)).mono ?_; rintro e w' ⟨rfl, rfl⟩)
  go_ret
  exact ⟨rfl, rfl⟩
theorem isFinite_any (b : Nat) (w : World) : Calls Try.prog 25 #[.float .f32 b] w fun e w' => e = .returned (.bool (finB b)) ∧ Below w.heap.size w w' := by
  cases h : nan32 b
  · exact (isFinite_num b w h).mono fun e w' ⟨h1, h2⟩ => ⟨h1, by subst h2; exact Below.refl _ _⟩
  · refine (isFinite_nan b w h).mono fun e w' ⟨h1, h2⟩ => ⟨?_, by subst h2; exact (Below.refl _ _).drew⟩
    have := nan_iff.1 h
    rw [h1, show finB b = false by simp [finB]; omega]
theorem finite_yes (b : Nat) (w : World) (h : F b) : Calls Try.prog 15 #[.float .f32 b] w fun e w' => e = .returned (.tuple #[.float .f32 b, .bool true]) ∧ w = w' := by
  have H := Lib.hid (F_nan h)
  have hb := finB_iff.2 h
  clear h
  go_enter Try.func15, Try.ntmps15
  go_wp2_with (go_at_call 25; refine (isFinite_num _ _ H.out).mono ?_; rintro e w' ⟨rfl, rfl⟩)
  go_ret2
  exact ⟨rfl, rfl⟩
theorem finite_num (b : Nat) (w : World) (h : nan32 b = false) (hf : finB b = false) : Calls Try.prog 15 #[.float .f32 b] w fun e w' => e = .returned (.tuple #[.float .f32 0, .bool false]) ∧ w = w' := by
  have H := Lib.hid h
  clear h
  go_enter Try.func15, Try.ntmps15
  go_wp2_with (go_at_call 25; refine (isFinite_num _ _ H.out).mono ?_; rintro e w' ⟨rfl, rfl⟩)
  go_ret2
  exact ⟨rfl, rfl⟩
end Go.Proofs.Ytcbdjkonhnafcaa
