/-
  AnnuityPay: what the program's and the reference's function return.
-/
import Derived.Test.YtefoebaoejoamaaAnnV
import Derived.Test.YtefoebaoejoamaaFx
namespace Go.Proofs.Ytefoebaoejoamaa
open Fl
open Go.ChangeShapes Go.WideShapes Go.ChangeAt Go.RowKit
set_option linter.unusedVariables false

theorem read_short {f : Ieee.Format} {b : Nat} (h : Fi f b) : ∃ (m : Nat) (e : Int), f.read b = .number (sg f b) m e ∧ f.leastPlace ≤ e ∧ vm f b = m * 2 ^ (e - f.leastPlace).toNat ∧ m < 2 * f.binade := by
  have hP : 0 < f.binade := binade_pos f
  unfold Fi rg at h
  unfold Ieee.Format.read vm rg sg mg
  simp only
  by_cases h1 : b % f.signWeight < f.binade
  · rw [if_pos h1, if_pos h1]
    exact ⟨_, _, rfl, Int.le_refl _, by simp, by omega⟩
  · rw [if_neg h1, if_pos h, if_neg h1]
    have := Nat.mod_lt (b % f.signWeight) hP
    refine ⟨_, _, rfl, by omega, ?_, by omega⟩
    congr 2
    omega
theorem wide_eq {b m : Nat} {e : Int} {s : Bool} (h : F b) (hr : Ieee.single.read b = .number s m e) : wide b = Ieee.double.nearest s m e := by
  have h1 := (wide_fin h).1
  have hd : FloatKind.f32.decode b = .number s m e := hr
  unfold floatToFloatBits at h1
  rw [if_neg (by decide), hd] at h1
  simp only at h1
  split at h1
  · cases h1
  · exact (Option.some.inj h1).symm
/-- the word of 64 bits stands for the same number -/
theorem wide_exact {b : Nat} (h : F b) {T D : Nat} (hT : Ieee.double.leastPlace = -(T : Int)) (hD : T = 149 + D) : vm Ieee.double (wide b) = mag b * 2 ^ D ∧ sg Ieee.double (wide b) = sn b ∧ Fi Ieee.double (wide b) := by
  obtain ⟨m, e, hr, he, hm, hs⟩ := read_short h
  have hf := (wide_fin h).2
  have hw := wide_eq h hr
  have hm2 : m < 2 * Ieee.double.binade := by rw [d_bin]; rw [s_bin] at hs; exact Nat.lt_of_lt_of_le hs (by decide)
  have hlp : Ieee.double.leastPlace ≤ e := by rw [hT, hD]; rw [s_lp] at he; omega
  have hexp : (e - Ieee.double.leastPlace).toNat = (e - Ieee.single.leastPlace).toNat + D := by rw [hT, hD]; rw [s_lp] at he ⊢; omega
  rw [hw] at hf ⊢
  by_cases h0 : m = 0
  · subst h0
    have e1 : Ieee.double.nearest (sg Ieee.single b) 0 e = Ieee.double.word (sg Ieee.single b) 0 := by unfold Ieee.Format.nearest; rw [if_pos rfl]
    have hp := word_parts (f := Ieee.double) (neg := sg Ieee.single b) (R := 0) (Nat.zero_le _)
    have hz : mag b = 0 := by show vm _ _ = 0; rw [hm]; simp
    refine ⟨?_, ?_, hf⟩
    · rw [hz, e1]; unfold vm; rw [hp.1]; simp [mg, binade_pos]
    · rw [e1]; exact hp.2
  · have hp := word_parts (f := Ieee.double) (neg := sg Ieee.single b) (R := min (rungOf Ieee.double (sg Ieee.single b) m e) Ieee.double.infRung) (Nat.min_le_right _ _)
    have hn := nearest_eq (f := Ieee.double) (neg := sg Ieee.single b) (place := e) h0
    have hi : rungOf Ieee.double (sg Ieee.single b) m e < Ieee.double.infRung := by
      unfold Fi at hf
      rw [hn, hp.1] at hf
      exact Nat.lt_of_not_le fun hc => by rw [Nat.min_eq_right hc] at hf; exact Nat.lt_irrefl _ hf
    refine ⟨?_, by rw [hn]; exact hp.2, hf⟩
    rw [nearest_exact h0 hm2 hlp hi]
    show _ = vm _ _ * _
    rw [hm, Nat.mul_assoc, ← Nat.pow_add, hexp]
/-- a whole number of 64 bits -/
theorem int64_exact {N T : Nat} (hT : Ieee.double.leastPlace = -(T : Int)) (h : N ≤ 2 ^ 50) : Fi Ieee.double (Ieee.double.write (.number false N 0)) ∧ sg Ieee.double (Ieee.double.write (.number false N 0)) = false ∧ vm Ieee.double (Ieee.double.write (.number false N 0)) = N * 2 ^ T := by
  show Fi Ieee.double (Ieee.double.nearest false N 0) ∧ sg Ieee.double (Ieee.double.nearest false N 0) = false ∧ vm Ieee.double (Ieee.double.nearest false N 0) = N * 2 ^ T
  have hd := d_lp
  by_cases h0 : N = 0
  · subst h0
    have e1 : Ieee.double.nearest false 0 0 = Ieee.double.word false 0 := by unfold Ieee.Format.nearest; rw [if_pos rfl]
    have hp := word_parts (f := Ieee.double) (neg := false) (R := 0) (Nat.zero_le _)
    rw [e1]
    refine ⟨?_, hp.2, ?_⟩
    · unfold Fi; rw [hp.1, d_inf]; decide
    · unfold vm; rw [hp.1]; simp [mg, binade_pos]
  · obtain ⟨E, hE⟩ : ∃ E : Nat, E = T := ⟨_, rfl⟩
    have hle : rungOf Ieee.double false N 0 ≤ (E + 1) * 4503599627370496 := by
      refine rungOf_le (S := 0) h0 (by omega) ?_
      have h2 := mg_at (P := 4503599627370496) (E := E) (F := 0) (by decide)
      rw [Nat.add_zero, Nat.add_zero] at h2
      rw [d_bin, h2, show ((0 : Int) - Ieee.double.leastPlace + ((0 : Nat) : Int)).toNat = T by omega, Nat.pow_zero, Nat.mul_one, hE]
      exact Nat.mul_le_mul_right _ (Nat.le_trans h (by decide))
    have hi : rungOf Ieee.double false N 0 < Ieee.double.infRung := by
      rw [d_inf]
      omega
    have hp := word_parts (f := Ieee.double) (neg := false) (R := min (rungOf Ieee.double false N 0) Ieee.double.infRung) (Nat.min_le_right _ _)
    have hn := nearest_eq (f := Ieee.double) (neg := false) (place := 0) h0
    refine ⟨?_, by rw [hn]; exact hp.2, ?_⟩
    · unfold Fi; rw [hn, hp.1]; omega
    · rw [nearest_exact h0 (by rw [d_bin]; exact Nat.lt_of_le_of_lt h (by decide)) (by omega) hi]
      congr 2
      omega

/-- the whole part of a quotient -/
def wholeOf (d : Nat) : Nat := mag d / 2 ^ 149
def floorW (d : Nat) : Nat := Ieee.double.write (.number false (wholeOf d) 0)
theorem whole_bd {d : Nat} (h : Bd 20 d) : wholeOf d ≤ 1048576 := by
  unfold wholeOf
  refine Nat.div_le_of_le_mul ?_
  have := h.mag_le
  have e : (2 : Nat) ^ (20 + 149) = 2 ^ 149 * 1048576 := by rw [Nat.add_comm, Nat.pow_add]
  omega
theorem to_int32 {d : Nat} (h : Bd 20 d) (hs : sn d = false) : floatToIntVal .f32 d .i64 = some ((wholeOf d : Nat) : Int) := by
  have h1 : (FloatKind.f32.decode d).toInt .zero = some ((wholeOf d : Nat) : Int) := toInt_fi s_lp (h.fin (by decide)) hs
  have h2 := whole_bd h
  unfold floatToIntVal
  rw [h1]
  simp only
  rw [if_pos (by show -9223372036854775808 ≤ _ ∧ _ ≤ 9223372036854775807; omega)]
theorem to_integral_num {x m : Nat} {s : Bool} {e : Int} (hd : FloatKind.f64.decode x = .number s m e) : Extern.MathFloor.toIntegral "math.archFloor" .down #[.float .f64 x] = pure (.float .f64 (FloatKind.f64.encode ((Ieee.Datum.number s m e).integral .down))) := by
  conv => lhs; whnf
  rw [hd]
theorem floor_run {d : Nat} (h : Bd 20 d) (hs : sn d = false) (w : World) : (callFunc 75 #[.float .f64 (wide d)]).run Try.prog w = .ok (.value (.float .f64 (floorW d))) w := by
  obtain ⟨T, D, hT, hD⟩ : ∃ T D : Nat, Ieee.double.leastPlace = -(T : Int) ∧ T = 149 + D := ⟨1074, 925, d_lp, rfl⟩
  obtain ⟨e1, e2, e3⟩ := wide_exact (h.fin (by decide)) hT hD
  have hint : (FloatKind.f64.decode (wide d)).integral .down = .number false (wholeOf d) 0 := by
    have := integral_fi (way := .down) hT e3 (by rw [e2]; exact hs) (.inr rfl)
    have e4 : vm Ieee.double (wide d) / 2 ^ T = wholeOf d := by
      rw [e1, hD, Nat.pow_add, Nat.mul_div_mul_right _ _ (Nat.two_pow_pos _)]; rfl
    rw [e4] at this
    exact this
  rw [run_callFunc_extern Try.func75 (by kernel_rfl) (by kernel_rfl) (by kernel_rfl) (e := Extern.MathFloor.toIntegral "math.archFloor" .down) (by kernel_rfl)]
  obtain ⟨m, e, hr, _⟩ := read_fi e3
  have hd : FloatKind.f64.decode (wide d) = .number (sg Ieee.double (wide d)) m e := hr
  rw [hd] at hint
  rw [to_integral_num hd, hint]
  rfl
theorem to_int64 {d : Nat} (h : Bd 20 d) : floatToIntVal .f64 (floorW d) .i64 = some ((wholeOf d : Nat) : Int) := by
  obtain ⟨T, hT⟩ : ∃ T : Nat, Ieee.double.leastPlace = -(T : Int) := ⟨1074, d_lp⟩
  have h2 := whole_bd h
  obtain ⟨e1, e2, e3⟩ := int64_exact (N := wholeOf d) hT (by omega)
  have h1 : (FloatKind.f64.decode (floorW d)).toInt .zero = some ((wholeOf d : Nat) : Int) := by
    have := toInt_fi hT e1 e2
    rw [e3, Nat.mul_div_cancel _ (Nat.two_pow_pos _)] at this
    exact this
  unfold floatToIntVal
  rw [h1]
  simp only
  rw [if_pos (by show -9223372036854775808 ≤ _ ∧ _ ≤ 9223372036854775807; omega)]
theorem u_f64 : (Try.prog.underlying 35).isSome = true := by rw [Try.underlying35]; rfl

/-! ### an annuity's value is at least 1 -/
theorem val_ge {b : Nat} (h : Ge1 b) : 2 ^ 149 ≤ val b := by
  have h1 := h.mag_ge
  have h2 := nn_mag h.nn
  have h3 : ((2 ^ 149 : Nat) : Int) = 2 ^ 149 := rfl
  omega
theorem add_ge1 {x y K : Nat} (hx : Bd K x) (hy : Bd K y) (hK : K ≤ 126) (h1 : 0 ≤ val x) (h2 : 0 ≤ val y) (h3 : 2 ^ 149 ≤ val x + val y) : Ge1 (fadd x y) := by
  obtain ⟨ok, hb⟩ := fadd_bd hx hy (Nat.le_refl K) (Nat.le_refl K) hK
  obtain ⟨r, neg, k1, k2, k3, _, _⟩ := add_res (hx.fin (by omega)) (hy.fin (by omega))
  obtain ⟨a, b⟩ := okA_of k1
  have h4 : (0 : Int) < 2 ^ 149 := by decide
  have h6 : 0 < vl Ieee.single x + vl Ieee.single y := by have : 2 ^ 149 ≤ vl Ieee.single x + vl Ieee.single y := h3; omega
  refine b ▸ ⟨b ▸ hb.1, ?_, val_pos_of k2 (k3 h6)⟩
  refine k2.ge 1065353216 (by rw [s_inf]; decide) ?_
  rw [s_bin, show mg 8388608 1065353216 = 2 ^ 149 from mg_pw 0, Nat.mul_one]
  have h5 : ((2 ^ 149 : Nat) : Int) = 2 ^ 149 := rfl
  have : 2 ^ 149 ≤ vl Ieee.single x + vl Ieee.single y := h3
  omega
theorem one_one : Ge1 (fmul 1065353216 1065353216) := by
  obtain ⟨r, h1, h2⟩ := mul_res s_lp F_one F_one
  obtain ⟨a, b⟩ := okM_of h1
  refine b ▸ ⟨by have := h2.wd; rwa [s_wd] at this, ?_, val_pos_of h2 (by decide)⟩
  refine h2.ge 1065353216 (by rw [s_inf]; decide) ?_
  rw [s_bin, show mg 8388608 1065353216 = 2 ^ 149 from mg_pw 0]
  show _ ≤ mag 1065353216 * mag 1065353216
  rw [mag_one]
  exact Nat.le_refl _
theorem worth_ge1 {xs : List Nat} {f : Nat} (h : In1s xs) (hf : In1 f) (h0 : xs[0]?.getD 0 = 1065353216) : ∀ k, k < xs.length → k < 120 → Ge1 (worthAt xs f 0 (k + 1)).1
  | 0, hk, _ => by
    show Ge1 (if (0 : Int) ≤ ((0 : Nat) : Int) then fadd 0 (fmul (xs[0]?.getD 0) 1065353216) else 0)
    rw [if_pos (by decide), h0]
    have g := one_one
    exact add_ge1 (K := 1) (In1_zero.bd.mono (by decide)) ((mul_in1 In1_one In1_one).2.bd.mono (by decide)) (by decide) (by rw [val_zero]; decide) g.nn (by rw [val_zero]; have := val_ge g; omega)
  | k + 1, hk, hm => by
    have g := worth_ge1 h hf h0 k (by omega) (by omega)
    obtain ⟨b1, i2⟩ := worth_bd (wt := 0) h.bds hf (by decide) (k + 1) (by omega) (by omega)
    have i3 := (mul_in1 (h.at (k := k + 1) hk) i2).2
    show Ge1 (if (0 : Int) ≤ ((k + 1 : Nat) : Int) then fadd (worthAt xs f 0 (k + 1)).1 (fmul (xs[k + 1]?.getD 0) (worthAt xs f 0 (k + 1)).2) else (worthAt xs f 0 (k + 1)).1)
    rw [if_pos (by omega)]
    exact add_ge1 (K := 0 + (k + 1)) b1 (i3.bd.mono (by omega)) (by omega) g.nn i3.nn (by have := val_ge g; have := i3.nn; omega)
theorem annuity_ge1 {bs : List Nat} {r : Nat} (hz : F32s bs) (hq : r < 4294967296) (h : laterOk bs r 0 = true) : Ge1 (AnnuityValue_r0 bs r) ∧ F (AnnuityValue_r0 bs r) := by
  have hn := LaterValue_fin bs r 0 hz hq
  unfold AnnuityValue_r0
  unfold LaterValue_r0
  rw [if_pos h]
  simp [laterOk] at h
  have hin := tab_in1s hz h.1
  have hl := tab_len h.1
  have hi := share_in1 hq h.2.1
  refine ⟨?_, worthOf_fin (B := 0) (aliveTo_in1 hin).bds hi (by decide) (by rw [aliveTo_length]; exact hl.2)⟩
  unfold worthOf
  rw [aliveTo_length]
  obtain ⟨k, hk⟩ : ∃ k, bs.length = k + 1 := ⟨bs.length - 1, by omega⟩
  have := worth_ge1 (aliveTo_in1 hin) (factor_ok hi).2.2 (by rw [aliveTo_at bs bs.length 0 (by omega)]; rfl) k (by rw [aliveTo_length]; omega) (by omega)
  rw [hk] at this ⊢
  exact this
/-- the quotient of a fund and an annuity's value -/
theorem fund_ok {z : Int} {v : Nat} (h0 : 0 ≤ z) (h1 : z ≤ 1000000) (hv : Ge1 v) (hf : F v) : okD (ofI z) v ∧ Bd 20 (fdiv (ofI z) v) ∧ sn (fdiv (ofI z) v) = false := by
  have hb : Bd 20 (ofI z) := fint_bd (by decide) (by omega)
  have hm := hv.mag_ge
  have h9 : mag v ≠ 0 := by have := Nat.two_pow_pos 149; omega
  obtain ⟨o, b⟩ := fdiv_bd (K := 20) (hb.fin (by decide)) hf h9 (by decide) (Nat.mul_le_mul hb.mag_le hm)
  obtain ⟨r, k1, k2⟩ := div_res s_lp (hb.fin (by decide)) hf h9
  obtain ⟨c, d⟩ := okD_of k1
  refine ⟨o, b, ?_⟩
  rw [d]
  show sg _ r = false
  rw [k2.sgn]
  show (sn (ofI z) ^^ sn v) = false
  have hr : Res Ieee.single (decide (z < 0)) (z.natAbs * 2 ^ 149) 1 (ofI z) := int_res s_lp z
  have : sn (ofI z) = false := by
    show sg _ _ = false
    rw [hr.sgn]
    simp; omega
  rw [this, sn_of hv.nn h9]; rfl
end Go.Proofs.Ytefoebaoejoamaa
