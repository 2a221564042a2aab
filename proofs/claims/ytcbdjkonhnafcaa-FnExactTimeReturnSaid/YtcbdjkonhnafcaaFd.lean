/-
  FROM 32 BITS TO 64 BITS: finite stays finite, an infinity an infinity, a NaN a NaN; sameFloat of a word with itself. The words are plain; at the end the contracts of sameFloat.
-/
import Derived.Test.YtcbdjkonhnafcaaFs
import Derived.Test.YtcbdjkonhnafcaaFlt
namespace Go.Proofs.Ytcbdjkonhnafcaa
open Fl
open Go.ChangeShapes Go.WideShapes Go.ChangeAt Go.RowKit
set_option linter.unusedSimpArgs false
set_option linter.unusedVariables false

theorem d_lp : Ieee.double.leastPlace = -((1074 : Nat) : Int) := by decide
theorem d_bin : Ieee.double.binade = 4503599627370496 := by decide
theorem d_inf : Ieee.double.infRung = 9218868437227405312 := by decide

theorem pow_chain {x a c d e N : Nat} (hN : 2 ^ d = N) (h : x ≤ 2 ^ a) (he : a + c ≤ d + e) : x * 2 ^ c ≤ N * 2 ^ e := by
  subst hN
  refine Nat.le_trans (Nat.mul_le_mul_right _ h) ?_
  rw [← Nat.pow_add, ← Nat.pow_add]
  exact Nat.pow_le_pow_right (by decide) he
def wide (b : Nat) : Nat := (floatToFloatBits .f32 b .f64).getD 0
/-- the finite word in 64 bits -/
theorem wide_fin {b : Nat} (h : F b) : floatToFloatBits .f32 b .f64 = some (wide b) ∧ Fi Ieee.double (wide b) := by
  obtain ⟨m, e, hr, he, hm⟩ := read_fi h
  have hN := near Ieee.double (sg Ieee.single b) m e
  obtain ⟨E, hE⟩ : ∃ E : Nat, E = 1150 := ⟨_, rfl⟩
  obtain ⟨D, hD⟩ : ∃ D : Nat, D = 925 := ⟨_, rfl⟩
  have hle : rg Ieee.double (Ieee.double.nearest (sg Ieee.single b) m e) ≤ (E + 1) * 4503599627370496 := by
    refine hN.le 0 _ ?_ ?_ ?_
    · have := s_lp; have := d_lp; omega
    · rw [d_inf]; omega
    · rw [d_bin]
      have h1 : ∀ K, K = 128 → mag b ≤ 2 ^ (K + 149) := fun K hK => by
        have hb : rk b ≤ (K + 127) * 8388608 := by have := F_iff.1 h; omega
        rw [mag_eq, ← mg_pw]; exact mg_mono (by decide) hb
      have h2 := mg_at (P := 4503599627370496) (E := E) (F := 0) (by decide)
      rw [Nat.add_zero, Nat.add_zero] at h2
      have h3 : (e - Ieee.double.leastPlace + ((0 : Nat) : Int)).toNat = (e - Ieee.single.leastPlace).toNat + D := by have := s_lp; have := d_lp; omega
      rw [h3, Nat.pow_add 2 _ D, ← Nat.mul_assoc, ← hm]
      rw [h2, Nat.pow_zero, Nat.mul_one]
      exact pow_chain (d := 52) (by decide) (h1 128 rfl) (by omega)
  have hf : Fi Ieee.double (Ieee.double.nearest (sg Ieee.single b) m e) := by
    unfold Fi; rw [d_inf]; omega
  have hd : FloatKind.f32.decode b = .number (sg Ieee.single b) m e := hr
  have hni : (FloatKind.f64.decode (FloatKind.f64.encode (.number (sg Ieee.single b) m e))).isInfinity = false := by
    obtain ⟨m', e', hr', _⟩ := read_fi hf
    have : FloatKind.f64.decode (FloatKind.f64.encode (.number (sg Ieee.single b) m e)) = .number (sg Ieee.double (Ieee.double.nearest (sg Ieee.single b) m e)) m' e' := hr'
    rw [this]; rfl
  have hs : floatToFloatBits .f32 b .f64 = some (Ieee.double.nearest (sg Ieee.single b) m e) := by
    unfold floatToFloatBits
    rw [if_neg (by decide), hd]
    simp only [hni]
    rfl
  unfold wide
  rw [hs]
  exact ⟨rfl, hf⟩
theorem wide_inf {b : Nat} (h : rk b = 2139095040) : floatToFloatBits .f32 b .f64 = some (wide b) ∧ Ieee.double.read (wide b) = .infinity (sn b) := by
  have hd : FloatKind.f32.decode b = .infinity (sn b) := read_inf h
  have hs : floatToFloatBits .f32 b .f64 = some (Ieee.double.write (.infinity (sn b))) := by
    unfold floatToFloatBits
    rw [if_neg (by decide), hd]
    rfl
  unfold wide
  rw [hs]
  refine ⟨rfl, ?_⟩
  cases sn b <;> decide
theorem nan_iff {b : Nat} : nan32 b = true ↔ 2139095040 < rk b := by
  unfold nan32
  constructor
  · intro h
    rcases Nat.lt_trichotomy (rk b) 2139095040 with h1 | h1 | h1
    · obtain ⟨m, e, hr, _⟩ := read_fi (F_iff.2 h1)
      rw [hr] at h; simp [Ieee.Datum.isNaN] at h
    · rw [read_inf h1] at h; simp [Ieee.Datum.isNaN] at h
    · exact h1
  · intro h
    obtain ⟨s, t, hr⟩ := read_nan h
    rw [hr]; rfl
theorem F_nan {b : Nat} (h : F b) : nan32 b = false := by
  have := F_iff.1 h
  cases hn : nan32 b with
  | false => rfl
  | true => have := nan_iff.1 hn; omega
/-- a word of 64 bits that is a NaN -/
def nan64 (r : Nat) : Bool := (Ieee.double.read r).isNaN
theorem wide_not_nan {b : Nat} (h : nan32 b = false) : floatToFloatBits .f32 b .f64 = some (wide b) ∧ nan64 (wide b) = false := by
  rcases Nat.lt_trichotomy (rk b) 2139095040 with h1 | h1 | h1
  · obtain ⟨a, c⟩ := wide_fin (F_iff.2 h1)
    refine ⟨a, ?_⟩
    obtain ⟨m', e', hr', _⟩ := read_fi c
    unfold nan64; rw [hr']; rfl
  · obtain ⟨a, c⟩ := wide_inf h1
    refine ⟨a, ?_⟩
    unfold nan64; rw [c]; rfl
  · rw [nan_iff.2 h1] at h; cases h
/-- what the tape gives for a NaN is one -/
theorem cut_nan (k : FloatKind) (b t : Nat) (hk : k = .f64) : nan64 (Question.cut (.nanConv k b) t) = true := by
  subst hk
  unfold nan64
  have h1 : 9218868437227405312 < Question.cut (.nanConv .f64 b) t % 9223372036854775808 := by
    simp only [Question.cut]
    have hx : t / 2 % (2 ^ 52 - 1) < 2 ^ 52 - 1 := Nat.mod_lt _ (by decide)
    generalize t / 2 % (2 ^ 52 - 1) = x at hx ⊢
    rcases Nat.mod_two_eq_zero_or_one t with h | h <;> rw [h] <;> omega
  generalize Question.cut (.nanConv .f64 b) t = r at h1
  have h2 : 9218868437227405312 < r % Ieee.double.signWeight := by rw [show Ieee.double.signWeight = 9223372036854775808 by decide]; exact h1
  unfold Ieee.Format.read
  simp only
  rw [d_bin, d_inf, if_neg (by omega), if_neg (by omega), if_neg (by omega)]
  rfl
theorem d_nan_l {a b : Nat} (h : nan64 a = true) : Ieee.double.order a b = none := by
  unfold nan64 at h
  unfold Ieee.Format.order
  cases hr : Ieee.double.read a with
  | nan s t => rfl
  | infinity s => rw [hr] at h; simp [Ieee.Datum.isNaN] at h
  | number s m e => rw [hr] at h; simp [Ieee.Datum.isNaN] at h
theorem d_self {a : Nat} (h : nan64 a = false) : Ieee.double.order a a = some .eq := by
  unfold nan64 at h
  unfold Ieee.Format.order
  cases hr : Ieee.double.read a with
  | nan s t => rw [hr] at h; simp [Ieee.Datum.isNaN] at h
  | infinity s => simp [Ieee.Datum.order]
  | number s m e => simp [Ieee.Datum.order]
/-- 1 divided by a zero -/
def invZ (a : Nat) : Nat := (Ieee.double.div 4607182418800017408 a).getD 0
theorem inv_zero {a : Nat} (h : (Ieee.double.order a 0 == some .eq) = true) : Ieee.double.div 4607182418800017408 a = some (invZ a) := by
  have hz : Ieee.double.read 0 = .number false 0 (-1074) := by decide
  have ho : Ieee.double.read 4607182418800017408 = .number false 4503599627370496 (-52) := by decide
  unfold invZ Ieee.Format.div
  unfold Ieee.Format.order at h
  rw [hz] at h
  rw [ho]
  cases hr : Ieee.double.read a with
  | nan s t => rw [hr] at h; simp [Ieee.Datum.order] at h
  | infinity s => rw [hr] at h; cases s <;> simp [Ieee.Datum.order] at h
  | number s m e =>
    by_cases hm : m = 0
    · subst hm; simp [Ieee.Datum.quotient]
    · simp [Ieee.Datum.quotient, hm]
end Go.Proofs.Ytcbdjkonhnafcaa
