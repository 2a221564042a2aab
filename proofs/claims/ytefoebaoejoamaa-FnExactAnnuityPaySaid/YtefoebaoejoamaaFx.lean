/-
  EXACT FLOATS: a short number is written exactly; the whole part of a finite word. Plain Lean, for every format.
-/
import Derived.Test.YtefoebaoejoamaaFq
namespace Go.Proofs.Ytefoebaoejoamaa.Fl
open Ieee
set_option linter.unusedSimpArgs false
set_option linter.unusedVariables false

theorem cut_zero (n : Nat) (neg : Bool) : Toward.even.cut neg n 0 = n := by
  unfold Toward.cut
  simp [Nat.mod_one]
/-- a number of few digits is written exactly -/
theorem nearest_exact {f : Format} {neg : Bool} {m : Nat} {place : Int} (h0 : m ≠ 0) (hm : m < 2 * f.binade) (hp : f.leastPlace ≤ place) (hi : rungOf f neg m place < f.infRung) :
    vm f (f.nearest neg m place) = m * 2 ^ (place - f.leastPlace).toNat := by
  have hP : 0 < f.binade := binade_pos f
  have hw := word_parts (f := f) (neg := neg) (R := min (rungOf f neg m place) f.infRung) (Nat.min_le_right _ _)
  unfold vm
  rw [nearest_eq h0, hw.1, Nat.min_eq_left (Nat.le_of_lt hi)]
  have hb : 2 * f.binade = 2 ^ (f.fractionBits + 1) := by unfold Format.binade; rw [Nat.pow_succ, Nat.mul_comm]
  have hl : m.log2 ≤ f.fractionBits := by
    have : m < 2 ^ (f.fractionBits + 1) := by rw [← hb]; exact hm
    have := (Nat.log2_lt h0).2 this
    omega
  have e1 : 2 ^ m.log2 ≤ m := Nat.log2_self_le h0
  have e2 : m < 2 ^ (m.log2 + 1) := Nat.lt_log2_self
  unfold rungOf
  simp only
  have hlast : max (place + (m.log2 : Int) - f.fractionBits) f.leastPlace ≤ place := by omega
  have hge : f.leastPlace ≤ max (place + (m.log2 : Int) - f.fractionBits) f.leastPlace := by omega
  have hcase : max (place + (m.log2 : Int) - f.fractionBits) f.leastPlace = f.leastPlace ∨ max (place + (m.log2 : Int) - f.fractionBits) f.leastPlace = place + (m.log2 : Int) - f.fractionBits := by omega
  have hup : place + (m.log2 : Int) - f.fractionBits ≤ max (place + (m.log2 : Int) - f.fractionBits) f.leastPlace := by omega
  generalize max (place + (m.log2 : Int) - f.fractionBits) f.leastPlace = last at *
  have ed : (last - place).toNat = 0 := by omega
  rw [ed, cut_zero, Nat.shiftLeft_eq]
  obtain ⟨L, hL⟩ : ∃ L : Nat, last - f.leastPlace = L := ⟨(last - f.leastPlace).toNat, by omega⟩
  obtain ⟨D, hD⟩ : ∃ D : Nat, place - last = D := ⟨(place - last).toNat, by omega⟩
  have eL : (last - f.leastPlace).toNat = L := by omega
  have eD : (place - last).toNat = D := by omega
  have eT : (place - f.leastPlace).toNat = D + L := by omega
  rw [eL, eD, eT, Nat.pow_add, ← Nat.mul_assoc]
  have hK2 : m * 2 ^ D < 2 * f.binade := by
    rw [hb]
    refine Nat.lt_of_lt_of_le (Nat.mul_lt_mul_of_pos_right e2 (Nat.two_pow_pos _)) ?_
    rw [← Nat.pow_add]
    exact Nat.pow_le_pow_right (by decide) (by omega)
  have hK1 : 0 < L → f.binade ≤ m * 2 ^ D := fun hpos => by
    refine Nat.le_trans ?_ (Nat.mul_le_mul_right _ e1)
    show 2 ^ f.fractionBits ≤ _
    rw [← Nat.pow_add]
    exact Nat.pow_le_pow_right (by decide) (by omega)
  generalize m * 2 ^ D = K at *
  by_cases hKP : K < f.binade
  · have : L = 0 := by
      rcases Nat.eq_zero_or_pos L with h | h
      · exact h
      · have := hK1 h; omega
    subst this
    rw [Nat.zero_mul, Nat.zero_add, mg_low hKP]; simp
  · have e : L * f.binade + K = (L + 1) * f.binade + (K - f.binade) := by rw [Nat.add_mul]; omega
    rw [e, mg_at (by omega)]
    congr 1
    omega
theorem cut_trunc {way : Toward} {neg : Bool} {n drop : Nat} (h : way = .zero ∨ (way = .down ∧ neg = false)) : way.cut neg n drop = n / 2 ^ drop := by
  have e : n / (1 <<< min drop (n.log2 + 2)) = n / 2 ^ drop := by
    rw [Nat.one_shiftLeft]
    by_cases hd : drop ≤ n.log2 + 2
    · rw [Nat.min_eq_left hd]
    · have hn : n < 2 ^ (n.log2 + 1) := Nat.lt_log2_self
      rw [Nat.min_eq_right (by omega), Nat.div_eq_of_lt (Nat.lt_of_lt_of_le hn (Nat.pow_le_pow_right (by decide) (by omega))), Nat.div_eq_of_lt (Nat.lt_of_lt_of_le hn (Nat.pow_le_pow_right (by decide) (by omega)))]
  unfold Toward.cut
  rcases h with rfl | ⟨rfl, rfl⟩ <;> simp [e]
/-- the whole part in units of the least place -/
theorem whole_eq {m : Nat} {e lp : Int} {T : Nat} (hT : lp = -(T : Int)) (he : lp ≤ e) : (m <<< e.toNat) / 2 ^ (-e).toNat = m * 2 ^ (e - lp).toNat / 2 ^ T := by
  rw [Nat.shiftLeft_eq]
  by_cases h : 0 ≤ e
  · have e1 : (-e).toNat = 0 := by omega
    have e2 : (e - lp).toNat = e.toNat + T := by omega
    rw [e1, e2, Nat.pow_zero, Nat.div_one, Nat.pow_add, ← Nat.mul_assoc, Nat.mul_div_cancel _ (Nat.two_pow_pos _)]
  · have e1 : e.toNat = 0 := by omega
    have e2 : T = (e - lp).toNat + (-e).toNat := by omega
    rw [e1, Nat.pow_zero, Nat.mul_one, e2, Nat.pow_add]
    generalize (e - lp).toNat = a
    rw [Nat.mul_comm m, Nat.mul_div_mul_left _ _ (Nat.two_pow_pos _)]
theorem integral_fi {f : Format} {b T : Nat} {way : Toward} (hT : f.leastPlace = -(T : Int)) (h : Fi f b) (hs : sg f b = false) (hw : way = .zero ∨ way = .down) :
    (f.read b).integral way = .number false (vm f b / 2 ^ T) 0 := by
  obtain ⟨m, e, hr, he, hm⟩ := read_fi h
  rw [hr, hs]
  simp only [Datum.integral]
  rw [cut_trunc (by rcases hw with h | h <;> simp [h]), whole_eq hT he, ← hm]
theorem toInt_fi {f : Format} {b T : Nat} (hT : f.leastPlace = -(T : Int)) (h : Fi f b) (hs : sg f b = false) : (f.read b).toInt .zero = some ((vm f b / 2 ^ T : Nat) : Int) := by
  unfold Datum.toInt
  rw [integral_fi hT h hs (.inl rfl)]
  simp [signed]
end Go.Proofs.Ytefoebaoejoamaa.Fl
