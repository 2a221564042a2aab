/-
  ROUNDING OF FLOATS: the rung of the nearest word lies where the exact number lies among the rungs. Plain Lean over the model's arithmetic, for every format.
-/
import Ieee.Arith
namespace Go.Proofs.Ytcbdjkonhnafcaa.Fl
open Ieee
set_option linter.unusedSimpArgs false
set_option linter.unusedVariables false

/-- the magnitude of a rung, in units of the least place -/
def mg (P : Nat) (b : Nat) : Nat := if b < P then b else (P + b % P) * 2 ^ (b / P - 1)

theorem mg_low {P b : Nat} (h : b < P) : mg P b = b := if_pos h
theorem mg_high {P b : Nat} (h : ¬ b < P) : mg P b = (P + b % P) * 2 ^ (b / P - 1) := if_neg h
/-- a rung by its exponent and its fraction -/
theorem mg_at {P E F : Nat} (hF : F < P) : mg P ((E + 1) * P + F) = (P + F) * 2 ^ E := by
  have h : ¬ (E + 1) * P + F < P := by rw [Nat.add_mul]; omega
  rw [mg_high h]
  have h1 : ((E + 1) * P + F) % P = F := by rw [Nat.add_comm, Nat.add_mul_mod_self_right]; exact Nat.mod_eq_of_lt hF
  have h2 : ((E + 1) * P + F) / P = E + 1 := by rw [Nat.add_comm, Nat.add_mul_div_right _ _ (by omega), Nat.div_eq_of_lt hF, Nat.zero_add]
  rw [h1, h2, Nat.add_sub_cancel]
theorem rung_parts {P : Nat} (hP : 0 < P) (b : Nat) : b < P ∨ ∃ E F, F < P ∧ b = (E + 1) * P + F := by
  by_cases h : b < P
  · exact .inl h
  · refine .inr ⟨b / P - 1, b % P, Nat.mod_lt _ hP, ?_⟩
    have h1 := Nat.div_add_mod b P
    have h2 : 1 ≤ b / P := (Nat.one_le_div_iff hP).2 (by omega)
    rw [Nat.sub_add_cancel h2, Nat.mul_comm]
    exact h1.symm
theorem mg_succ {P : Nat} (hP : 0 < P) (b : Nat) : mg P b ≤ mg P (b + 1) := by
  rcases rung_parts hP b with h | ⟨E, F, hF, rfl⟩
  · rw [mg_low h]
    by_cases h1 : b + 1 < P
    · rw [mg_low h1]; omega
    · have e : b + 1 = (0 + 1) * P + 0 := by omega
      rw [e, mg_at hP]; simp; omega
  · rw [mg_at hF]
    by_cases h1 : F + 1 < P
    · rw [Nat.add_assoc, mg_at h1]
      exact Nat.mul_le_mul_right _ (by omega)
    · have e : (E + 1) * P + F + 1 = ((E + 1) + 1) * P + 0 := by rw [Nat.add_mul (E + 1)]; omega
      rw [e, mg_at hP, Nat.pow_succ, Nat.add_zero, ← Nat.mul_assoc, Nat.mul_right_comm]
      exact Nat.mul_le_mul_right _ (by omega)
theorem mg_mono {P : Nat} (hP : 0 < P) {a b : Nat} (h : a ≤ b) : mg P a ≤ mg P b := by
  induction b with
  | zero => obtain rfl : a = 0 := by omega
            exact Nat.le_refl _
  | succ b ih =>
    by_cases e : a = b + 1
    · rw [e]; exact Nat.le_refl _
    · exact Nat.le_trans (ih (by omega)) (mg_succ hP b)

theorem cut_le {neg : Bool} {n drop q : Nat} (h : n ≤ q * 2 ^ drop) : Toward.even.cut neg n drop ≤ q := by
  unfold Toward.cut
  simp only
  by_cases hd : drop ≤ n.log2 + 2
  · rw [Nat.min_eq_left hd, Nat.one_shiftLeft]
    have hp : 0 < 2 ^ drop := Nat.two_pow_pos _
    have hdm := Nat.div_add_mod n (2 ^ drop)
    have hlow : n / 2 ^ drop ≤ q := Nat.div_le_of_le_mul (by rw [Nat.mul_comm]; exact h)
    by_cases hq : n / 2 ^ drop = q
    · have hr : n % 2 ^ drop = 0 := by
        rw [hq] at hdm
        have : 2 ^ drop * q = q * 2 ^ drop := Nat.mul_comm _ _
        omega
      rw [hr, hq]
      have : ¬ 2 ^ drop < 2 * 0 := by omega
      have h2 : (2 ^ drop == 0) = false := by simp
      simp [h2]
    · have : ∀ b : Bool, b.toNat ≤ 1 := fun b => by cases b <;> decide
      have h1 := this (decide (2 ^ drop < 2 * (n % 2 ^ drop)) || (2 ^ drop == 2 * (n % 2 ^ drop) && n / 2 ^ drop % 2 == 1))
      omega
  · rw [Nat.min_eq_right (by omega), Nat.one_shiftLeft]
    have hn : n < 2 ^ (n.log2 + 1) := Nat.lt_log2_self
    have hg : 2 ^ (n.log2 + 2) = 2 * 2 ^ (n.log2 + 1) := by rw [Nat.pow_succ, Nat.mul_comm]
    have h0 : n / 2 ^ (n.log2 + 2) = 0 := Nat.div_eq_of_lt (by omega)
    have h1 : n % 2 ^ (n.log2 + 2) = n := Nat.mod_eq_of_lt (by omega)
    rw [h0, h1]
    have a : ¬ 2 ^ (n.log2 + 2) < 2 * n := by omega
    have b : ¬ 2 ^ (n.log2 + 2) = 2 * n := by omega
    have b2 : (2 ^ (n.log2 + 2) == 2 * n) = false := by simpa using b
    simp [a, b2]
theorem cut_ge {neg : Bool} {n drop q : Nat} (h : q * 2 ^ drop ≤ n) : q ≤ Toward.even.cut neg n drop := by
  unfold Toward.cut
  simp only
  by_cases hd : drop ≤ n.log2 + 2
  · rw [Nat.min_eq_left hd, Nat.one_shiftLeft]
    have : q ≤ n / 2 ^ drop := (Nat.le_div_iff_mul_le (Nat.two_pow_pos _)).2 h
    omega
  · have hn : n < 2 ^ (n.log2 + 1) := Nat.lt_log2_self
    have hg : 2 ^ (n.log2 + 1) ≤ 2 ^ drop := Nat.pow_le_pow_right (by decide) (by omega)
    have : q = 0 := by
      rcases Nat.eq_zero_or_pos q with h0 | h0
      · exact h0
      · have : 1 * 2 ^ drop ≤ q * 2 ^ drop := Nat.mul_le_mul_right _ h0
        omega
    rw [this]; exact Nat.zero_le _

/-- the rung before infinity is laid over it -/
def rungOf (f : Format) (neg : Bool) (m : Nat) (place : Int) : Nat :=
  let last := max (place + m.log2 - f.fractionBits) f.leastPlace
  (last - f.leastPlace).toNat * f.binade + Toward.even.cut neg (m <<< (place - last).toNat) (last - place).toNat
theorem nearest_eq {f : Format} {neg : Bool} {m : Nat} {place : Int} (h : m ≠ 0) : f.nearest neg m place = f.word neg (min (rungOf f neg m place) f.infRung) := by
  unfold Format.nearest rungOf
  rw [if_neg h]

/-- in units of 2^last: an inequality on the number is one on what is cut -/
theorem units_le {m q : Nat} {place last lp : Int} {S L : Nat} (hL : last - lp = L) (hS : 0 ≤ place - lp + S) (h : m * 2 ^ (place - lp + S).toNat ≤ q * 2 ^ (L + S)) :
    m <<< (place - last).toNat ≤ q * 2 ^ (last - place).toNat := by
  rw [Nat.shiftLeft_eq]
  by_cases c : last ≤ place
  · have e1 : (last - place).toNat = 0 := by omega
    have e2 : (place - lp + S).toNat = (place - last).toNat + (L + S) := by omega
    rw [e2, Nat.pow_add 2 (place - last).toNat, ← Nat.mul_assoc] at h
    rw [e1, Nat.pow_zero, Nat.mul_one]
    exact Nat.le_of_mul_le_mul_right h (Nat.two_pow_pos _)
  · have e1 : (place - last).toNat = 0 := by omega
    have e2 : L + S = (last - place).toNat + (place - lp + S).toNat := by omega
    rw [e2, Nat.pow_add 2 (last - place).toNat, ← Nat.mul_assoc] at h
    rw [e1, Nat.pow_zero, Nat.mul_one]
    exact Nat.le_of_mul_le_mul_right h (Nat.two_pow_pos _)
theorem units_ge {m q : Nat} {place last lp : Int} {S L : Nat} (hL : last - lp = L) (hS : 0 ≤ place - lp + S) (h : q * 2 ^ (L + S) ≤ m * 2 ^ (place - lp + S).toNat) :
    q * 2 ^ (last - place).toNat ≤ m <<< (place - last).toNat := by
  rw [Nat.shiftLeft_eq]
  by_cases c : last ≤ place
  · have e1 : (last - place).toNat = 0 := by omega
    have e2 : (place - lp + S).toNat = (place - last).toNat + (L + S) := by omega
    rw [e2, Nat.pow_add 2 (place - last).toNat, ← Nat.mul_assoc] at h
    rw [e1, Nat.pow_zero, Nat.mul_one]
    exact Nat.le_of_mul_le_mul_right h (Nat.two_pow_pos _)
  · have e1 : (place - last).toNat = 0 := by omega
    have e2 : L + S = (last - place).toNat + (place - lp + S).toNat := by omega
    rw [e2, Nat.pow_add 2 (last - place).toNat, ← Nat.mul_assoc] at h
    rw [e1, Nat.pow_zero, Nat.mul_one]
    exact Nat.le_of_mul_le_mul_right h (Nat.two_pow_pos _)

section
variable {f : Format} {neg : Bool} {m : Nat} {place : Int} {S : Nat}
/-- what is kept has at most one digit more than the fraction -/
theorem kept_le (h : m ≠ 0) : Toward.even.cut neg (m <<< (place - max (place + m.log2 - f.fractionBits) f.leastPlace).toNat) (max (place + (m.log2 : Int) - f.fractionBits) f.leastPlace - place).toNat ≤ 2 * f.binade := by
  refine cut_le ?_
  have e2 : m < 2 ^ (m.log2 + 1) := Nat.lt_log2_self
  have hb : 2 * f.binade = 2 ^ (f.fractionBits + 1) := by unfold Format.binade; rw [Nat.pow_succ, Nat.mul_comm]
  rw [hb, Nat.shiftLeft_eq, ← Nat.pow_add]
  refine Nat.le_trans (Nat.mul_le_mul_right _ (Nat.le_of_lt e2)) ?_
  rw [← Nat.pow_add]
  exact Nat.pow_le_pow_right (by decide) (by omega)
theorem kept_ge (h : m ≠ 0) (hl : f.leastPlace < place + m.log2 - f.fractionBits) : f.binade ≤ Toward.even.cut neg (m <<< (place - max (place + m.log2 - f.fractionBits) f.leastPlace).toNat) (max (place + (m.log2 : Int) - f.fractionBits) f.leastPlace - place).toNat := by
  refine cut_ge ?_
  have e1 : 2 ^ m.log2 ≤ m := Nat.log2_self_le h
  have hb : f.binade = 2 ^ f.fractionBits := rfl
  rw [hb, Nat.shiftLeft_eq, ← Nat.pow_add]
  refine Nat.le_trans ?_ (Nat.mul_le_mul_right _ e1)
  rw [← Nat.pow_add]
  exact Nat.pow_le_pow_right (by decide) (by omega)

/-- THE LAW OF ROUNDING: what lies at or below a rung is rounded to it or below -/
theorem rungOf_le (h : m ≠ 0) (hS : 0 ≤ place - f.leastPlace + S) {b : Nat} (hb : m * 2 ^ (place - f.leastPlace + S).toNat ≤ mg f.binade b * 2 ^ S) : rungOf f neg m place ≤ b := by
  have hP : 0 < f.binade := Nat.two_pow_pos _
  have hbin : f.binade = 2 ^ f.fractionBits := rfl
  have hk := kept_le (f := f) (neg := neg) (place := place) h
  have hk2 := kept_ge (f := f) (neg := neg) (place := place) h
  have e1 : 2 ^ m.log2 ≤ m := Nat.log2_self_le h
  unfold rungOf
  simp only
  generalize hlast : max (place + (m.log2 : Int) - f.fractionBits) f.leastPlace = last at *
  obtain ⟨L, hL⟩ : ∃ L : Nat, last - f.leastPlace = L := ⟨(last - f.leastPlace).toNat, by omega⟩
  have hLn : (last - f.leastPlace).toNat = L := by omega
  rw [hLn]
  have key : ∀ q, mg f.binade b = q * 2 ^ L → Toward.even.cut neg (m <<< (place - last).toNat) (last - place).toNat ≤ q := fun q hq =>
    cut_le (units_le hL hS (by rw [hq] at hb; rw [Nat.pow_add, ← Nat.mul_assoc]; exact hb))
  -- where digits are cut off the number is at least a whole binade
  have big : 0 < L → f.binade * 2 ^ (L + S) ≤ m * 2 ^ (place - f.leastPlace + S).toNat := fun hp => by
    refine Nat.le_trans ?_ (Nat.mul_le_mul_right _ e1)
    rw [hbin, ← Nat.pow_add, ← Nat.pow_add]
    exact Nat.pow_le_pow_right (by decide) (by omega)
  rcases rung_parts hP b with hlow | ⟨E, F, hF, rfl⟩
  · rw [mg_low hlow] at hb key
    by_cases h0 : L = 0
    · subst h0
      have := key b (by simp)
      omega
    · have h2 := big (by omega)
      have h3 : b * 2 ^ S < f.binade * 2 ^ (L + S) := by
        rw [Nat.pow_add, ← Nat.mul_assoc]
        refine Nat.mul_lt_mul_of_pos_right ?_ (Nat.two_pow_pos _)
        have : f.binade * 1 ≤ f.binade * 2 ^ L := Nat.mul_le_mul_left _ (Nat.two_pow_pos _)
        omega
      omega
  · rw [mg_at hF] at hb key
    by_cases hE : L ≤ E
    · have hq := key ((f.binade + F) * 2 ^ (E - L)) (by rw [Nat.mul_assoc, ← Nat.pow_add]; congr 2; omega)
      by_cases hEL : E = L
      · subst hEL
        simp at hq
        rw [Nat.add_mul]
        omega
      · have : (L + 2) * f.binade ≤ (E + 1) * f.binade := Nat.mul_le_mul_right _ (by omega)
        rw [Nat.add_mul] at this
        omega
    · have h2 := big (by omega)
      have h3 : (f.binade + F) * 2 ^ E * 2 ^ S < f.binade * 2 ^ (L + S) := by
        rw [Nat.pow_add, ← Nat.mul_assoc]
        refine Nat.mul_lt_mul_of_pos_right ?_ (Nat.two_pow_pos _)
        have a1 : (f.binade + F) * 2 ^ E < 2 * f.binade * 2 ^ E := Nat.mul_lt_mul_of_pos_right (by omega) (Nat.two_pow_pos _)
        have a2 : 2 * f.binade * 2 ^ E = f.binade * 2 ^ (E + 1) := by rw [Nat.pow_succ]; simp only [Nat.mul_comm, Nat.mul_left_comm, Nat.mul_assoc]
        have a3 : f.binade * 2 ^ (E + 1) ≤ f.binade * 2 ^ L := Nat.mul_le_mul_left _ (Nat.pow_le_pow_right (by decide) (by omega))
        omega
      omega
/-- what lies at or above a rung is rounded to it or above -/
theorem rungOf_ge (h : m ≠ 0) (hS : 0 ≤ place - f.leastPlace + S) {b : Nat} (hb : mg f.binade b * 2 ^ S ≤ m * 2 ^ (place - f.leastPlace + S).toNat) : b ≤ rungOf f neg m place := by
  have hP : 0 < f.binade := Nat.two_pow_pos _
  have hbin : f.binade = 2 ^ f.fractionBits := rfl
  have hk := kept_le (f := f) (neg := neg) (place := place) h
  have hk2 := kept_ge (f := f) (neg := neg) (place := place) h
  have e2 : m < 2 ^ (m.log2 + 1) := Nat.lt_log2_self
  unfold rungOf
  simp only
  generalize hlast : max (place + (m.log2 : Int) - f.fractionBits) f.leastPlace = last at *
  obtain ⟨L, hL⟩ : ∃ L : Nat, last - f.leastPlace = L := ⟨(last - f.leastPlace).toNat, by omega⟩
  have hLn : (last - f.leastPlace).toNat = L := by omega
  rw [hLn]
  have key : ∀ q, mg f.binade b = q * 2 ^ L → q ≤ Toward.even.cut neg (m <<< (place - last).toNat) (last - place).toNat := fun q hq =>
    cut_ge (units_ge hL hS (by rw [hq] at hb; rw [Nat.pow_add, ← Nat.mul_assoc]; exact hb))
  have small : m * 2 ^ (place - f.leastPlace + S).toNat < 2 * f.binade * 2 ^ (L + S) := by
    refine Nat.lt_of_lt_of_le (Nat.mul_lt_mul_of_pos_right e2 (Nat.two_pow_pos _)) ?_
    rw [hbin, ← Nat.pow_add, show 2 * 2 ^ f.fractionBits = 2 ^ (f.fractionBits + 1) by rw [Nat.pow_succ, Nat.mul_comm], ← Nat.pow_add]
    exact Nat.pow_le_pow_right (by decide) (by omega)
  rcases rung_parts hP b with hlow | ⟨E, F, hF, rfl⟩
  · rw [mg_low hlow] at hb key
    by_cases h0 : L = 0
    · subst h0
      have := key b (by simp)
      omega
    · have : 1 * f.binade ≤ L * f.binade := Nat.mul_le_mul_right _ (by omega)
      omega
  · rw [mg_at hF] at hb key
    by_cases hE : L ≤ E
    · have hq := key ((f.binade + F) * 2 ^ (E - L)) (by rw [Nat.mul_assoc, ← Nat.pow_add]; congr 2; omega)
      by_cases hEL : E = L
      · subst hEL
        simp at hq
        rw [Nat.add_mul]
        omega
      · exfalso
        have a1 : 2 * f.binade * 2 ^ (L + S) ≤ (f.binade + F) * 2 ^ E * 2 ^ S := by
          rw [Nat.pow_add, ← Nat.mul_assoc]
          refine Nat.mul_le_mul_right _ ?_
          have a2 : 2 * f.binade * 2 ^ L = f.binade * 2 ^ (L + 1) := by rw [Nat.pow_succ]; simp only [Nat.mul_comm, Nat.mul_left_comm, Nat.mul_assoc]
          rw [a2]
          exact Nat.mul_le_mul (by omega) (Nat.pow_le_pow_right (by decide) (by omega))
        omega
    · have h3 := hk2 (by omega)
      have : (E + 1) * f.binade + f.binade ≤ (L + 1) * f.binade := by rw [← Nat.succ_mul]; exact Nat.mul_le_mul_right _ (by omega)
      rw [Nat.add_mul L] at this
      omega
end
end Go.Proofs.Ytcbdjkonhnafcaa.Fl
