/-
  WHAT A SUM, A PRODUCT, A QUOTIENT OF FINITE FLOATS IS: the nearest word; where it lies among the rungs. Plain Lean, for every format.
-/
import Derived.Test.YtcbdjkonhnafcaaFr
import Derived.Laws.FloatBits
namespace Go.Proofs.Ytcbdjkonhnafcaa.Fl
open Ieee
set_option linter.unusedSimpArgs false
set_option linter.unusedVariables false

def rg (f : Format) (b : Nat) : Nat := b % f.signWeight
def sg (f : Format) (b : Nat) : Bool := b / f.signWeight % 2 == 1
/-- a finite word -/
def Fi (f : Format) (b : Nat) : Prop := rg f b < f.infRung
/-- its magnitude, its value, in units of the least place -/
def vm (f : Format) (b : Nat) : Nat := mg f.binade (rg f b)
def vl (f : Format) (b : Nat) : Int := if sg f b then -(vm f b : Int) else vm f b

theorem binade_pos (f : Format) : 0 < f.binade := Nat.two_pow_pos _
theorem word_parts {f : Format} {neg : Bool} {R : Nat} (h : R ≤ f.infRung) : rg f (f.word neg R) = R ∧ sg f (f.word neg R) = neg := by
  have hlt : R < f.signWeight := Nat.lt_of_le_of_lt h f.infRung_lt
  have hw : 0 < f.signWeight := by omega
  unfold rg sg Format.word
  cases neg
  · simp [Nat.mod_eq_of_lt hlt, Nat.div_eq_of_lt hlt]
  · have h1 : (f.signWeight + R) % f.signWeight = R := by rw [Nat.add_mod_left, Nat.mod_eq_of_lt hlt]
    have h2 : (f.signWeight + R) / f.signWeight = 1 := by rw [Nat.add_div_left _ hw, Nat.div_eq_of_lt hlt]
    simp [h1, h2]

theorem read_fi {f : Format} {b : Nat} (h : Fi f b) : ∃ (m : Nat) (e : Int), f.read b = .number (sg f b) m e ∧ f.leastPlace ≤ e ∧ vm f b = m * 2 ^ (e - f.leastPlace).toNat := by
  unfold Fi rg at h
  unfold Format.read vm rg sg mg
  simp only
  by_cases h1 : b % f.signWeight < f.binade
  · rw [if_pos h1, if_pos h1]
    exact ⟨_, _, rfl, Int.le_refl _, by simp⟩
  · rw [if_neg h1, if_pos h, if_neg h1]
    refine ⟨_, _, rfl, by omega, ?_⟩
    congr 2
    omega

/-- a word that stands for the rounding of m * 2^place, with a sign -/
structure Near (f : Format) (neg : Bool) (m : Nat) (place : Int) (r : Nat) : Prop where
  wd : r < 2 ^ f.width
  le : ∀ (S b : Nat), 0 ≤ place - f.leastPlace + S → b < f.infRung → m * 2 ^ (place - f.leastPlace + S).toNat ≤ mg f.binade b * 2 ^ S → rg f r ≤ b
  ge : ∀ (S b : Nat), 0 ≤ place - f.leastPlace + S → b ≤ f.infRung → mg f.binade b * 2 ^ S ≤ m * 2 ^ (place - f.leastPlace + S).toNat → b ≤ rg f r
  sgn : sg f r = neg
  top : rg f r ≤ f.infRung

theorem mg_zero (P : Nat) (h : 0 < P) {b : Nat} (h0 : mg P b = 0) : b = 0 := by
  rcases rung_parts h b with h1 | ⟨E, F, hF, rfl⟩
  · rwa [mg_low h1] at h0
  · rw [mg_at hF] at h0
    have : 0 < (P + F) * 2 ^ E := Nat.mul_pos (by omega) (Nat.two_pow_pos _)
    omega
theorem near (f : Format) (neg : Bool) (m : Nat) (place : Int) : Near f neg m place (f.nearest neg m place) := by
  by_cases h0 : m = 0
  · subst h0
    have e : f.nearest neg 0 place = f.word neg 0 := by unfold Format.nearest; rw [if_pos rfl]
    have hp := word_parts (f := f) (neg := neg) (R := 0) (Nat.zero_le _)
    refine ⟨f.nearest_lt _ _ _, ?_, ?_, ?_, ?_⟩ <;> rw [e]
    · intro S b _ _ _; rw [hp.1]; exact Nat.zero_le _
    · intro S b _ _ hb
      rw [Nat.zero_mul] at hb
      have h2 : mg f.binade b = 0 := by
        rcases Nat.eq_zero_or_pos (mg f.binade b) with h | h
        · exact h
        · have := Nat.mul_pos h (Nat.two_pow_pos S); omega
      rw [mg_zero _ (binade_pos f) h2]; exact Nat.zero_le _
    · exact hp.2
    · rw [hp.1]; exact Nat.zero_le _
  · have e := nearest_eq (f := f) (neg := neg) (place := place) h0
    have hp := word_parts (f := f) (neg := neg) (R := min (rungOf f neg m place) f.infRung) (Nat.min_le_right _ _)
    refine ⟨f.nearest_lt _ _ _, ?_, ?_, ?_, ?_⟩ <;> rw [e]
    · intro S b hS _ hb; rw [hp.1]; exact Nat.le_trans (Nat.min_le_left _ _) (rungOf_le h0 hS hb)
    · intro S b hS hi hb; rw [hp.1]; exact Nat.le_min.2 ⟨rungOf_ge h0 hS hb, hi⟩
    · exact hp.2
    · rw [hp.1]; exact Nat.min_le_right _ _

theorem signed_eq (s : Bool) (m k : Nat) : signed s m k = if s then -((m * 2 ^ k : Nat) : Int) else ((m * 2 ^ k : Nat) : Int) := by
  unfold signed; rw [Nat.shiftLeft_eq]
/-- the value of a number, in units of a lower place -/
theorem vl_of {f : Format} {b m : Nat} {e : Int} {k u : Nat} (hv : vm f b = m * 2 ^ (e - f.leastPlace).toNat) (hk : (e - f.leastPlace).toNat = k + u) : vl f b = signed (sg f b) m k * (2 ^ u : Nat) := by
  unfold vl
  rw [signed_eq, hv, hk, Nat.pow_add]
  cases sg f b <;> simp [Int.mul_assoc, Int.neg_mul]

theorem natAbs_mul_pow (t : Int) (u : Nat) : (t * ((2 ^ u : Nat) : Int)).natAbs = t.natAbs * 2 ^ u := by
  rw [Int.natAbs_mul, Int.natAbs_natCast]
/-- THE SUM of two finite words -/
theorem sum_near {f : Format} {x y : Nat} (hx : Fi f x) (hy : Fi f y) :
    ∃ (r : Nat) (neg : Bool) (n : Nat) (place : Int), f.add x y = some r ∧ Near f neg n place r ∧ f.leastPlace ≤ place ∧ n * 2 ^ (place - f.leastPlace).toNat = (vl f x + vl f y).natAbs ∧
      (0 < vl f x + vl f y → neg = false) ∧ (vl f x + vl f y < 0 → neg = true) ∧ (vl f x + vl f y = 0 → neg = (sg f x && sg f y)) := by
  obtain ⟨m, i, rx, hi, hm⟩ := read_fi hx
  obtain ⟨n, j, ry, hj, hn⟩ := read_fi hy
  unfold Format.add
  rw [rx, ry]
  simp only [Datum.sum, Option.map_some, Format.write]
  obtain ⟨u, hu⟩ : ∃ u : Nat, min i j - f.leastPlace = u := ⟨(min i j - f.leastPlace).toNat, by omega⟩
  have ex := vl_of (f := f) (b := x) (k := (i - min i j).toNat) (u := u) hm (by omega)
  have ey := vl_of (f := f) (b := y) (k := (j - min i j).toNat) (u := u) hn (by omega)
  generalize signed (sg f x) m (i - min i j).toNat = t1 at *
  generalize signed (sg f y) n (j - min i j).toNat = t2 at *
  have hp : (0 : Int) < ((2 ^ u : Nat) : Int) := by have := Nat.two_pow_pos u; omega
  have es : vl f x + vl f y = (t1 + t2) * ((2 ^ u : Nat) : Int) := by rw [ex, ey, Int.add_mul]
  refine ⟨_, _, _, _, rfl, near f _ _ _, by omega, ?_, ?_, ?_, ?_⟩
  · rw [es, natAbs_mul_pow]
    congr 2
    omega
  · intro h
    rw [es] at h
    have h2 : 0 < t1 + t2 := by
      rcases Int.lt_or_le 0 (t1 + t2) with h3 | h3
      · exact h3
      · have := Int.mul_nonpos_of_nonpos_of_nonneg h3 (Int.le_of_lt hp); omega
    rw [if_neg (by omega)]
    simpa using Int.le_of_lt h2
  · intro h
    rw [es] at h
    have h2 : t1 + t2 < 0 := by
      rcases Int.lt_or_le (t1 + t2) 0 with h3 | h3
      · exact h3
      · have := Int.mul_nonneg h3 (Int.le_of_lt hp); omega
    rw [if_neg (by omega)]
    simpa using h2
  · intro h
    rw [es] at h
    have h2 : t1 + t2 = 0 := by
      rcases Int.mul_eq_zero.1 h with h3 | h3
      · exact h3
      · omega
    rw [if_pos h2]
theorem opp_fi {f : Format} {y : Nat} (h : Fi f y) : ∃ (m : Nat) (e : Int), (f.read y).opposite = .number (!sg f y) m e ∧ f.leastPlace ≤ e ∧ vm f y = m * 2 ^ (e - f.leastPlace).toNat := by
  obtain ⟨m, i, rx, hi, hm⟩ := read_fi h
  exact ⟨m, i, by rw [rx]; rfl, hi, hm⟩
/-- THE DIFFERENCE of two finite words -/
theorem diff_near {f : Format} {x y : Nat} (hx : Fi f x) (hy : Fi f y) :
    ∃ (r : Nat) (neg : Bool) (n : Nat) (place : Int), f.sub x y = some r ∧ Near f neg n place r ∧ f.leastPlace ≤ place ∧ n * 2 ^ (place - f.leastPlace).toNat = (vl f x - vl f y).natAbs ∧
      (0 < vl f x - vl f y → neg = false) ∧ (vl f x - vl f y < 0 → neg = true) ∧ (vl f x - vl f y = 0 → neg = (sg f x && !sg f y)) := by
  obtain ⟨m, i, rx, hi, hm⟩ := read_fi hx
  obtain ⟨n, j, ry, hj, hn⟩ := opp_fi hy
  unfold Format.sub
  rw [rx, ry]
  simp only [Datum.sum, Option.map_some, Format.write]
  obtain ⟨u, hu⟩ : ∃ u : Nat, min i j - f.leastPlace = u := ⟨(min i j - f.leastPlace).toNat, by omega⟩
  have ex := vl_of (f := f) (b := x) (k := (i - min i j).toNat) (u := u) hm (by omega)
  have ey : -(vl f y) = signed (!sg f y) n (j - min i j).toNat * ((2 ^ u : Nat) : Int) := by
    have h1 : (j - f.leastPlace).toNat = (j - min i j).toNat + u := by omega
    unfold vl
    rw [signed_eq, hn, h1, Nat.pow_add]
    cases sg f y <;> simp [Int.mul_assoc, Int.neg_mul]
  generalize signed (sg f x) m (i - min i j).toNat = t1 at *
  generalize signed (!sg f y) n (j - min i j).toNat = t2 at *
  have hp : (0 : Int) < ((2 ^ u : Nat) : Int) := by have := Nat.two_pow_pos u; omega
  have es : vl f x - vl f y = (t1 + t2) * ((2 ^ u : Nat) : Int) := by rw [Int.sub_eq_add_neg, ex, ey, Int.add_mul]
  refine ⟨_, _, _, _, rfl, near f _ _ _, by omega, ?_, ?_, ?_, ?_⟩
  · rw [es, natAbs_mul_pow]
    congr 2
    omega
  · intro h
    rw [es] at h
    have h2 : 0 < t1 + t2 := by
      rcases Int.lt_or_le 0 (t1 + t2) with h3 | h3
      · exact h3
      · have := Int.mul_nonpos_of_nonpos_of_nonneg h3 (Int.le_of_lt hp); omega
    rw [if_neg (by omega)]
    simpa using Int.le_of_lt h2
  · intro h
    rw [es] at h
    have h2 : t1 + t2 < 0 := by
      rcases Int.lt_or_le (t1 + t2) 0 with h3 | h3
      · exact h3
      · have := Int.mul_nonneg h3 (Int.le_of_lt hp); omega
    rw [if_neg (by omega)]
    simpa using h2
  · intro h
    rw [es] at h
    have h2 : t1 + t2 = 0 := by
      rcases Int.mul_eq_zero.1 h with h3 | h3
      · exact h3
      · omega
    rw [if_pos h2]
/-- THE PRODUCT of two finite words -/
theorem prod_near {f : Format} {x y : Nat} (hx : Fi f x) (hy : Fi f y) :
    ∃ (r : Nat) (n : Nat) (place : Int), f.mul x y = some r ∧ Near f (sg f x ^^ sg f y) n place r ∧ 2 * f.leastPlace ≤ place ∧ n * 2 ^ (place - 2 * f.leastPlace).toNat = vm f x * vm f y := by
  obtain ⟨m, i, rx, hi, hm⟩ := read_fi hx
  obtain ⟨n, j, ry, hj, hn⟩ := read_fi hy
  unfold Format.mul
  rw [rx, ry]
  simp only [Datum.product, Option.map_some, Format.write]
  refine ⟨_, _, _, rfl, near f _ _ _, by omega, ?_⟩
  rw [hm, hn]
  have e : (i + j - 2 * f.leastPlace).toNat = (i - f.leastPlace).toNat + (j - f.leastPlace).toNat := by omega
  rw [e, Nat.pow_add]
  simp only [Nat.mul_comm, Nat.mul_left_comm, Nat.mul_assoc]
/-- THE INTEGER's word -/
theorem int_near (f : Format) (n : Int) : Near f (decide (n < 0)) n.natAbs 0 (f.write (.number (decide (n < 0)) n.natAbs 0)) := near f _ _ _
end Go.Proofs.Ytcbdjkonhnafcaa.Fl
