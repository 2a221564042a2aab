/-
  THE QUOTIENT OF FINITE FLOATS; sums, products, quotients in one form: where the result lies among the rungs. Plain Lean, for every format.
-/
import Derived.Test.YtcbdjkonhnafcaaFw
namespace Go.Proofs.Ytcbdjkonhnafcaa.Fl
open Ieee
set_option linter.unusedSimpArgs false
set_option linter.unusedVariables false

theorem stick_le {D n B : Nat} (hn : 0 < n) (h : D ≤ n * B) : 2 * (D / n) + (D % n != 0).toNat ≤ 2 * B := by
  have h1 : D / n ≤ B := Nat.div_le_of_le_mul h
  have h2 := Nat.div_add_mod D n
  by_cases e : D / n = B
  · have : D % n = 0 := by rw [e] at h2; omega
    rw [this, e]; simp
  · have : ∀ b : Bool, b.toNat ≤ 1 := fun b => by cases b <;> decide
    have := this (D % n != 0)
    omega
theorem stick_ge {D n B : Nat} (hn : 0 < n) (h : n * B ≤ D) : 2 * B ≤ 2 * (D / n) + (D % n != 0).toNat := by
  have h1 : B ≤ D / n := (Nat.le_div_iff_mul_le hn).2 (by rw [Nat.mul_comm]; exact h)
  omega
/-- the whole part of the quotient has one digit more than a significand -/
theorem quot_big {m n fb : Nat} (hm : m ≠ 0) (hn : n ≠ 0) : 2 * 2 ^ fb ≤ (m <<< (fb + 2 + n.log2 - m.log2)) / n := by
  refine (Nat.le_div_iff_mul_le (by omega)).2 ?_
  rw [Nat.shiftLeft_eq]
  have e1 : 2 ^ m.log2 ≤ m := Nat.log2_self_le hm
  have e2 : n < 2 ^ (n.log2 + 1) := Nat.lt_log2_self
  refine Nat.le_trans (Nat.mul_le_mul_left _ (Nat.le_of_lt e2)) (Nat.le_trans ?_ (Nat.mul_le_mul_right _ e1))
  rw [show 2 * 2 ^ fb = 2 ^ (fb + 1) by rw [Nat.pow_succ, Nat.mul_comm], ← Nat.pow_add, ← Nat.pow_add]
  exact Nat.pow_le_pow_right (by decide) (by omega)

/-- the bounds of a quotient, on naturals: x = m * 2^a, y = n * 2^c, the unit of the whole part is 2^(a + U - c - more) -/
theorem quot_le {P m n a c U more B K L : Nat} (hP : 0 < P) (hn : 0 < n) (hbig : 2 * P ≤ (m <<< more) / n) (b : Nat) (hB : B = mg P b) (hk : a + U + K = c + more + L) (h0 : K = 0 ∨ L = 0)
    (h : m * 2 ^ a * 2 ^ U ≤ B * (n * 2 ^ c)) : (2 * ((m <<< more) / n) + ((m <<< more) % n != 0).toNat) * 2 ^ L ≤ 2 * B * 2 ^ K := by
  rw [Nat.shiftLeft_eq] at *
  -- D * 2^L ≤ n * B * 2^K
  have hD : m * 2 ^ more * 2 ^ L ≤ n * B * 2 ^ K := by
    have h1 : m * 2 ^ a * 2 ^ U * 2 ^ K ≤ B * (n * 2 ^ c) * 2 ^ K := Nat.mul_le_mul_right _ h
    have h2 : m * 2 ^ a * 2 ^ U * 2 ^ K = (m * 2 ^ more * 2 ^ L) * 2 ^ c := by
      rw [Nat.mul_assoc, Nat.mul_assoc, ← Nat.pow_add, ← Nat.pow_add, Nat.mul_assoc, Nat.mul_assoc, ← Nat.pow_add, ← Nat.pow_add]
      congr 2; omega
    have h3 : B * (n * 2 ^ c) * 2 ^ K = (n * B * 2 ^ K) * 2 ^ c := by simp only [Nat.mul_comm, Nat.mul_left_comm, Nat.mul_assoc]
    rw [h2, h3] at h1
    exact Nat.le_of_mul_le_mul_right h1 (Nat.two_pow_pos _)
  rcases h0 with rfl | rfl
  · simp only [Nat.pow_zero, Nat.mul_one] at hD ⊢
    -- 2^L divides B
    have hq : 2 * P * n ≤ m * 2 ^ more := by
      have h1 := (Nat.le_div_iff_mul_le hn).1 hbig
      exact h1
    have hB2 : 2 * P * 2 ^ L ≤ B := by
      have h1 : 2 * P * n * 2 ^ L ≤ n * B := Nat.le_trans (Nat.mul_le_mul_right _ hq) hD
      rw [show 2 * P * n * 2 ^ L = n * (2 * P * 2 ^ L) by simp only [Nat.mul_comm, Nat.mul_left_comm, Nat.mul_assoc]] at h1
      exact Nat.le_of_mul_le_mul_left h1 hn
    rcases rung_parts hP b with hlow | ⟨E, F, hF, rfl⟩
    · rw [mg_low hlow] at hB
      have : 2 * P * 1 ≤ 2 * P * 2 ^ L := Nat.mul_le_mul_left _ (Nat.two_pow_pos _)
      omega
    · rw [mg_at hF] at hB
      have hLE : L ≤ E := by
        rcases Nat.lt_or_ge E L with hlt | hge
        · have a1 : (P + F) * 2 ^ E < 2 * P * 2 ^ E := Nat.mul_lt_mul_of_pos_right (by omega) (Nat.two_pow_pos _)
          have a2 : 2 * P * 2 ^ E ≤ 2 * P * 2 ^ L := Nat.mul_le_mul_left _ (Nat.pow_le_pow_right (by decide) (by omega))
          omega
        · exact hge
      have hB3 : B = ((P + F) * 2 ^ (E - L)) * 2 ^ L := by rw [hB, Nat.mul_assoc, ← Nat.pow_add]; congr 2; omega
      rw [hB3] at hD ⊢
      rw [← Nat.mul_assoc] at hD
      have h4 := stick_le hn (Nat.le_of_mul_le_mul_right hD (Nat.two_pow_pos _))
      rw [← Nat.mul_assoc]
      exact Nat.mul_le_mul_right _ h4
  · simp only [Nat.pow_zero, Nat.mul_one] at hD ⊢
    rw [Nat.mul_assoc] at hD ⊢
    exact stick_le hn hD
theorem quot_ge {P m n a c U more B K L : Nat} (hP : 0 < P) (hn : 0 < n) (hbig : 2 * P ≤ (m <<< more) / n) (b : Nat) (hB : B = mg P b) (hk : a + U + K = c + more + L) (h0 : K = 0 ∨ L = 0)
    (h : B * (n * 2 ^ c) ≤ m * 2 ^ a * 2 ^ U) : 2 * B * 2 ^ K ≤ (2 * ((m <<< more) / n) + ((m <<< more) % n != 0).toNat) * 2 ^ L := by
  rw [Nat.shiftLeft_eq] at *
  have hD : n * B * 2 ^ K ≤ m * 2 ^ more * 2 ^ L := by
    have h1 : B * (n * 2 ^ c) * 2 ^ K ≤ m * 2 ^ a * 2 ^ U * 2 ^ K := Nat.mul_le_mul_right _ h
    have h2 : m * 2 ^ a * 2 ^ U * 2 ^ K = (m * 2 ^ more * 2 ^ L) * 2 ^ c := by
      rw [Nat.mul_assoc, Nat.mul_assoc, ← Nat.pow_add, ← Nat.pow_add, Nat.mul_assoc, Nat.mul_assoc, ← Nat.pow_add, ← Nat.pow_add]
      congr 2; omega
    have h3 : B * (n * 2 ^ c) * 2 ^ K = (n * B * 2 ^ K) * 2 ^ c := by simp only [Nat.mul_comm, Nat.mul_left_comm, Nat.mul_assoc]
    rw [h2, h3] at h1
    exact Nat.le_of_mul_le_mul_right h1 (Nat.two_pow_pos _)
  rcases h0 with rfl | rfl
  · simp only [Nat.pow_zero, Nat.mul_one] at hD ⊢
    have small : B ≤ 2 * P * 2 ^ L → 2 * B ≤ (2 * (m * 2 ^ more / n) + (m * 2 ^ more % n != 0).toNat) * 2 ^ L := fun hs => by
      have h1 : 2 * (2 * P) ≤ 2 * (m * 2 ^ more / n) + (m * 2 ^ more % n != 0).toNat := by omega
      have h2 := Nat.mul_le_mul_right (2 ^ L) h1
      rw [Nat.mul_assoc] at h2
      omega
    rcases rung_parts hP b with hlow | ⟨E, F, hF, rfl⟩
    · rw [mg_low hlow] at hB
      have : 2 * P * 1 ≤ 2 * P * 2 ^ L := Nat.mul_le_mul_left _ (Nat.two_pow_pos _)
      exact small (by omega)
    · rw [mg_at hF] at hB
      rcases Nat.lt_or_ge E L with hlt | hge
      · have a1 : (P + F) * 2 ^ E < 2 * P * 2 ^ E := Nat.mul_lt_mul_of_pos_right (by omega) (Nat.two_pow_pos _)
        have a2 : 2 * P * 2 ^ E ≤ 2 * P * 2 ^ L := Nat.mul_le_mul_left _ (Nat.pow_le_pow_right (by decide) (by omega))
        exact small (by omega)
      · have hB3 : B = ((P + F) * 2 ^ (E - L)) * 2 ^ L := by rw [hB, Nat.mul_assoc, ← Nat.pow_add]; congr 2; omega
        rw [hB3] at hD ⊢
        rw [← Nat.mul_assoc] at hD
        have h4 := stick_ge hn (Nat.le_of_mul_le_mul_right hD (Nat.two_pow_pos _))
        rw [← Nat.mul_assoc]
        exact Nat.mul_le_mul_right _ h4
  · simp only [Nat.pow_zero, Nat.mul_one] at hD ⊢
    rw [Nat.mul_assoc] at hD ⊢
    exact stick_ge hn hD

/-- what is known of a result: a word; where it lies among the rungs, held against a ratio num / den; its sign -/
structure Res (f : Format) (neg : Bool) (num den : Nat) (r : Nat) : Prop where
  wd : r < 2 ^ f.width
  le : ∀ b, b < f.infRung → num ≤ mg f.binade b * den → rg f r ≤ b
  ge : ∀ b, b ≤ f.infRung → mg f.binade b * den ≤ num → b ≤ rg f r
  sgn : sg f r = neg
  top : rg f r ≤ f.infRung

theorem Near.res {f : Format} {neg : Bool} {n : Nat} {place : Int} {r : Nat} (h : Near f neg n place r) {S num : Nat} (hS : 0 ≤ place - f.leastPlace + S) (hn : n * 2 ^ (place - f.leastPlace + S).toNat = num) : Res f neg num (2 ^ S) r :=
  ⟨h.wd, fun b hb hh => h.le S b hS hb (by rw [hn]; exact hh), fun b hb hh => h.ge S b hS hb (by rw [hn]; exact hh), h.sgn, h.top⟩

variable {f : Format} {x y : Nat}
theorem add_res (hx : Fi f x) (hy : Fi f y) : ∃ r neg, f.add x y = some r ∧ Res f neg (vl f x + vl f y).natAbs 1 r ∧ (0 < vl f x + vl f y → neg = false) ∧ (vl f x + vl f y < 0 → neg = true) ∧ (vl f x + vl f y = 0 → neg = (sg f x && sg f y)) := by
  obtain ⟨r, neg, n, place, h1, h2, h3, h4, h5, h6, h7⟩ := sum_near hx hy
  exact ⟨r, neg, h1, h2.res (S := 0) (by omega) (by rw [← h4]; simp), h5, h6, h7⟩
theorem sub_res (hx : Fi f x) (hy : Fi f y) : ∃ r neg, f.sub x y = some r ∧ Res f neg (vl f x - vl f y).natAbs 1 r ∧ (0 < vl f x - vl f y → neg = false) ∧ (vl f x - vl f y < 0 → neg = true) ∧ (vl f x - vl f y = 0 → neg = (sg f x && !sg f y)) := by
  obtain ⟨r, neg, n, place, h1, h2, h3, h4, h5, h6, h7⟩ := diff_near hx hy
  exact ⟨r, neg, h1, h2.res (S := 0) (by omega) (by rw [← h4]; simp), h5, h6, h7⟩
theorem mul_res {U : Nat} (hU : f.leastPlace = -(U : Int)) (hx : Fi f x) (hy : Fi f y) : ∃ r, f.mul x y = some r ∧ Res f (sg f x ^^ sg f y) (vm f x * vm f y) (2 ^ U) r := by
  obtain ⟨r, n, place, h1, h2, h3, h4⟩ := prod_near hx hy
  refine ⟨r, h1, h2.res (S := U) (by omega) ?_⟩
  rw [← h4]
  congr 2
  omega
theorem div_res {U : Nat} (hU : f.leastPlace = -(U : Int)) (hx : Fi f x) (hy : Fi f y) (h0 : vm f y ≠ 0) : ∃ r, f.div x y = some r ∧ Res f (sg f x ^^ sg f y) (vm f x * 2 ^ U) (vm f y) r := by
  obtain ⟨m, i, rx, hi, hm⟩ := read_fi hx
  obtain ⟨n, j, ry, hj, hn⟩ := read_fi hy
  have hn0 : n ≠ 0 := by rintro rfl; rw [hn] at h0; simp at h0
  unfold Format.div
  rw [rx, ry]
  simp only [Datum.quotient, if_neg hn0, Option.map_some, Format.write]
  refine ⟨_, rfl, ?_⟩
  by_cases hm0 : m = 0
  · have hv : vm f x = 0 := by rw [hm, hm0]; simp
    have e : (2 * (m <<< (f.fractionBits + 2 + n.log2 - m.log2) / n) + (m <<< (f.fractionBits + 2 + n.log2 - m.log2) % n != 0).toNat) = 0 := by rw [hm0]; simp
    rw [e]
    have hN := near f (sg f x ^^ sg f y) 0 (i - j - ((f.fractionBits + 2 + n.log2 - m.log2 : Nat) : Int) - 1)
    have hz : rg f (f.nearest (sg f x ^^ sg f y) 0 (i - j - ((f.fractionBits + 2 + n.log2 - m.log2 : Nat) : Int) - 1)) ≤ 0 := by
      refine hN.le (f.leastPlace - (i - j - ((f.fractionBits + 2 + n.log2 - m.log2 : Nat) : Int) - 1)).toNat 0 (by omega) ?_ (by simp)
      have hp : (1 : Nat) < 2 ^ f.exponentBits ∨ f.exponentBits = 0 := by
        rcases Nat.eq_zero_or_pos f.exponentBits with h | h
        · exact .inr h
        · refine .inl (Nat.lt_of_lt_of_le (by decide : 1 < 2 ^ 1) (Nat.pow_le_pow_right (by decide) h))
      unfold Fi at hx
      omega
    refine ⟨hN.wd, fun b _ _ => by omega, fun b hb hh => ?_, hN.sgn, hN.top⟩
    rw [hv, Nat.zero_mul] at hh
    have : mg f.binade b = 0 := by
      rcases Nat.eq_zero_or_pos (mg f.binade b) with h | h
      · exact h
      · have := Nat.mul_pos h (Nat.pos_of_ne_zero h0); omega
    rw [mg_zero _ (binade_pos f) this]; exact Nat.zero_le _
  · generalize hmore : f.fractionBits + 2 + n.log2 - m.log2 = more
    have hbig : 2 * f.binade ≤ (m <<< more) / n := by rw [← hmore]; exact quot_big hm0 hn0
    have hN := near f (sg f x ^^ sg f y) (2 * ((m <<< more) / n) + ((m <<< more) % n != 0).toNat) (i - j - (more : Int) - 1)
    have hnp : 0 < n := Nat.pos_of_ne_zero hn0
    obtain ⟨a, ha⟩ : ∃ a : Nat, i - f.leastPlace = a := ⟨(i - f.leastPlace).toNat, by omega⟩
    obtain ⟨c, hc⟩ : ∃ c : Nat, j - f.leastPlace = c := ⟨(j - f.leastPlace).toNat, by omega⟩
    have ha' : (i - f.leastPlace).toNat = a := by omega
    have hc' : (j - f.leastPlace).toNat = c := by omega
    rw [ha'] at hm
    rw [hc'] at hn
    -- the unit of the whole part, above or below the least place
    by_cases hu : 0 ≤ i - j - (more : Int) - f.leastPlace
    · obtain ⟨L, hL⟩ : ∃ L : Nat, i - j - (more : Int) - f.leastPlace = L := ⟨(i - j - (more : Int) - f.leastPlace).toNat, by omega⟩
      have eL : (i - j - (more : Int) - 1 - f.leastPlace + (1 : Nat)).toNat = L := by omega
      refine ⟨hN.wd, fun b hb hh => hN.le 1 b (by omega) hb ?_, fun b hb hh => hN.ge 1 b (by omega) hb ?_, hN.sgn, hN.top⟩
      · rw [eL]
        have := quot_le (K := 0) (L := L) (a := a) (c := c) (U := U) (binade_pos f) hnp hbig b rfl (by omega) (.inl rfl) (by rw [← hm, ← hn]; exact hh)
        rw [Nat.mul_comm (mg f.binade b)]
        simpa using this
      · rw [eL]
        have := quot_ge (K := 0) (L := L) (a := a) (c := c) (U := U) (binade_pos f) hnp hbig b rfl (by omega) (.inl rfl) (by rw [← hm, ← hn]; exact hh)
        rw [Nat.mul_comm (mg f.binade b)]
        simpa using this
    · obtain ⟨K, hK⟩ : ∃ K : Nat, f.leastPlace - (i - j - (more : Int)) = K := ⟨(f.leastPlace - (i - j - (more : Int))).toNat, by omega⟩
      have eL : (i - j - (more : Int) - 1 - f.leastPlace + ((K + 1 : Nat) : Int)).toNat = 0 := by omega
      have eB : ∀ B : Nat, B * 2 ^ (K + 1) = 2 * B * 2 ^ K := fun B => by rw [Nat.pow_succ]; simp only [Nat.mul_comm, Nat.mul_left_comm, Nat.mul_assoc]
      refine ⟨hN.wd, fun b hb hh => hN.le (K + 1) b (by omega) hb ?_, fun b hb hh => hN.ge (K + 1) b (by omega) hb ?_, hN.sgn, hN.top⟩
      · rw [eL, eB]
        exact quot_le (K := K) (L := 0) (a := a) (c := c) (U := U) (binade_pos f) hnp hbig b rfl (by omega) (.inr rfl) (by rw [← hm, ← hn]; exact hh)
      · rw [eL, eB]
        exact quot_ge (K := K) (L := 0) (a := a) (c := c) (U := U) (binade_pos f) hnp hbig b rfl (by omega) (.inr rfl) (by rw [← hm, ← hn]; exact hh)
theorem int_res {U : Nat} (hU : f.leastPlace = -(U : Int)) (n : Int) : Res f (decide (n < 0)) (n.natAbs * 2 ^ U) 1 (f.write (.number (decide (n < 0)) n.natAbs 0)) :=
  (int_near f n).res (S := 0) (by omega) (by congr 2; omega)
/-- the order of finite words -/
theorem order_fi (hx : Fi f x) (hy : Fi f y) : f.order x y = some (compare (vl f x) (vl f y)) := by
  obtain ⟨m, i, rx, hi, hm⟩ := read_fi hx
  obtain ⟨n, j, ry, hj, hn⟩ := read_fi hy
  unfold Format.order
  rw [rx, ry]
  simp only [Datum.order]
  obtain ⟨u, hu⟩ : ∃ u : Nat, min i j - f.leastPlace = u := ⟨(min i j - f.leastPlace).toNat, by omega⟩
  have ex := vl_of (f := f) (b := x) (k := (i - min i j).toNat) (u := u) hm (by omega)
  have ey := vl_of (f := f) (b := y) (k := (j - min i j).toNat) (u := u) hn (by omega)
  rw [ex, ey]
  generalize signed (sg f x) m (i - min i j).toNat = t1
  generalize signed (sg f y) n (j - min i j).toNat = t2
  have hp : (0 : Int) < ((2 ^ u : Nat) : Int) := by have := Nat.two_pow_pos u; omega
  congr 1
  rcases Int.lt_trichotomy t1 t2 with h | h | h
  · rw [Int.compare_eq_lt.2 h, Int.compare_eq_lt.2 (Int.mul_lt_mul_of_pos_right h hp)]
  · subst h; simp
  · rw [Int.compare_eq_gt.2 h, Int.compare_eq_gt.2 (Int.mul_lt_mul_of_pos_right h hp)]
/-- a word of a bounded rung is finite -/
theorem Res.fi {neg : Bool} {num den r b : Nat} (h : Res f neg num den r) (hb : b < f.infRung) (hh : num ≤ mg f.binade b * den) : Fi f r := Nat.lt_of_le_of_lt (h.le b hb hh) hb
end Go.Proofs.Ytcbdjkonhnafcaa.Fl
