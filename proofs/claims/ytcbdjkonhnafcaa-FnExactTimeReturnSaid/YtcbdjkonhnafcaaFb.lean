/-
  BOUNDS OF FLOATS: at most c / 2^k in size, at least c / 2^k: how the operations keep them. Plain Lean, for every format.
-/
import Derived.Test.YtcbdjkonhnafcaaFq
namespace Go.Proofs.Ytcbdjkonhnafcaa.Fl
open Ieee
set_option linter.unusedSimpArgs false
set_option linter.unusedVariables false

/-- the numbers of a format: the least place is 2^-U, a binade has 2^fb rungs, T of them -/
structure Fm (f : Format) (U fb T : Nat) : Prop where
  lp : f.leastPlace = -(U : Int)
  bin : f.binade = 2 ^ fb
  inf : f.infRung = T * 2 ^ fb
theorem rung_of {fb T : Nat} : ∀ (e c : Nat), 0 < c → c < 2 ^ (fb + 1) → e + 2 ≤ T → ∃ b, b < T * 2 ^ fb ∧ mg (2 ^ fb) b = c * 2 ^ e := by
  intro e
  have hP := Nat.two_pow_pos fb
  induction e with
  | zero =>
    intro c h0 hc hT
    have hm : 2 * 2 ^ fb ≤ T * 2 ^ fb := Nat.mul_le_mul_right _ (by omega)
    rw [Nat.pow_succ] at hc
    by_cases h : c < 2 ^ fb
    · exact ⟨c, by omega, by rw [mg_low h]; simp⟩
    · refine ⟨(0 + 1) * 2 ^ fb + (c - 2 ^ fb), by omega, ?_⟩
      rw [mg_at (by omega)]; congr 1; omega
  | succ e ih =>
    intro c h0 hc hT
    by_cases h : c < 2 ^ fb
    · obtain ⟨b, hb, hm⟩ := ih (2 * c) (by omega) (by rw [Nat.pow_succ]; omega) (by omega)
      refine ⟨b, hb, ?_⟩
      rw [hm, Nat.pow_succ]
      simp only [Nat.mul_comm, Nat.mul_left_comm, Nat.mul_assoc]
    · have hm : (e + 3) * 2 ^ fb ≤ T * 2 ^ fb := Nat.mul_le_mul_right _ (by omega)
      rw [Nat.pow_succ] at hc
      refine ⟨(e + 1 + 1) * 2 ^ fb + (c - 2 ^ fb), ?_, ?_⟩
      · have : (e + 3) * 2 ^ fb = (e + 1 + 1) * 2 ^ fb + 2 ^ fb := by rw [show e + 3 = e + 1 + 1 + 1 by omega, Nat.succ_mul]
        omega
      · rw [mg_at (by omega)]; congr 1; omega
/-- c / 2^k is a rung -/
def Rep (U fb T c k : Nat) : Prop := ∃ b, b < T * 2 ^ fb ∧ mg (2 ^ fb) b * 2 ^ k = c * 2 ^ U
theorem Rep.small {U fb T c k : Nat} (h0 : 0 < c) (hc : c < 2 ^ (fb + 1)) (hk : k ≤ U) (hT : U - k + 2 ≤ T) : Rep U fb T c k := by
  obtain ⟨b, hb, hm⟩ := rung_of (fb := fb) (T := T) (U - k) c h0 hc hT
  refine ⟨b, hb, ?_⟩
  rw [hm, Nat.mul_assoc, ← Nat.pow_add, show U - k + k = U by omega]
theorem Rep.pow {U fb T j : Nat} (hT : U + j + 2 ≤ T) : Rep U fb T (2 ^ j) 0 := by
  obtain ⟨b, hb, hm⟩ := rung_of (fb := fb) (T := T) (U + j) 1 (by decide) (by have := Nat.two_pow_pos fb; rw [Nat.pow_succ]; omega) hT
  refine ⟨b, hb, ?_⟩
  rw [hm, Nat.one_mul, Nat.pow_zero, Nat.mul_one, ← Nat.pow_add, Nat.add_comm]
/-- at most c / 2^k in size -/
structure B (f : Format) (U c k b : Nat) : Prop where
  wd : b < 2 ^ f.width
  fi : Fi f b
  le : vm f b * 2 ^ k ≤ c * 2 ^ U
/-- at least c / 2^k -/
structure Lw (f : Format) (U c k b : Nat) : Prop where
  pos : sg f b = false
  ge : c * 2 ^ U ≤ vm f b * 2 ^ k
theorem vl_abs (f : Format) (b : Nat) : (vl f b).natAbs = vm f b := by
  unfold vl
  cases sg f b <;> simp
theorem Lw.vl {f : Format} {U c k b : Nat} (h : Lw f U c k b) : vl f b = vm f b := by
  unfold Fl.vl
  rw [h.pos]; rfl
section
variable {f : Format} {U fb T : Nat} {c d k l x y : Nat}
theorem B.mono (h : B f U c k x) (hh : c * 2 ^ l ≤ d * 2 ^ k) : B f U d l x :=
  ⟨h.wd, h.fi, Nat.le_of_mul_le_mul_right (c := 2 ^ k) (by
    calc vm f x * 2 ^ l * 2 ^ k = vm f x * 2 ^ k * 2 ^ l := by simp only [Nat.mul_comm, Nat.mul_left_comm, Nat.mul_assoc]
      _ ≤ c * 2 ^ U * 2 ^ l := Nat.mul_le_mul_right _ h.le
      _ = c * 2 ^ l * 2 ^ U := by simp only [Nat.mul_comm, Nat.mul_left_comm, Nat.mul_assoc]
      _ ≤ d * 2 ^ k * 2 ^ U := Nat.mul_le_mul_right _ hh
      _ = d * 2 ^ U * 2 ^ k := by simp only [Nat.mul_comm, Nat.mul_left_comm, Nat.mul_assoc]) (Nat.two_pow_pos _)⟩
theorem Lw.mono (h : Lw f U c k x) (hh : d * 2 ^ k ≤ c * 2 ^ l) : Lw f U d l x :=
  ⟨h.pos, Nat.le_of_mul_le_mul_right (c := 2 ^ k) (by
    calc d * 2 ^ U * 2 ^ k = d * 2 ^ k * 2 ^ U := by simp only [Nat.mul_comm, Nat.mul_left_comm, Nat.mul_assoc]
      _ ≤ c * 2 ^ l * 2 ^ U := Nat.mul_le_mul_right _ hh
      _ = c * 2 ^ U * 2 ^ l := by simp only [Nat.mul_comm, Nat.mul_left_comm, Nat.mul_assoc]
      _ ≤ vm f x * 2 ^ k * 2 ^ l := Nat.mul_le_mul_right _ h.ge
      _ = vm f x * 2 ^ l * 2 ^ k := by simp only [Nat.mul_comm, Nat.mul_left_comm, Nat.mul_assoc]) (Nat.two_pow_pos _)⟩
theorem Res.b (hF : Fm f U fb T) {neg : Bool} {num den r : Nat} (h : Res f neg num den r) (hr : Rep U fb T c k) (hh : num * 2 ^ k ≤ c * 2 ^ U * den) : B f U c k r := by
  obtain ⟨b, hb, hm⟩ := hr
  have hle : rg f r ≤ b := h.le b (by rw [hF.inf]; exact hb) (by
    rw [hF.bin]
    refine Nat.le_of_mul_le_mul_right (c := 2 ^ k) ?_ (Nat.two_pow_pos _)
    calc num * 2 ^ k ≤ c * 2 ^ U * den := hh
      _ = mg (2 ^ fb) b * 2 ^ k * den := by rw [hm]
      _ = mg (2 ^ fb) b * den * 2 ^ k := by simp only [Nat.mul_comm, Nat.mul_left_comm, Nat.mul_assoc])
  refine ⟨h.wd, ?_, ?_⟩
  · show rg f r < f.infRung
    rw [hF.inf]; omega
  · rw [← hm]
    refine Nat.mul_le_mul_right _ ?_
    unfold vm
    rw [hF.bin]
    exact mg_mono (Nat.two_pow_pos _) hle
theorem Res.lw (hF : Fm f U fb T) {neg : Bool} {num den r : Nat} (h : Res f neg num den r) (hn : neg = false) (hr : Rep U fb T c k) (hh : c * 2 ^ U * den ≤ num * 2 ^ k) : Lw f U c k r := by
  obtain ⟨b, hb, hm⟩ := hr
  have hge : b ≤ rg f r := h.ge b (by rw [hF.inf]; exact Nat.le_of_lt hb) (by
    rw [hF.bin]
    refine Nat.le_of_mul_le_mul_right (c := 2 ^ k) ?_ (Nat.two_pow_pos _)
    calc mg (2 ^ fb) b * den * 2 ^ k = mg (2 ^ fb) b * 2 ^ k * den := by simp only [Nat.mul_comm, Nat.mul_left_comm, Nat.mul_assoc]
      _ = c * 2 ^ U * den := by rw [hm]
      _ ≤ num * 2 ^ k := hh)
  refine ⟨by rw [h.sgn, hn], ?_⟩
  rw [← hm]
  refine Nat.mul_le_mul_right _ ?_
  unfold vm
  rw [hF.bin]
  exact mg_mono (Nat.two_pow_pos _) hge
theorem add_v (hF : Fm f U fb T) (hx : Fi f x) (hy : Fi f y) (hr : Rep U fb T c k) (h : (vl f x + vl f y).natAbs * 2 ^ k ≤ c * 2 ^ U) : ∃ r, f.add x y = some r ∧ B f U c k r := by
  obtain ⟨r, neg, h1, h2, _⟩ := add_res hx hy
  exact ⟨r, h1, h2.b hF hr (by rw [Nat.mul_one]; exact h)⟩
theorem sub_v (hF : Fm f U fb T) (hx : Fi f x) (hy : Fi f y) (hr : Rep U fb T c k) (h : (vl f x - vl f y).natAbs * 2 ^ k ≤ c * 2 ^ U) : ∃ r, f.sub x y = some r ∧ B f U c k r := by
  obtain ⟨r, neg, h1, h2, _⟩ := sub_res hx hy
  exact ⟨r, h1, h2.b hF hr (by rw [Nat.mul_one]; exact h)⟩
theorem add_lw (hF : Fm f U fb T) (hx : Fi f x) (hy : Fi f y) (hr : Rep U fb T c k) (hc : 0 < c) (h : c * 2 ^ U ≤ (vl f x + vl f y).natAbs * 2 ^ k) (hp : 0 ≤ vl f x + vl f y) : ∃ r, f.add x y = some r ∧ Lw f U c k r := by
  obtain ⟨r, neg, h1, h2, h3, _⟩ := add_res hx hy
  refine ⟨r, h1, h2.lw hF (h3 ?_) hr (by rw [Nat.mul_one]; exact h)⟩
  rcases Int.lt_or_eq_of_le hp with h0 | h0
  · exact h0
  · rw [← h0] at h
    have := Nat.mul_pos hc (Nat.two_pow_pos U)
    simp at h
    omega
theorem add_b (hF : Fm f U fb T) (hx : B f U c k x) (hy : B f U d k y) (hr : Rep U fb T (c + d) k) : ∃ r, f.add x y = some r ∧ B f U (c + d) k r := by
  refine add_v hF hx.fi hy.fi hr ?_
  have h1 : (vl f x + vl f y).natAbs ≤ vm f x + vm f y := by rw [← vl_abs f x, ← vl_abs f y]; exact Int.natAbs_add_le _ _
  refine Nat.le_trans (Nat.mul_le_mul_right _ h1) ?_
  rw [Nat.add_mul, Nat.add_mul]
  exact Nat.add_le_add hx.le hy.le
theorem sub_b (hF : Fm f U fb T) (hx : B f U c k x) (hy : B f U d k y) (hr : Rep U fb T (c + d) k) : ∃ r, f.sub x y = some r ∧ B f U (c + d) k r := by
  refine sub_v hF hx.fi hy.fi hr ?_
  have h1 : (vl f x - vl f y).natAbs ≤ vm f x + vm f y := by rw [← vl_abs f x, ← vl_abs f y]; exact Int.natAbs_sub_le _ _
  refine Nat.le_trans (Nat.mul_le_mul_right _ h1) ?_
  rw [Nat.add_mul, Nat.add_mul]
  exact Nat.add_le_add hx.le hy.le
theorem mul_le4 {a b c d p q u : Nat} (h1 : a * p ≤ c * u) (h2 : b * q ≤ d * u) : a * b * (p * q) ≤ c * d * u * u := by
  have := Nat.mul_le_mul h1 h2
  calc a * b * (p * q) = a * p * (b * q) := by simp only [Nat.mul_comm, Nat.mul_left_comm, Nat.mul_assoc]
    _ ≤ c * u * (d * u) := this
    _ = c * d * u * u := by simp only [Nat.mul_comm, Nat.mul_left_comm, Nat.mul_assoc]
theorem mul_b (hF : Fm f U fb T) (hx : B f U c k x) (hy : B f U d l y) (hr : Rep U fb T (c * d) (k + l)) : ∃ r, f.mul x y = some r ∧ B f U (c * d) (k + l) r := by
  obtain ⟨r, h1, h2⟩ := mul_res hF.lp hx.fi hy.fi
  refine ⟨r, h1, h2.b hF hr ?_⟩
  rw [Nat.pow_add]
  exact mul_le4 hx.le hy.le
theorem mul_lw (hF : Fm f U fb T) (hx : Fi f x) (hy : Fi f y) (gx : Lw f U c k x) (gy : Lw f U d l y) (hr : Rep U fb T (c * d) (k + l)) : ∃ r, f.mul x y = some r ∧ Lw f U (c * d) (k + l) r := by
  obtain ⟨r, h1, h2⟩ := mul_res hF.lp hx hy
  refine ⟨r, h1, h2.lw hF (by rw [gx.pos, gy.pos]; rfl) hr ?_⟩
  rw [Nat.pow_add]
  have := Nat.mul_le_mul gx.ge gy.ge
  calc c * d * 2 ^ U * 2 ^ U = c * 2 ^ U * (d * 2 ^ U) := by simp only [Nat.mul_comm, Nat.mul_left_comm, Nat.mul_assoc]
    _ ≤ vm f x * 2 ^ k * (vm f y * 2 ^ l) := this
    _ = vm f x * vm f y * (2 ^ k * 2 ^ l) := by simp only [Nat.mul_comm, Nat.mul_left_comm, Nat.mul_assoc]
theorem div_b (hF : Fm f U fb T) (hx : Fi f x) (hy : Fi f y) (h0 : vm f y ≠ 0) (hr : Rep U fb T c k) (h : vm f x * 2 ^ k ≤ c * vm f y) : ∃ r, f.div x y = some r ∧ B f U c k r := by
  obtain ⟨r, h1, h2⟩ := div_res hF.lp hx hy h0
  refine ⟨r, h1, h2.b hF hr ?_⟩
  calc vm f x * 2 ^ U * 2 ^ k = vm f x * 2 ^ k * 2 ^ U := by simp only [Nat.mul_comm, Nat.mul_left_comm, Nat.mul_assoc]
    _ ≤ c * vm f y * 2 ^ U := Nat.mul_le_mul_right _ h
    _ = c * 2 ^ U * vm f y := by simp only [Nat.mul_comm, Nat.mul_left_comm, Nat.mul_assoc]
theorem div_lw (hF : Fm f U fb T) (hx : Fi f x) (hy : Fi f y) (h0 : vm f y ≠ 0) (sx : sg f x = false) (sy : sg f y = false) (hr : Rep U fb T c k) (h : c * vm f y ≤ vm f x * 2 ^ k) : ∃ r, f.div x y = some r ∧ Lw f U c k r := by
  obtain ⟨r, h1, h2⟩ := div_res hF.lp hx hy h0
  refine ⟨r, h1, h2.lw hF (by rw [sx, sy]; rfl) hr ?_⟩
  calc c * 2 ^ U * vm f y = c * vm f y * 2 ^ U := by simp only [Nat.mul_comm, Nat.mul_left_comm, Nat.mul_assoc]
    _ ≤ vm f x * 2 ^ k * 2 ^ U := Nat.mul_le_mul_right _ h
    _ = vm f x * 2 ^ U * 2 ^ k := by simp only [Nat.mul_comm, Nat.mul_left_comm, Nat.mul_assoc]
theorem int_b (hF : Fm f U fb T) {n : Int} (hn : n.natAbs ≤ c) (hr : Rep U fb T c 0) : B f U c 0 (f.write (.number (decide (n < 0)) n.natAbs 0)) := by
  refine (int_res hF.lp n).b hF hr ?_
  simp only [Nat.pow_zero, Nat.mul_one]
  exact Nat.mul_le_mul_right _ hn
theorem int_lw (hF : Fm f U fb T) {n : Int} (hp : 0 ≤ n) (hn : c ≤ n.natAbs) (hr : Rep U fb T c 0) : Lw f U c 0 (f.write (.number (decide (n < 0)) n.natAbs 0)) := by
  refine (int_res hF.lp n).lw hF (by simp; omega) hr ?_
  simp only [Nat.pow_zero, Nat.mul_one]
  exact Nat.mul_le_mul_right _ hn
end
end Go.Proofs.Ytcbdjkonhnafcaa.Fl
