/-
  TimeReturn: plain laws. The rates' logarithms, their mean, the exponential function of it: every step is valid.
-/
import Derived.Test.YtcbdjkonhnafcaaLg
import Derived.Test.YtcbdjkonhnafcaaFin
import Derived.Test.YtcbdjkonhnafcaaList
namespace Go.Proofs.Ytcbdjkonhnafcaa
open Fl
set_option linter.unusedSimpArgs false
set_option linter.unusedVariables false

theorem litS_b {b c k : Nat} (h : (decide (b < 4294967296) && (decide (rk b < 2139095040) && decide (mag b * 2 ^ k ≤ c * 2 ^ 149))) = true) : BS c k b := by
  rw [Bool.and_eq_true, Bool.and_eq_true] at h
  exact ⟨by rw [s_wd]; exact of_decide_eq_true h.1, F_iff.2 (of_decide_eq_true h.2.1), of_decide_eq_true h.2.2⟩
theorem litS_lw {b c k : Nat} (h : (decide (sn b = false) && decide (c * 2 ^ 149 ≤ mag b * 2 ^ k)) = true) : LS1 c k b := by
  rw [Bool.and_eq_true] at h
  exact ⟨of_decide_eq_true h.1, of_decide_eq_true h.2⟩
theorem bs_one : BS 1 0 1065353216 := litS_b (by kernel_rfl)
theorem ls_one : LS1 1 0 1065353216 := litS_lw (by kernel_rfl)
theorem bs_zero : BS 0 0 0 := litS_b (by kernel_rfl)
theorem bs_10k : BS 10000 0 1176256512 := litS_b (by kernel_rfl)
theorem ls_10k : LS1 10000 0 1176256512 := litS_lw (by kernel_rfl)
theorem bs_200 : BS 200 0 1128792064 := litS_b (by kernel_rfl)
theorem ls_200 : LS1 200 0 1128792064 := litS_lw (by kernel_rfl)
theorem bs_m200 : BS 200 0 3276275712 := litS_b (by kernel_rfl)
theorem vs_m200 : val 3276275712 = -(mag 3276275712 : Int) := by
  show vl _ _ = _
  unfold vl
  rw [if_pos (by decide)]
theorem ls_m200 : 200 * 2 ^ 149 ≤ mag 3276275712 * 2 ^ 0 := of_decide_eq_true (by kernel_rfl)
theorem ofI_b {n : Int} {c : Nat} (hn : n.natAbs ≤ c) (h0 : 0 < c) (hc : c < 16777216) : BS c 0 (ofI n) := int_b fmS hn (repS h0 hc (by decide))
theorem ofI_lw {n : Int} {c : Nat} (hp : 0 ≤ n) (hn : c ≤ n.natAbs) (h0 : 0 < c) (hc : c < 16777216) : LS1 c 0 (ofI n) := int_lw fmS hp hn (repS h0 hc (by decide))
/-! ### a rate -/
def rateX (r : Int) : Nat := fadd 1065353216 (fdiv (ofI r) 1176256512)
theorem rate_ok {r : Int} (h : -9999 ≤ r ∧ r ≤ 10000) : okD (ofI r) 1176256512 ∧ okA 1065353216 (fdiv (ofI r) 1176256512) ∧ BS 2 0 (rateX r) ∧ LS1 1 14 (rateX r) := by
  have hb : BS 10000 0 (ofI r) := ofI_b (by omega) (by decide) (by decide)
  have h0 : vm Ieee.single 1176256512 ≠ 0 := ls_10k.pos_vm (by decide)
  obtain ⟨q, h1, h2⟩ := div_res fmS.lp hb.fi bs_10k.fi h0
  obtain ⟨ok, hq⟩ := okD_of h1
  have b1 : BS 1 0 q := h2.b fmS (repS (by decide) (by decide) (by decide)) (by
    have a := hb.le
    have b := ls_10k.ge
    generalize 2 ^ 149 = E at a b ⊢
    have : vm Ieee.single (ofI r) ≤ vm Ieee.single 1176256512 := by omega
    calc vm Ieee.single (ofI r) * E * 2 ^ 0 = vm Ieee.single (ofI r) * E := by simp
      _ ≤ vm Ieee.single 1176256512 * E := Nat.mul_le_mul_right _ this
      _ = 1 * E * vm Ieee.single 1176256512 := by rw [Nat.one_mul, Nat.mul_comm])
  have hlow : -(16383 * 2 ^ 149 : Int) ≤ vl Ieee.single q * 16384 := by
    by_cases hn : r < 0
    · have hb2 : BS 9999 0 (ofI r) := ofI_b (by omega) (by decide) (by decide)
      have b2 : BS 16383 14 q := h2.b fmS (repS (by decide) (by decide) (by decide)) (by
        have a := hb2.le
        have b := ls_10k.ge
        generalize 2 ^ 149 = E at a b ⊢
        have : vm Ieee.single (ofI r) * 16384 ≤ 16383 * vm Ieee.single 1176256512 := by omega
        calc vm Ieee.single (ofI r) * E * 2 ^ 14 = vm Ieee.single (ofI r) * 16384 * E := by rw [show (2 : Nat) ^ 14 = 16384 by decide]; simp only [Nat.mul_comm, Nat.mul_left_comm, Nat.mul_assoc]
          _ ≤ 16383 * vm Ieee.single 1176256512 * E := Nat.mul_le_mul_right _ this
          _ = 16383 * E * vm Ieee.single 1176256512 := by simp only [Nat.mul_comm, Nat.mul_left_comm, Nat.mul_assoc])
      have a := b2.le
      have b := vl_abs Ieee.single q
      have hE : ((2 ^ 149 : Nat) : Int) = 2 ^ 149 := rfl
      rw [← hE]
      generalize 2 ^ 149 = E at a ⊢
      omega
    · have hs : sg Ieee.single q = false := by
        have hi : sg Ieee.single (ofI r) = decide (r < 0) := (int_res fmS.lp r).sgn
        rw [h2.sgn, hi, decide_eq_false hn, ls_10k.pos]; rfl
      have : vl Ieee.single q = vm Ieee.single q := by unfold vl; rw [hs]; rfl
      have hE : ((2 ^ 149 : Nat) : Int) = 2 ^ 149 := rfl
      rw [← hE, this]
      generalize 2 ^ 149 = E
      omega
  have e1 : vl Ieee.single 1065353216 = 2 ^ 149 := val_one
  have hE : ((2 ^ 149 : Nat) : Int) = 2 ^ 149 := rfl
  have a := b1.le
  have av := vl_abs Ieee.single q
  obtain ⟨r2, h3, b3⟩ := add_v (c := 2) (k := 0) fmS bs_one.fi b1.fi (repS (by decide) (by decide) (by decide)) (by
    rw [e1, ← hE]
    generalize 2 ^ 149 = E at a ⊢
    omega)
  obtain ⟨r3, h4, l3⟩ := add_lw (c := 1) (k := 14) fmS bs_one.fi b1.fi (repS (by decide) (by decide) (by decide)) (by decide) (by
    rw [e1, ← hE]
    rw [← hE] at hlow
    generalize 2 ^ 149 = E at a hlow ⊢
    omega) (by
    rw [e1, ← hE]
    rw [← hE] at hlow
    generalize 2 ^ 149 = E at a hlow ⊢
    omega)
  obtain ⟨ok2, hq2⟩ := okA_of h3
  rw [h3] at h4
  obtain rfl := Option.some.inj h4
  unfold rateX
  rw [hq, hq2]
  exact ⟨ok, ok2, b3, l3⟩
theorem rate_nr {r : Int} (h : -9999 ≤ r ∧ r ≤ 10000) : F (rateX r) ∧ Nr (wide (rateX r)) 2 0 14 := by
  obtain ⟨_, _, b, l⟩ := rate_ok h
  exact ⟨b.fi, wide_b b (repD (by decide) (by decide) (by decide)), wide_lw b.fi l (repD (by decide) (by decide) (by decide))⟩
/-- the tests of the program's LogNumber, and of the reference's logarithm -/
theorem log_tests {r : Int} (h : -9999 ≤ r ∧ r ≤ 10000) : (Ieee.single.order (rateX r) (rateX r) != some .eq) = false ∧ (Ieee.single.order (rateX r) 0 == some .lt) = false ∧ (Ieee.single.order (rateX r) 0 == some .eq) = false := by
  obtain ⟨_, _, b, l⟩ := rate_ok h
  have l1 := l.ge
  have l2 := l.vl
  have hp := Nat.two_pow_pos 149
  have hz : vl Ieee.single 0 = 0 := val_zero
  refine ⟨?_, ?_, ?_⟩
  · rw [order_fi b.fi b.fi]; simp
  · rw [ord_lt b.fi bs_zero.fi, hz, l2]
    generalize 2 ^ 149 = E at l1 hp
    exact decide_eq_false (by omega)
  · rw [order_fi b.fi bs_zero.fi, hz, l2]
    generalize 2 ^ 149 = E at l1 hp
    rw [Int.compare_eq_gt.2 (by omega)]; rfl
theorem b_dzero : BD 0 0 0 := lit_b' (by kernel_rfl)
theorem v_dzero : vl Ieee.double 0 = 0 := by
  have h := b_dzero.le
  have := vl_abs Ieee.double 0
  simp at h
  omega
theorem b_dmax : Fi Ieee.double 9218868437227405311 := (of_decide_eq_true (by kernel_rfl) : rg Ieee.double 9218868437227405311 < Ieee.double.infRung)
theorem l_dmax : LD 4 0 9218868437227405311 := lit_lw' (by kernel_rfl)
theorem wide_tests {x : Nat} (h : Nr x 2 0 14) : (Ieee.double.order x x != some .eq) = false ∧ (Ieee.double.order x 0 == some .lt) = false ∧ (Ieee.double.order x 0 == some .eq) = false ∧ (Ieee.double.order x 9218868437227405311 == some .gt) = false := by
  have l1 := h.lo.ge
  have l2 := h.lo.vl
  have a := h.hi.le
  have m1 := l_dmax.ge
  have m2 := l_dmax.vl
  have hp := pw_pos
  refine ⟨?_, ?_, ?_, ?_⟩
  · rw [order_fi h.hi.fi h.hi.fi]; simp
  · rw [ord_lt h.hi.fi b_dzero.fi, v_dzero, l2]
    generalize 2 ^ UD = E at l1 hp
    exact decide_eq_false (by omega)
  · rw [order_fi h.hi.fi b_dzero.fi, v_dzero, l2]
    generalize 2 ^ UD = E at l1 hp
    rw [Int.compare_eq_gt.2 (by omega)]; rfl
  · rw [ord_gt h.hi.fi b_dmax, l2, m2]
    generalize 2 ^ UD = E at l1 a m1 hp
    exact decide_eq_false (by omega)
theorem redD_end : ∀ (f : Nat) {x : Nat} {e : Int}, D1 f x e → ∃ y q, redD f x e = (y, q) ∧ BD 3 1 y ∧ LD 3 2 y ∧ -14 ≤ q ∧ q ≤ 1
  | 0, x, e, h => by obtain ⟨j, h1, h2, _⟩ := h; omega
  | f + 1, x, e, h => by
    cases hg : lt75 x
    · obtain ⟨e1, b, l, he⟩ := h.stop hg
      exact ⟨x, e, e1, b, l, he⟩
    · obtain ⟨_, _, e1, hD⟩ := h.step hg
      obtain ⟨y, q, e2, r⟩ := redD_end f hD
      exact ⟨y, q, e1.trans e2, r⟩
theorem redU_end : ∀ (f : Nat) {x : Nat} {e : Int}, U1 f x e → ∃ y q, redU f x e = (y, q) ∧ D1 15 y q
  | 0, x, e, h => by rcases h with ⟨h, _⟩ | ⟨h, _⟩ <;> cases h
  | f + 1, x, e, h => by
    cases hg : ge15 x
    · obtain ⟨e1, hD⟩ := h.stop hg
      exact ⟨x, e, e1, hD⟩
    · obtain ⟨_, _, e1, hU⟩ := h.step hg
      obtain ⟨y, q, e2, r⟩ := redU_end f hU
      exact ⟨y, q, e1.trans e2, r⟩
theorem logG_b {x : Nat} (h : Nr x 2 0 14) : BD 16 0 (logG x) := by
  obtain ⟨y, q, e1, hD⟩ := redU_end 2 (.inl ⟨rfl, rfl, h⟩)
  obtain ⟨z, p, e2, b, l, he⟩ := redD_end 15 hD
  unfold logG
  rw [e1, e2]
  exact (logE_ok b l he).2.2.2.2
theorem logG_is {x y z : Nat} {q p : Int} (h1 : redU 2 x 0 = (y, q)) (h2 : redD 15 y q = (z, p)) : logG x = logE z p := by
  unfold logG
  rw [h1, h2]
def lgR (r : Int) : Nat := narrow (logG (wide (rateX r)))
theorem lgR_ok {r : Int} (h : -9999 ≤ r ∧ r ≤ 10000) : floatToFloatBits .f64 (logG (wide (rateX r))) .f32 = some (lgR r) ∧ BS 16 0 (lgR r) := narrow_b (logG_b (rate_nr h).2) (repS (by decide) (by decide) (by decide))
/-! ### the sum, the mean, the result -/
def sumL (rs : List Int) : Nat → Nat
  | 0 => 0
  | k + 1 => fadd (sumL rs k) (lgR (rs[k]?.getD 0))
section
variable {rs : List Int} (hv : ∀ r ∈ rs, -9999 ≤ r ∧ r ≤ 10000) (hl : rs.length ≤ 60)
include hv hl
theorem sum_b : ∀ k, k ≤ rs.length → BS (16 * k) 0 (sumL rs k) ∧ (k < rs.length → okA (sumL rs k) (lgR (rs[k]?.getD 0)))
  | 0, h => ⟨bs_zero, fun h0 => okA_fin bs_zero.fi (lgR_ok (hv _ (getD_mem h0))).2.fi⟩
  | k + 1, h => by
    obtain ⟨b, _⟩ := sum_b k (by omega)
    have hm := (lgR_ok (hv _ (getD_mem (show k < rs.length by omega)))).2
    obtain ⟨r, e, b2⟩ := add_b fmS b hm (repS (by omega) (by omega) (by decide))
    obtain ⟨ok, hq⟩ := okA_of e
    have b3 : BS (16 * (k + 1)) 0 (sumL rs (k + 1)) := by
      show BS _ _ (fadd (sumL rs k) (lgR (rs[k]?.getD 0)))
      rw [hq]; exact b2
    exact ⟨b3, fun h0 => okA_fin b3.fi (lgR_ok (hv _ (getD_mem h0))).2.fi⟩
end
def meanL (rs : List Int) : Nat := fdiv (sumL rs rs.length) (ofI rs.length)
theorem mean_b {rs : List Int} (hv : ∀ r ∈ rs, -9999 ≤ r ∧ r ≤ 10000) (hl : rs.length ≤ 60) (h1 : 1 ≤ rs.length) : okD (sumL rs rs.length) (ofI rs.length) ∧ BS 16 0 (meanL rs) := by
  have b := (sum_b hv hl rs.length (Nat.le_refl _)).1
  have bn : BS rs.length 0 (ofI rs.length) := ofI_b (by omega) (by omega) (by omega)
  have ln : LS1 rs.length 0 (ofI rs.length) := ofI_lw (by omega) (by omega) (by omega) (by omega)
  obtain ⟨r, e, b2⟩ := div_b (c := 16) (k := 0) fmS b.fi bn.fi (ln.pos_vm (by omega)) (repS (by decide) (by decide) (by decide)) (by
    have a := b.le
    have c := ln.ge
    rw [Nat.pow_zero, Nat.mul_one] at a c ⊢
    refine Nat.le_trans a ?_
    rw [Nat.mul_assoc]
    exact Nat.mul_le_mul_left 16 c)
  obtain ⟨ok, hq⟩ := okD_of e
  unfold meanL
  rw [hq]
  exact ⟨ok, b2⟩
theorem mean_tests {x : Nat} (h : BS 16 0 x) : (Ieee.single.order x 1128792064 == some .gt) = false ∧ (Ieee.single.order x 3276275712 == some .lt) = false := by
  have a := h.le
  have hv : (vl Ieee.single x).natAbs = vm Ieee.single x := vl_abs Ieee.single x
  have hp := Nat.two_pow_pos 149
  have e2 : vl Ieee.single 3276275712 = -(vm Ieee.single 3276275712 : Int) := vs_m200
  refine ⟨?_, ?_⟩
  · rw [ord_gt h.fi bs_200.fi, ls_200.vl]
    have b := ls_200.ge
    generalize 2 ^ 149 = E at a b hp
    exact decide_eq_false (by omega)
  · rw [ord_lt h.fi bs_m200.fi, e2]
    have b : 200 * 2 ^ 149 ≤ vm Ieee.single 3276275712 * 2 ^ 0 := ls_m200
    generalize 2 ^ 149 = E at a b hp
    exact decide_eq_false (by omega)
def expR (m : Nat) : Nat := narrow (expG (wide m))
theorem wide16 {m : Nat} (h : BS 16 0 m) : BD 16 0 (wide m) := wide_b h (repD (by decide) (by decide) (by decide))
theorem expG_b {x : Nat} (h : BD 16 0 x) : BD (2 ^ 64) 0 (expG x) := (sq_b (p_b (expT_ok h).2 12 (Nat.le_refl _)) 8 (Nat.le_refl _)).1
theorem expR_ok {m : Nat} (h : BS 16 0 m) : floatToFloatBits .f64 (expG (wide m)) .f32 = some (expR m) ∧ BS (2 ^ 64) 0 (expR m) := narrow_b (expG_b (wide16 h)) (repSp (by decide))
def trV (rs : List Int) : Nat := fsub (expR (meanL rs)) 1065353216
theorem trV_ok {m : Nat} (h : BS (2 ^ 64) 0 m) : okS m 1065353216 ∧ F (fsub m 1065353216) := by
  obtain ⟨r, e, b⟩ := sub_v (c := 2 ^ 65) (k := 0) fmS h.fi bs_one.fi (repSp (by decide)) (by
    have a := h.le
    have b := bs_one.le
    have av := vl_abs Ieee.single m
    have bv := vl_abs Ieee.single 1065353216
    have hp := Nat.two_pow_pos 149
    generalize 2 ^ 149 = E at a b hp ⊢
    omega)
  obtain ⟨ok, hq⟩ := okS_of e
  rw [hq]
  exact ⟨ok, b.fi⟩
def trOk (rs : List Int) : Bool := cntIn rs 1 60 (-9999) 10000
def TimeReturn_r0 (rs : List Int) : Nat := if trOk rs then trV rs else 0
def TimeReturn_r1 (rs : List Int) : Bool := trOk rs
theorem tr_parts {rs : List Int} (h : trOk rs = true) : (∀ r ∈ rs, -9999 ≤ r ∧ r ≤ 10000) ∧ rs.length ≤ 60 ∧ 1 ≤ rs.length := by
  obtain ⟨h1, h2, h3⟩ := cntIn_iff.1 h
  refine ⟨fun r hr => ?_, by omega, by omega⟩
  unfold allIn at h3
  rw [List.all_eq_true] at h3
  have := h3 r hr
  simpa [inB] using this
theorem tr_fin {rs : List Int} (h : trOk rs = true) : F (trV rs) := by
  obtain ⟨hv, hl, h1⟩ := tr_parts h
  exact (trV_ok (expR_ok (mean_b hv hl h1).2).2).2
theorem TimeReturn_fin (rs : List Int) : nan32 (TimeReturn_r0 rs) = false := by
  unfold TimeReturn_r0
  cases h : trOk rs
  · rw [if_neg (by decide)]; exact F_nan F_zero
  · rw [if_pos rfl]; exact F_nan (tr_fin h)
theorem sumL_zero (rs : List Int) : sumL rs 0 = 0 := rfl
theorem sumL_succ (rs : List Int) (k : Nat) : sumL rs (k + 1) = fadd (sumL rs k) (lgR (rs[k]?.getD 0)) := rfl
theorem meanL_is (rs : List Int) : meanL rs = fdiv (sumL rs rs.length) (ofI rs.length) := rfl
theorem rateX_is (r : Int) : rateX r = fadd 1065353216 (fdiv (ofI r) 1176256512) := rfl
attribute [irreducible] rateX sumL meanL
end Go.Proofs.Ytcbdjkonhnafcaa
