/-
  FLOATS OF 32 BITS: the four operations as total functions, when they are valid, and how great their results are. Plain Lean.
-/
import Derived.Test.YtcbdjkonhnafcaaFq
import Derived.Laws.FloatArith
namespace Go.Proofs.Ytcbdjkonhnafcaa
open Fl
set_option linter.unusedSimpArgs false
set_option linter.unusedVariables false

theorem s_lp : Ieee.single.leastPlace = -((149 : Nat) : Int) := by decide
theorem s_bin : Ieee.single.binade = 8388608 := by decide
theorem s_inf : Ieee.single.infRung = 2139095040 := by decide
theorem s_sw : Ieee.single.signWeight = 2147483648 := by decide
theorem s_wd : 2 ^ Ieee.single.width = 4294967296 := by decide

def fadd (x y : Nat) : Nat := (Ieee.single.add x y).getD 0
def fsub (x y : Nat) : Nat := (Ieee.single.sub x y).getD 0
def fmul (x y : Nat) : Nat := (Ieee.single.mul x y).getD 0
def fdiv (x y : Nat) : Nat := (Ieee.single.div x y).getD 0
abbrev ofI (n : Int) : Nat := floatOfInt .f32 n
/-- an operation that is valid -/
def okA (x y : Nat) : Prop := Ieee.single.add x y = some (fadd x y)
def okS (x y : Nat) : Prop := Ieee.single.sub x y = some (fsub x y)
def okM (x y : Nat) : Prop := Ieee.single.mul x y = some (fmul x y)
def okD (x y : Nat) : Prop := Ieee.single.div x y = some (fdiv x y)
theorem okA_of {x y r : Nat} (h : Ieee.single.add x y = some r) : okA x y ∧ fadd x y = r := by unfold okA fadd; rw [h]; exact ⟨rfl, rfl⟩
theorem okS_of {x y r : Nat} (h : Ieee.single.sub x y = some r) : okS x y ∧ fsub x y = r := by unfold okS fsub; rw [h]; exact ⟨rfl, rfl⟩
theorem okM_of {x y r : Nat} (h : Ieee.single.mul x y = some r) : okM x y ∧ fmul x y = r := by unfold okM fmul; rw [h]; exact ⟨rfl, rfl⟩
theorem okD_of {x y r : Nat} (h : Ieee.single.div x y = some r) : okD x y ∧ fdiv x y = r := by unfold okD fdiv; rw [h]; exact ⟨rfl, rfl⟩

section
variable {P : Program} {x y : Nat}
theorem run_fadd (t : TypeId) (h : okA x y) (w : World) : (binOp .add t (.float .f32 x) (.float .f32 y)).run P w = .ok (.float .f32 (fadd x y)) w := run_float_arith w .add t .f32 x y _ h
theorem run_fsub (t : TypeId) (h : okS x y) (w : World) : (binOp .sub t (.float .f32 x) (.float .f32 y)).run P w = .ok (.float .f32 (fsub x y)) w := run_float_arith w .sub t .f32 x y _ h
theorem run_fmul (t : TypeId) (h : okM x y) (w : World) : (binOp .mul t (.float .f32 x) (.float .f32 y)).run P w = .ok (.float .f32 (fmul x y)) w := run_float_arith w .mul t .f32 x y _ h
theorem run_fdiv (t : TypeId) (h : okD x y) (w : World) : (binOp .quo t (.float .f32 x) (.float .f32 y)).run P w = .ok (.float .f32 (fdiv x y)) w := run_float_arith w .quo t .f32 x y _ h
/-- float32 of a float32 -/
theorem run_same32 (src dst : TypeId) (b : Nat) (hs : (P.underlying src).isSome = true) (hd : P.underlying dst = some (.float .f32)) (w : World) : (convert src dst (.float .f32 b)).run P w = .ok (.float .f32 b) w :=
  run_convert_float_float w src dst .f32 .f32 b b hs hd rfl
end

/-! ### finite words and bounds by powers of two -/
abbrev F (b : Nat) : Prop := Fi Ieee.single b
abbrev rk (b : Nat) : Nat := rg Ieee.single b
abbrev sn (b : Nat) : Bool := sg Ieee.single b
abbrev mag (b : Nat) : Nat := vm Ieee.single b
abbrev val (b : Nat) : Int := vl Ieee.single b
theorem rk_eq (b : Nat) : rk b = b % 2147483648 := by show b % Ieee.single.signWeight = _; rw [s_sw]
theorem mag_eq (b : Nat) : mag b = mg 8388608 (rk b) := by show mg Ieee.single.binade _ = _; rw [s_bin]
theorem F_iff {b : Nat} : F b ↔ rk b < 2139095040 := by show rg Ieee.single b < Ieee.single.infRung ↔ _; rw [s_inf]
theorem val_abs (b : Nat) : (val b).natAbs = mag b := by
  show (vl _ b).natAbs = _
  unfold vl
  cases sg Ieee.single b <;> simp
theorem mg_pow (E : Nat) : mg 8388608 ((E + 1) * 8388608) = 8388608 * 2 ^ E := by
  have := mg_at (P := 8388608) (E := E) (F := 0) (by decide)
  simpa using this
theorem mg_pw (K : Nat) : mg 8388608 ((K + 127) * 8388608) = 2 ^ (K + 149) := by
  have p23 : (2 : Nat) ^ 23 = 8388608 := by decide
  have h := mg_pow (K + 126)
  rw [show K + 126 + 1 = K + 127 by omega] at h
  rw [h, show K + 149 = 23 + (K + 126) by omega, Nat.pow_add 2 23 (K + 126), p23]

/-- a word of at most 2^K in size -/
def Bd (K b : Nat) : Prop := b < 4294967296 ∧ rk b ≤ (K + 127) * 8388608
theorem Bd.mono {K L b : Nat} (h : Bd K b) (hl : K ≤ L) : Bd L b := ⟨h.1, Nat.le_trans h.2 (Nat.mul_le_mul_right _ (Nat.add_le_add_right hl _))⟩
theorem Bd.fin {K b : Nat} (h : Bd K b) (hK : K ≤ 127) : F b := F_iff.2 (by have := h.2; omega)
theorem Bd.mag_le {K b : Nat} (h : Bd K b) : mag b ≤ 2 ^ (K + 149) := by
  rw [mag_eq, ← mg_pw]; exact mg_mono (by decide) h.2
theorem Res.bd {neg : Bool} {num den r K : Nat} (h : Res Ieee.single neg num den r) (hK : K ≤ 127) (hh : num ≤ 2 ^ (K + 149) * den) : Bd K r :=
  ⟨by have := h.wd; rwa [s_wd] at this, h.le _ (by rw [s_inf]; omega) (by rw [s_bin, mg_pw]; exact hh)⟩
theorem pow_two {K : Nat} : 2 ^ (K + 149) + 2 ^ (K + 149) = 2 ^ (K + 1 + 149) := by
  rw [show K + 1 + 149 = (K + 149) + 1 by omega, Nat.pow_succ (m := K + 149), Nat.mul_two]
theorem pw_mono {K M : Nat} (h : K ≤ M) : 2 ^ (K + 149) ≤ 2 ^ (M + 149) := Nat.pow_le_pow_right (by decide) (by omega)

section
variable {x y K L M : Nat}
theorem fadd_bd (hx : Bd K x) (hy : Bd L y) (hK : K ≤ M) (hL : L ≤ M) (hM : M ≤ 126) : okA x y ∧ Bd (M + 1) (fadd x y) := by
  obtain ⟨r, neg, h1, h2, _⟩ := add_res (hx.fin (by omega)) (hy.fin (by omega))
  obtain ⟨a, b⟩ := okA_of h1
  refine ⟨a, b ▸ Res.bd h2 (by omega) ?_⟩
  have e1 := val_abs x
  have e2 := val_abs y
  have b1 := hx.mag_le
  have b2 := hy.mag_le
  have b3 := pw_mono hK
  have b4 := pw_mono hL
  rw [← pow_two (K := M)]
  have : (vl Ieee.single x + vl Ieee.single y).natAbs ≤ mag x + mag y := by rw [← e1, ← e2]; exact Int.natAbs_add_le _ _
  omega
theorem fsub_bd (hx : Bd K x) (hy : Bd L y) (hK : K ≤ M) (hL : L ≤ M) (hM : M ≤ 126) : okS x y ∧ Bd (M + 1) (fsub x y) := by
  obtain ⟨r, neg, h1, h2, _⟩ := sub_res (hx.fin (by omega)) (hy.fin (by omega))
  obtain ⟨a, b⟩ := okS_of h1
  refine ⟨a, b ▸ Res.bd h2 (by omega) ?_⟩
  have e1 := val_abs x
  have e2 := val_abs y
  have b1 := hx.mag_le
  have b2 := hy.mag_le
  have b3 := pw_mono hK
  have b4 := pw_mono hL
  rw [← pow_two (K := M)]
  have : (vl Ieee.single x - vl Ieee.single y).natAbs ≤ mag x + mag y := by rw [← e1, ← e2]; exact Int.natAbs_sub_le _ _
  omega
theorem fmul_bd (hx : Bd K x) (hy : Bd L y) (hM : K + L ≤ 127) : okM x y ∧ Bd (K + L) (fmul x y) := by
  obtain ⟨r, h1, h2⟩ := mul_res s_lp (hx.fin (by omega)) (hy.fin (by omega))
  obtain ⟨a, b⟩ := okM_of h1
  refine ⟨a, b ▸ Res.bd h2 (by omega) ?_⟩
  refine Nat.le_trans (Nat.mul_le_mul hx.mag_le hy.mag_le) ?_
  rw [← Nat.pow_add, ← Nat.pow_add]
  exact Nat.pow_le_pow_right (by decide) (by omega)
/-- a quotient: at most 2^K, if the dividend is at most 2^K of the divisor -/
theorem fdiv_bd (hx : F x) (hy : F y) (h0 : mag y ≠ 0) (hK : K ≤ 127) (h : mag x * 2 ^ 149 ≤ 2 ^ (K + 149) * mag y) : okD x y ∧ Bd K (fdiv x y) := by
  obtain ⟨r, h1, h2⟩ := div_res s_lp hx hy h0
  obtain ⟨a, b⟩ := okD_of h1
  exact ⟨a, b ▸ Res.bd h2 hK h⟩
/-- sums of finite words are valid -/
theorem okA_fin (hx : F x) (hy : F y) : okA x y := by
  obtain ⟨r, neg, h1, _⟩ := add_res hx hy
  exact (okA_of h1).1
theorem okS_fin (hx : F x) (hy : F y) : okS x y := by
  obtain ⟨r, neg, h1, _⟩ := sub_res hx hy
  exact (okS_of h1).1
theorem okM_fin (hx : F x) (hy : F y) : okM x y := by
  obtain ⟨r, h1, _⟩ := mul_res s_lp hx hy
  exact (okM_of h1).1
end
theorem fint_bd {n : Int} {K : Nat} (hK : K ≤ 127) (h : n.natAbs ≤ 2 ^ K) : Bd K (ofI n) := by
  refine Res.bd (int_res s_lp n) hK ?_
  rw [Nat.mul_one, Nat.pow_add]
  exact Nat.mul_le_mul_right _ h

/-! ### numbers from 0 to 1 -/
theorem mag_one : mag 1065353216 = 2 ^ 149 := by
  rw [mag_eq, rk_eq]; exact mg_pw 0
theorem mag_zero : mag 0 = 0 := by rw [mag_eq, rk_eq]; rfl
theorem F_one : F 1065353216 := F_iff.2 (by rw [rk_eq]; decide)
theorem F_zero : F 0 := F_iff.2 (by rw [rk_eq]; decide)
theorem val_one : val 1065353216 = 2 ^ 149 := by
  have h := mag_one
  show vl _ _ = _
  unfold vl
  rw [show sg Ieee.single 1065353216 = false by decide, if_neg (by decide)]
  show (mag 1065353216 : Int) = _
  rw [h]; rfl
theorem val_zero : val 0 = 0 := by
  have h := val_abs 0
  rw [mag_zero] at h
  omega
structure In1 (b : Nat) : Prop where
  lt : b < 4294967296
  le : rk b ≤ 1065353216
  nn : 0 ≤ val b
theorem In1.bd {b : Nat} (h : In1 b) : Bd 0 b := ⟨h.lt, by have := h.le; omega⟩
theorem In1.fin {b : Nat} (h : In1 b) : F b := h.bd.fin (by decide)
theorem In1.mag_le {b : Nat} (h : In1 b) : mag b ≤ 2 ^ 149 := h.bd.mag_le
theorem nn_mag {b : Nat} (h : 0 ≤ val b) : val b = mag b := by have := val_abs b; omega
theorem val_pos_of {neg : Bool} {num den r : Nat} (h : Res Ieee.single neg num den r) (hn : neg = false) : 0 ≤ val r := by
  have := h.sgn
  show 0 ≤ vl _ r
  unfold vl
  rw [this, hn, if_neg (by decide)]
  omega
theorem val_nn_of {neg : Bool} {num den r : Nat} (h : Res Ieee.single neg num den r) (hn : neg = false ∨ num = 0) (hd : 0 < den) : 0 ≤ val r := by
  rcases hn with hn | hn
  · exact val_pos_of h hn
  · have h0 : rk r ≤ 0 := h.le 0 (by rw [s_inf]; decide) (by rw [hn]; exact Nat.zero_le _)
    have h1 : mag r = 0 := by rw [mag_eq, Nat.le_zero.1 h0]; rfl
    have := val_abs r
    omega
theorem In1_one : In1 1065353216 := ⟨by decide, by rw [rk_eq]; decide, by rw [val_one]; decide⟩
theorem In1_zero : In1 0 := ⟨by decide, by rw [rk_eq]; decide, by rw [val_zero]; decide⟩
/-- 1 - q -/
theorem one_sub {q : Nat} (h : In1 q) : okS 1065353216 q ∧ In1 (fsub 1065353216 q) := by
  obtain ⟨r, neg, h1, h2, h3, h4, h5⟩ := sub_res F_one h.fin
  obtain ⟨a, b⟩ := okS_of h1
  have e1 : vl Ieee.single 1065353216 = 2 ^ 149 := val_one
  have e2 : vl Ieee.single q = mag q := nn_mag h.nn
  have b1 := h.mag_le
  have hp : ((2 ^ 149 : Nat) : Int) = 2 ^ 149 := rfl
  have hb : Bd 0 r := Res.bd h2 (by decide) (by rw [e1, e2]; simp only [Nat.zero_add, Nat.mul_one]; omega)
  refine ⟨a, b ▸ ⟨hb.1, by have := hb.2; omega, ?_⟩⟩
  by_cases h0 : vl Ieee.single 1065353216 - vl Ieee.single q = 0
  · exact val_nn_of h2 (.inr (by rw [h0]; rfl)) (by decide)
  · exact val_pos_of h2 (h3 (by omega))
theorem sn_of {b : Nat} (h : 0 ≤ val b) (hm : mag b ≠ 0) : sn b = false := by
  cases hs : sn b with
  | false => rfl
  | true =>
    exfalso
    have h1 : vl Ieee.single b = -(vm Ieee.single b : Int) := by unfold vl; rw [show sg Ieee.single b = true from hs, if_pos rfl]
    have h2 : (0 : Int) ≤ vl Ieee.single b := h
    have h3 : vm Ieee.single b ≠ 0 := hm
    omega
theorem mul_in1 {x y : Nat} (hx : In1 x) (hy : In1 y) : okM x y ∧ In1 (fmul x y) := by
  obtain ⟨r, h1, h2⟩ := mul_res s_lp hx.fin hy.fin
  obtain ⟨a, b⟩ := okM_of h1
  have hb : Bd 0 r := Res.bd h2 (by decide) (by simp only [Nat.zero_add]; exact Nat.mul_le_mul hx.mag_le hy.mag_le)
  refine ⟨a, b ▸ ⟨hb.1, by have := hb.2; omega, val_nn_of h2 ?_ (Nat.two_pow_pos _)⟩⟩
  by_cases h0 : mag x = 0
  · exact .inr (by show mag x * mag y = 0; rw [h0, Nat.zero_mul])
  · by_cases h3 : mag y = 0
    · exact .inr (by show mag x * mag y = 0; rw [h3, Nat.mul_zero])
    · left
      show (sn x ^^ sn y) = false
      rw [sn_of hx.nn h0, sn_of hy.nn h3]; rfl
/-- a number from 1 on -/
structure Ge1 (b : Nat) : Prop where
  lt : b < 4294967296
  ge : 1065353216 ≤ rk b
  nn : 0 ≤ val b
theorem Ge1.mag_ge {b : Nat} (h : Ge1 b) : 2 ^ 149 ≤ mag b := by
  rw [mag_eq, ← mag_one, mag_eq]
  refine mg_mono (by decide) ?_
  rw [rk_eq 1065353216]; exact h.ge
/-- 1 + a number that is not negative, of at most 2^K -/
theorem one_add {q K : Nat} (h : Bd K q) (hn : 0 ≤ val q) (hK : K ≤ 126) : okA 1065353216 q ∧ Bd (K + 1) (fadd 1065353216 q) ∧ Ge1 (fadd 1065353216 q) := by
  obtain ⟨ok, hb⟩ := fadd_bd (K := 0) In1_one.bd h (by omega) (Nat.le_refl K) hK
  obtain ⟨r, neg, h1, h2, h3, h4, h5⟩ := add_res F_one (h.fin (by omega))
  obtain ⟨a, b⟩ := okA_of h1
  have e1 : vl Ieee.single 1065353216 = 2 ^ 149 := val_one
  have e2 : vl Ieee.single q = mag q := nn_mag hn
  have hp : ((2 ^ 149 : Nat) : Int) = 2 ^ 149 := rfl
  refine ⟨ok, hb, b ▸ ⟨b ▸ hb.1, ?_, val_pos_of h2 (h3 (by omega))⟩⟩
  have := h2.ge 1065353216 (by rw [s_inf]; decide) (by
    rw [s_bin, e1, e2, show mg 8388608 1065353216 = 2 ^ 149 from mg_pw 0]
    omega)
  exact this
/-- 1 / a number from 1 on -/
theorem one_div {y : Nat} (h : Ge1 y) (hf : F y) : okD 1065353216 y ∧ In1 (fdiv 1065353216 y) := by
  have h0 : mag y ≠ 0 := by have := h.mag_ge; have := Nat.two_pow_pos 149; omega
  obtain ⟨r, h1, h2⟩ := div_res s_lp F_one hf h0
  obtain ⟨a, b⟩ := okD_of h1
  have hb : Bd 0 r := Res.bd h2 (by decide) (by
    have := h.mag_ge
    show mag 1065353216 * 2 ^ 149 ≤ _ * mag y
    rw [mag_one, Nat.zero_add]
    exact Nat.mul_le_mul_left _ this)
  refine ⟨a, b ▸ ⟨hb.1, by have := hb.2; omega, val_pos_of h2 ?_⟩⟩
  show (sn 1065353216 ^^ sn y) = false
  rw [sn_of h.nn h0]; decide

/-! ### the order -/
theorem order_fin {x y : Nat} (hx : F x) (hy : F y) : Ieee.single.order x y = some (compare (val x) (val y)) := order_fi hx hy
theorem read_inf {b : Nat} (h : rk b = 2139095040) : Ieee.single.read b = .infinity (sn b) := by
  have h1 : b % Ieee.single.signWeight = 2139095040 := h
  unfold Ieee.Format.read
  simp only
  rw [h1, s_bin, s_inf]
  rfl
theorem read_nan {b : Nat} (h : 2139095040 < rk b) : ∃ s t, Ieee.single.read b = .nan s t := by
  have h1 : 2139095040 < b % Ieee.single.signWeight := h
  unfold Ieee.Format.read
  simp only
  rw [s_bin, s_inf, if_neg (by omega), if_neg (by omega), if_neg (by omega)]
  exact ⟨_, _, rfl⟩
/-- the test '0 ≤ x and x ≤ 1', as the program asks it -/
def ge0 (b : Nat) : Bool := Ieee.single.order b 0 == some .gt || Ieee.single.order b 0 == some .eq
def le1 (b : Nat) : Bool := Ieee.single.order b 1065353216 == some .lt || Ieee.single.order b 1065353216 == some .eq
theorem in1_of {b : Nat} (hb : b < 4294967296) (h0 : ge0 b = true) (h1 : le1 b = true) : In1 b := by
  unfold ge0 at h0
  unfold le1 at h1
  by_cases hf : F b
  · rw [order_fin hf F_zero, val_zero] at h0
    rw [order_fin hf F_one, val_one] at h1
    have hp : ((2 ^ 149 : Nat) : Int) = 2 ^ 149 := rfl
    have h2 : 0 ≤ val b := by
      rcases Int.lt_trichotomy (val b) 0 with h | h | h
      · rw [Int.compare_eq_lt.2 h] at h0; simp at h0
      · omega
      · omega
    have h3 : val b ≤ 2 ^ 149 := by
      rcases Int.lt_trichotomy (val b) (2 ^ 149) with h | h | h
      · omega
      · omega
      · rw [Int.compare_eq_gt.2 h] at h1; simp at h1
    refine ⟨hb, ?_, h2⟩
    rcases Nat.lt_or_ge 1065353216 (rk b) with hlt | hge
    · exfalso
      have h4 : mg 8388608 1065353217 ≤ mag b := by rw [mag_eq]; exact mg_mono (by decide) hlt
      have h5 : mg 8388608 1065353217 = 8388609 * 2 ^ 126 := mg_at (P := 8388608) (E := 126) (F := 1) (by decide)
      have h6 := nn_mag h2
      have h7 : (2 : Nat) ^ 149 < 8388609 * 2 ^ 126 := by decide
      omega
    · exact hge
  · have hf' : ¬ rk b < 2139095040 := fun h => hf (F_iff.2 h)
    exfalso
    by_cases hi : rk b = 2139095040
    · have hr := read_inf hi
      have hz : ∃ s m e, Ieee.single.read 0 = .number s m e := ⟨_, _, _, by rfl⟩
      obtain ⟨s, m, e, hz⟩ := hz
      obtain ⟨s', m', e', ho⟩ : ∃ s m e, Ieee.single.read 1065353216 = .number s m e := by
        obtain ⟨m, e, h, _⟩ := read_fi F_one
        exact ⟨_, m, e, h⟩
      unfold Ieee.Format.order at h0 h1
      rw [hr, hz] at h0
      rw [hr, ho] at h1
      simp only [Ieee.Datum.order] at h0 h1
      cases hs : sn b <;> rw [hs] at h0 h1 <;> simp at h0 h1
    · obtain ⟨s, t, hr⟩ := read_nan (b := b) (by omega)
      unfold Ieee.Format.order at h0
      rw [hr] at h0
      simp [Ieee.Datum.order] at h0
end Go.Proofs.Ytcbdjkonhnafcaa
