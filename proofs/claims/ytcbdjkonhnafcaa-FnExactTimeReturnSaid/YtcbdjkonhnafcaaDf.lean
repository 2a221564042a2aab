/-
  FLOATS OF 64 BITS: the four operations as total functions, bounds of literals, from 32 bits to 64 bits and back. Plain Lean.
-/
import Derived.Test.YtcbdjkonhnafcaaFb
import Derived.Test.YtcbdjkonhnafcaaFd
namespace Go.Proofs.Ytcbdjkonhnafcaa
open Fl
set_option linter.unusedSimpArgs false
set_option linter.unusedVariables false

theorem fmS : Fm Ieee.single 149 23 255 := ⟨by decide, by decide, by decide⟩
/-- the least place of 64 bits, hidden: the powers are great -/
def UD : Nat := 1074
theorem UD_eq : UD = 1074 := rfl
theorem fmD : Fm Ieee.double UD 52 2047 := ⟨by decide, by decide, by decide⟩
theorem d_wd : 2 ^ Ieee.double.width = 18446744073709551616 := by decide
theorem lit_b' {b c k : Nat} (h : (decide (b < 18446744073709551616) && (decide (rg Ieee.double b < Ieee.double.infRung) && decide (vm Ieee.double b * 2 ^ k ≤ c * 2 ^ UD))) = true) : B Ieee.double UD c k b := by
  rw [Bool.and_eq_true, Bool.and_eq_true] at h
  exact ⟨by rw [d_wd]; exact of_decide_eq_true h.1, (of_decide_eq_true h.2.1 : rg Ieee.double b < Ieee.double.infRung), of_decide_eq_true h.2.2⟩
theorem lit_lw' {b c k : Nat} (h : (decide (sg Ieee.double b = false) && decide (c * 2 ^ UD ≤ vm Ieee.double b * 2 ^ k)) = true) : Lw Ieee.double UD c k b := by
  rw [Bool.and_eq_true] at h
  exact ⟨of_decide_eq_true h.1, of_decide_eq_true h.2⟩
attribute [irreducible] UD
theorem repD {c k : Nat} (h0 : 0 < c) (hc : c < 9007199254740992) (hk : k ≤ 1000) : Rep UD 52 2047 c k := Rep.small h0 hc (by rw [UD_eq]; omega) (by rw [UD_eq]; omega)
theorem repDp {j : Nat} (h : j ≤ 900) : Rep UD 52 2047 (2 ^ j) 0 := Rep.pow (by rw [UD_eq]; omega)
theorem repS {c k : Nat} (h0 : 0 < c) (hc : c < 16777216) (hk : k ≤ 149) : Rep 149 23 255 c k := Rep.small h0 hc hk (by omega)
theorem repSp {j : Nat} (h : j ≤ 100) : Rep 149 23 255 (2 ^ j) 0 := Rep.pow (by omega)

def dadd (x y : Nat) : Nat := (Ieee.double.add x y).getD 0
def dsub (x y : Nat) : Nat := (Ieee.double.sub x y).getD 0
def dmul (x y : Nat) : Nat := (Ieee.double.mul x y).getD 0
def ddiv (x y : Nat) : Nat := (Ieee.double.div x y).getD 0
abbrev eD (n : Int) : Nat := floatOfInt .f64 n
def okDA (x y : Nat) : Prop := Ieee.double.add x y = some (dadd x y)
def okDS (x y : Nat) : Prop := Ieee.double.sub x y = some (dsub x y)
def okDM (x y : Nat) : Prop := Ieee.double.mul x y = some (dmul x y)
def okDD (x y : Nat) : Prop := Ieee.double.div x y = some (ddiv x y)
section
variable {P : Program} {x y : Nat}
theorem run_dadd (t : TypeId) (h : okDA x y) (w : World) : (binOp .add t (.float .f64 x) (.float .f64 y)).run P w = .ok (.float .f64 (dadd x y)) w := run_float_arith w .add t .f64 x y _ h
theorem run_dsub (t : TypeId) (h : okDS x y) (w : World) : (binOp .sub t (.float .f64 x) (.float .f64 y)).run P w = .ok (.float .f64 (dsub x y)) w := run_float_arith w .sub t .f64 x y _ h
theorem run_dmul (t : TypeId) (h : okDM x y) (w : World) : (binOp .mul t (.float .f64 x) (.float .f64 y)).run P w = .ok (.float .f64 (dmul x y)) w := run_float_arith w .mul t .f64 x y _ h
theorem run_ddiv (t : TypeId) (h : okDD x y) (w : World) : (binOp .quo t (.float .f64 x) (.float .f64 y)).run P w = .ok (.float .f64 (ddiv x y)) w := run_float_arith w .quo t .f64 x y _ h
theorem run_same64 (src dst : TypeId) (b : Nat) (hs : (P.underlying src).isSome = true) (hd : P.underlying dst = some (.float .f64)) (w : World) : (convert src dst (.float .f64 b)).run P w = .ok (.float .f64 b) w :=
  run_convert_float_float w src dst .f64 .f64 b b hs hd rfl
end
abbrev BD (c k b : Nat) : Prop := B Ieee.double UD c k b
abbrev LD (c k b : Nat) : Prop := Lw Ieee.double UD c k b
abbrev BS (c k b : Nat) : Prop := B Ieee.single 149 c k b
abbrev LS1 (c k b : Nat) : Prop := Lw Ieee.single 149 c k b
section
variable {c d k l x y : Nat}
theorem some_of {o : Option Nat} {p : Nat → Prop} (h : ∃ r, o = some r ∧ p r) : o = some (o.getD 0) ∧ p (o.getD 0) := by
  obtain ⟨r, e, hp⟩ := h
  subst e; exact ⟨rfl, hp⟩
theorem dadd_b (hx : BD c k x) (hy : BD d k y) (hr : Rep UD 52 2047 (c + d) k) : okDA x y ∧ BD (c + d) k (dadd x y) := some_of (add_b fmD hx hy hr)
theorem dsub_v (hx : Fi Ieee.double x) (hy : Fi Ieee.double y) (hr : Rep UD 52 2047 c k) (h : (vl Ieee.double x - vl Ieee.double y).natAbs * 2 ^ k ≤ c * 2 ^ UD) : okDS x y ∧ BD c k (dsub x y) := some_of (sub_v fmD hx hy hr h)
theorem dadd_v (hx : Fi Ieee.double x) (hy : Fi Ieee.double y) (hr : Rep UD 52 2047 c k) (h : (vl Ieee.double x + vl Ieee.double y).natAbs * 2 ^ k ≤ c * 2 ^ UD) : okDA x y ∧ BD c k (dadd x y) := some_of (add_v fmD hx hy hr h)
theorem dadd_lw (hx : Fi Ieee.double x) (hy : Fi Ieee.double y) (hr : Rep UD 52 2047 c k) (hc : 0 < c) (h : c * 2 ^ UD ≤ (vl Ieee.double x + vl Ieee.double y).natAbs * 2 ^ k) (hp : 0 ≤ vl Ieee.double x + vl Ieee.double y) : LD c k (dadd x y) := (some_of (add_lw fmD hx hy hr hc h hp)).2
theorem dmul_b (hx : BD c k x) (hy : BD d l y) (hr : Rep UD 52 2047 (c * d) (k + l)) : okDM x y ∧ BD (c * d) (k + l) (dmul x y) := some_of (mul_b fmD hx hy hr)
theorem dmul_lw (hx : Fi Ieee.double x) (hy : Fi Ieee.double y) (gx : LD c k x) (gy : LD d l y) (hr : Rep UD 52 2047 (c * d) (k + l)) : LD (c * d) (k + l) (dmul x y) := (some_of (mul_lw fmD hx hy gx gy hr)).2
theorem ddiv_b (hx : Fi Ieee.double x) (hy : Fi Ieee.double y) (h0 : vm Ieee.double y ≠ 0) (hr : Rep UD 52 2047 c k) (h : vm Ieee.double x * 2 ^ k ≤ c * vm Ieee.double y) : okDD x y ∧ BD c k (ddiv x y) := some_of (div_b fmD hx hy h0 hr h)
theorem ddiv_lw (hx : Fi Ieee.double x) (hy : Fi Ieee.double y) (h0 : vm Ieee.double y ≠ 0) (sx : sg Ieee.double x = false) (sy : sg Ieee.double y = false) (hr : Rep UD 52 2047 c k) (h : c * vm Ieee.double y ≤ vm Ieee.double x * 2 ^ k) : LD c k (ddiv x y) := (some_of (div_lw fmD hx hy h0 sx sy hr h)).2
theorem eD_b {n : Int} (hn : n.natAbs ≤ c) (hr : Rep UD 52 2047 c 0) : BD c 0 (eD n) := int_b fmD hn hr
theorem eD_lw {n : Int} (hp : 0 ≤ n) (hn : c ≤ n.natAbs) (hr : Rep UD 52 2047 c 0) : LD c 0 (eD n) := int_lw fmD hp hn hr
theorem Fl.Lw.pos_vm {f : Ieee.Format} {U : Nat} (h : Lw f U c k x) (hc : 0 < c) : vm f x ≠ 0 := by
  intro e
  have h1 := h.ge
  rw [e, Nat.zero_mul] at h1
  have := Nat.mul_pos hc (Nat.two_pow_pos U)
  omega
end
/-! ### 32 bits and 64 bits -/
theorem UD_sum {D : Nat} (hD : D = 925) : UD = 149 + D := by rw [UD_eq, hD]
theorem wide_eq {b : Nat} (h : F b) : ∃ (m : Nat) (e : Int), Ieee.single.leastPlace ≤ e ∧ mag b = m * 2 ^ (e - Ieee.single.leastPlace).toNat ∧ wide b = Ieee.double.nearest (sg Ieee.single b) m e := by
  obtain ⟨m, e, hr, he, hm⟩ := read_fi h
  refine ⟨m, e, he, hm, ?_⟩
  have hw := (wide_fin h).1
  have hd : FloatKind.f32.decode b = .number (sg Ieee.single b) m e := hr
  unfold floatToFloatBits at hw
  rw [if_neg (by decide), hd] at hw
  simp only at hw
  split at hw
  · cases hw
  · injection hw with hw
    exact hw.symm
theorem wide_res {b : Nat} (h : F b) {D : Nat} (hD : D = 925) : Res Ieee.double (sg Ieee.single b) (mag b * 2 ^ D) (2 ^ 0) (wide b) := by
  obtain ⟨m, e, he, hm, hw⟩ := wide_eq h
  rw [hw]
  refine (near Ieee.double (sg Ieee.single b) m e).res (S := 0) ?_ ?_
  · have := s_lp; have := d_lp; omega
  · have h3 : (e - Ieee.double.leastPlace + ((0 : Nat) : Int)).toNat = (e - Ieee.single.leastPlace).toNat + D := by have := s_lp; have := d_lp; omega
    rw [h3, Nat.pow_add 2 _ D, ← Nat.mul_assoc, ← hm]
theorem wide_b {b c k : Nat} (h : BS c k b) (hr : Rep UD 52 2047 c k) : BD c k (wide b) := by
  obtain ⟨D, hD⟩ : ∃ D : Nat, D = 925 := ⟨_, rfl⟩
  refine (wide_res h.fi hD).b fmD hr ?_
  rw [UD_sum hD, Nat.pow_add, Nat.pow_zero, Nat.mul_one]
  calc mag b * 2 ^ D * 2 ^ k = mag b * 2 ^ k * 2 ^ D := by simp only [Nat.mul_comm, Nat.mul_left_comm, Nat.mul_assoc]
    _ ≤ c * 2 ^ 149 * 2 ^ D := Nat.mul_le_mul_right _ h.le
    _ = c * (2 ^ 149 * 2 ^ D) := by rw [Nat.mul_assoc]
theorem wide_lw {b c k : Nat} (hf : F b) (h : LS1 c k b) (hr : Rep UD 52 2047 c k) : LD c k (wide b) := by
  obtain ⟨D, hD⟩ : ∃ D : Nat, D = 925 := ⟨_, rfl⟩
  refine (wide_res hf hD).lw fmD h.pos hr ?_
  rw [UD_sum hD, Nat.pow_add, Nat.pow_zero, Nat.mul_one]
  calc c * (2 ^ 149 * 2 ^ D) = c * 2 ^ 149 * 2 ^ D := by rw [Nat.mul_assoc]
    _ ≤ mag b * 2 ^ k * 2 ^ D := Nat.mul_le_mul_right _ h.ge
    _ = mag b * 2 ^ D * 2 ^ k := by simp only [Nat.mul_comm, Nat.mul_left_comm, Nat.mul_assoc]
def narrow (b : Nat) : Nat := (floatToFloatBits .f64 b .f32).getD 0
theorem narrow_b {b c k : Nat} (h : BD c k b) (hr : Rep 149 23 255 c k) : floatToFloatBits .f64 b .f32 = some (narrow b) ∧ BS c k (narrow b) := by
  obtain ⟨D, hD⟩ : ∃ D : Nat, D = 925 := ⟨_, rfl⟩
  obtain ⟨m, e, hrd, he, hm⟩ := read_fi h.fi
  have hR : Res Ieee.single (sg Ieee.double b) (vm Ieee.double b) (2 ^ D) (Ieee.single.nearest (sg Ieee.double b) m e) := by
    refine (near Ieee.single (sg Ieee.double b) m e).res (S := D) ?_ ?_
    · have := s_lp; have := d_lp; omega
    · have h3 : (e - Ieee.single.leastPlace + (D : Int)).toNat = (e - Ieee.double.leastPlace).toNat := by have := s_lp; have := d_lp; omega
      rw [h3, ← hm]
  have hB : BS c k (Ieee.single.nearest (sg Ieee.double b) m e) := by
    refine hR.b fmS hr ?_
    have := h.le
    rw [UD_sum hD, Nat.pow_add] at this
    calc vm Ieee.double b * 2 ^ k ≤ c * (2 ^ 149 * 2 ^ D) := this
      _ = c * 2 ^ 149 * 2 ^ D := by rw [Nat.mul_assoc]
  have hd : FloatKind.f64.decode b = .number (sg Ieee.double b) m e := hrd
  have hni : (FloatKind.f32.decode (FloatKind.f32.encode (.number (sg Ieee.double b) m e))).isInfinity = false := by
    obtain ⟨m', e', hr', _⟩ := read_fi hB.fi
    have : FloatKind.f32.decode (FloatKind.f32.encode (.number (sg Ieee.double b) m e)) = .number (sg Ieee.single (Ieee.single.nearest (sg Ieee.double b) m e)) m' e' := hr'
    rw [this]; rfl
  have hs : floatToFloatBits .f64 b .f32 = some (Ieee.single.nearest (sg Ieee.double b) m e) := by
    unfold floatToFloatBits
    rw [if_neg (by decide), hd]
    simp only [hni]
    rfl
  unfold narrow
  rw [hs]
  exact ⟨rfl, hB⟩
end Go.Proofs.Ytcbdjkonhnafcaa
