/-
  ValueOfFlows: what the program's and the reference's functions return.
-/
import Derived.Test.YtefoebaoejoamaaFin
import Derived.Test.YtefoebaoejoamaaReserve
import Derived.Test.YtefoebaoejoamaaList
namespace Go.Proofs.Ytefoebaoejoamaa
open Fl
open Go.ChangeShapes Go.WideShapes Go.ChangeAt Go.RowKit
set_option linter.unusedVariables false

/-! ### rates from -1/2 to 1 -/
structure Half1 (b : Nat) : Prop where
  lt : b < 4294967296
  le : rk b ≤ 1065353216
  lo : -(2 ^ 148) ≤ val b
theorem Half1.bd {b : Nat} (h : Half1 b) : Bd 0 b := ⟨h.lt, by have := h.le; omega⟩
theorem Half1.fin {b : Nat} (h : Half1 b) : F b := h.bd.fin (by decide)
theorem Half1.mag_le {b : Nat} (h : Half1 b) : mag b ≤ 2 ^ 149 := h.bd.mag_le
theorem rk_of {b : Nat} (h : b < 2147483648) : rk b = b := by rw [rk_eq]; exact Nat.mod_eq_of_lt h
theorem mg_half : mg 8388608 1056964608 = 2 ^ 148 := by
  have h := mg_at (P := 8388608) (E := 125) (F := 0) (by decide)
  have p23 : (2 : Nat) ^ 23 = 8388608 := by decide
  rw [show (125 + 1) * 8388608 + 0 = 1056964608 by decide, Nat.add_zero] at h
  rw [h, ← p23, ← Nat.pow_add 2 23 125]
theorem mg_one : mg 8388608 1065353216 = 2 ^ 149 := mg_pw 0
theorem mg_twice : mg 8388608 1073741824 = 2 ^ 150 := mg_pw 1
theorem mag_le_of {b c : Nat} (h : rk b ≤ c) : mag b ≤ mg 8388608 c := by rw [mag_eq]; exact mg_mono (by decide) h
theorem mag_ge_of {b c : Nat} (h : c ≤ rk b) : mg 8388608 c ≤ mag b := by rw [mag_eq]; exact mg_mono (by decide) h
theorem F_two : F 1073741824 := F_iff.2 (by rw [rk_of (by decide)]; decide)
theorem mag_two : mag 1073741824 = 2 ^ 150 := by rw [mag_eq, rk_of (by decide)]; exact mg_twice
theorem val_half : val 3204448256 = -(2 ^ 148) := by
  have h1 : mag 3204448256 = 2 ^ 148 := by rw [mag_eq, show rk 3204448256 = 1056964608 by rw [rk_eq]]; exact mg_half
  show vl _ _ = _
  unfold vl
  rw [show sg Ieee.single 3204448256 = true by decide, if_pos rfl]
  show -(mag 3204448256 : Int) = _
  rw [h1]; rfl
theorem Half1_low : Half1 3204448256 := ⟨by decide, by rw [rk_eq]; decide, by rw [val_half]; exact Int.le_refl _⟩
theorem Half1_high : Half1 1065353216 := ⟨by decide, by rw [rk_eq]; decide, by rw [val_one]; decide⟩
/-- the middle of two such numbers is one -/
theorem mid_ok {x y : Nat} (hx : Half1 x) (hy : Half1 y) : okA x y ∧ okD (fadd x y) 1073741824 ∧ Half1 (fdiv (fadd x y) 1073741824) := by
  obtain ⟨r, neg, h1, h2, h3, h4, h5⟩ := add_res hx.fin hy.fin
  obtain ⟨a, b⟩ := okA_of h1
  have ex := val_abs x
  have ey := val_abs y
  have mx := hx.mag_le
  have my := hy.mag_le
  have lx : -(2 ^ 148) ≤ vl Ieee.single x := hx.lo
  have ly : -(2 ^ 148) ≤ vl Ieee.single y := hy.lo
  have ex' : (vl Ieee.single x).natAbs = mag x := ex
  have ey' : (vl Ieee.single y).natAbs = mag y := ey
  have hs : rk r ≤ 1065353216 ∨ (rk r ≤ 1073741824 ∧ 0 ≤ val r) := by
    by_cases h0 : vl Ieee.single x + vl Ieee.single y < 0
    · left
      refine h2.le _ (by rw [s_inf]; decide) ?_
      rw [s_bin, mg_one]; omega
    · right
      refine ⟨h2.le _ (by rw [s_inf]; decide) (by rw [s_bin, mg_twice]; omega), ?_⟩
      by_cases h6 : vl Ieee.single x + vl Ieee.single y = 0
      · exact val_nn_of h2 (.inr (by rw [h6]; rfl)) (by decide)
      · exact val_nn_of h2 (.inl (h3 (by omega))) (by decide)
  have hf : F r := F_iff.2 (by omega)
  obtain ⟨q, k1, k2⟩ := div_res s_lp hf F_two (by show mag 1073741824 ≠ 0; rw [mag_two]; exact Nat.pos_iff_ne_zero.1 (Nat.two_pow_pos _))
  obtain ⟨c, d⟩ := okD_of k1
  refine ⟨a, by rw [b]; exact c, ?_⟩
  rw [b, d]
  have hw : q < 4294967296 := by have := k2.wd; rwa [s_wd] at this
  have key : ∀ bb, bb < 2139095040 → mag r * 2 ^ 149 ≤ mg 8388608 bb * 2 ^ 150 → rk q ≤ bb := fun bb h6 h7 =>
    k2.le bb (by rw [s_inf]; exact h6) (by
      rw [s_bin]
      show mag r * 2 ^ 149 ≤ _ * mag 1073741824
      rw [mag_two]; exact h7)
  rcases hs with hs | ⟨hs, hn⟩
  · have m1 := mag_le_of hs
    rw [mg_one] at m1
    have h8 := key 1056964608 (by decide) (by rw [mg_half]; omega)
    refine ⟨hw, by omega, ?_⟩
    have m2 := mag_le_of h8
    rw [mg_half] at m2
    have := val_abs q
    omega
  · have m1 := mag_le_of hs
    rw [mg_twice] at m1
    have h8 := key 1065353216 (by decide) (by rw [mg_one]; omega)
    refine ⟨hw, h8, ?_⟩
    have : 0 ≤ val q := by
      refine val_nn_of k2 ?_ (by show 0 < mag 1073741824; rw [mag_two]; exact Nat.two_pow_pos _)
      by_cases hm : mag r = 0
      · exact .inr (by show mag r * _ = 0; rw [hm, Nat.zero_mul])
      · left
        show (sn r ^^ sn 1073741824) = false
        rw [sn_of hn hm]; decide
    omega
/-- 1 + such a rate is at least 1/2 -/
theorem one_half {r : Nat} (h : Half1 r) : okA 1065353216 r ∧ F (fadd 1065353216 r) ∧ 2 ^ 148 ≤ mag (fadd 1065353216 r) := by
  obtain ⟨o, hb⟩ := fadd_bd (M := 0) In1_one.bd h.bd (Nat.le_refl _) (Nat.le_refl _) (by decide)
  obtain ⟨q, neg, h1, h2, _⟩ := add_res F_one h.fin
  obtain ⟨a, b⟩ := okA_of h1
  refine ⟨o, hb.fin (by decide), ?_⟩
  rw [b, ← mg_half]
  refine mag_ge_of (h2.ge _ (by rw [s_inf]; decide) ?_)
  rw [s_bin, mg_half]
  have e1 : vl Ieee.single 1065353216 = 2 ^ 149 := val_one
  have e2 : -(2 ^ 148) ≤ vl Ieee.single r := h.lo
  rw [e1]
  omega

/-! ### the values of flows -/
def valAt (zs : List Int) (r : Nat) : Nat → Nat
  | 0 => 0
  | j + 1 => fadd (ofI (zs[zs.length - 1 - j]?.getD 0)) (fdiv (valAt zs r j) (fadd 1065353216 r))
def FlowIs (zs : List Int) : Prop := ∀ k, k < zs.length → -1000000000 ≤ zs[k]?.getD 0 ∧ zs[k]?.getD 0 ≤ 1000000000
/-- the bound: (64 + j) * 2^(30 + j) -/
def bRung (j : Nat) : Nat := (162 + j + 1) * 8388608 + j * 131072
theorem bRung_mg {j : Nat} (h : j ≤ 60) : mg 8388608 (bRung j) = (8388608 + j * 131072) * 2 ^ (162 + j) := mg_at (by omega)
theorem bRung_twice {j : Nat} (h : j ≤ 60) : mg 8388608 (bRung j + 8388608) = (8388608 + j * 131072) * 2 ^ (162 + j) * 2 := by
  have e : bRung j + 8388608 = (163 + j + 1) * 8388608 + j * 131072 := by unfold bRung; omega
  rw [e, mg_at (by omega), show 163 + j = 162 + j + 1 by omega, Nat.pow_succ, Nat.mul_assoc]
theorem val_step {zs : List Int} {r j : Nat} (h : FlowIs zs) (hr : Half1 r) (hj : j < zs.length) (hm : j < 60) (hv : valAt zs r j < 4294967296 ∧ rk (valAt zs r j) ≤ bRung j) :
    okD (valAt zs r j) (fadd 1065353216 r) ∧ okA (ofI (zs[zs.length - 1 - j]?.getD 0)) (fdiv (valAt zs r j) (fadd 1065353216 r)) ∧ (valAt zs r (j + 1) < 4294967296 ∧ rk (valAt zs r (j + 1)) ≤ bRung (j + 1)) := by
  obtain ⟨hw, hle⟩ := hv
  obtain ⟨_, hy, hy2⟩ := one_half hr
  have hf : F (valAt zs r j) := F_iff.2 (by unfold bRung at hle; omega)
  have hm1 := mag_le_of hle
  rw [bRung_mg (by omega)] at hm1
  obtain ⟨q, k1, k2⟩ := div_res s_lp hf hy (by show mag _ ≠ 0; have := Nat.two_pow_pos 148; omega)
  obtain ⟨c, d⟩ := okD_of k1
  have hq : rk q ≤ bRung j + 8388608 := k2.le _ (by rw [s_inf]; unfold bRung; omega) (by
    rw [s_bin, bRung_twice (by omega)]
    show mag (valAt zs r j) * 2 ^ 149 ≤ _ * mag _
    refine Nat.le_trans (Nat.mul_le_mul_right _ hm1) ?_
    rw [show (2 : Nat) ^ 149 = 2 * 2 ^ 148 from rfl, ← Nat.mul_assoc]
    exact Nat.mul_le_mul_left _ hy2)
  have hqf : F q := F_iff.2 (by unfold bRung at hq; omega)
  have hq1 := mag_le_of hq
  rw [bRung_twice (by omega)] at hq1
  have hfl := h (zs.length - 1 - j) (by omega)
  have hib : Bd 30 (ofI (zs[zs.length - 1 - j]?.getD 0)) := fint_bd (by decide) (by omega)
  have hi1 := hib.mag_le
  obtain ⟨s, neg, l1, l2, _⟩ := add_res (hib.fin (by decide)) hqf
  obtain ⟨o, p⟩ := okA_of l1
  refine ⟨c, by rw [d]; exact o, ?_⟩
  have e : valAt zs r (j + 1) = s := by
    show fadd _ (fdiv _ _) = _
    rw [d, p]
  rw [e]
  refine ⟨by have := l2.wd; rwa [s_wd] at this, l2.le _ (by rw [s_inf]; unfold bRung; omega) ?_⟩
  rw [s_bin, bRung_mg (by omega), Nat.mul_one]
  have e1 := val_abs (ofI (zs[zs.length - 1 - j]?.getD 0))
  have e2 := val_abs q
  have h9 : (vl Ieee.single (ofI (zs[zs.length - 1 - j]?.getD 0)) + vl Ieee.single q).natAbs ≤ mag (ofI (zs[zs.length - 1 - j]?.getD 0)) + mag q := by rw [← e1, ← e2]; exact Int.natAbs_add_le _ _
  refine Nat.le_trans h9 ?_
  have h10 : (8388608 + (j + 1) * 131072) * 2 ^ (162 + (j + 1)) = (8388608 + j * 131072) * 2 ^ (162 + j) * 2 + 131072 * 2 ^ (162 + (j + 1)) := by
    have e : 8388608 + (j + 1) * 131072 = (8388608 + j * 131072) + 131072 := by omega
    rw [show 162 + (j + 1) = 162 + j + 1 by omega, Nat.pow_succ]
    generalize 2 ^ (162 + j) = x
    rw [e, Nat.add_mul, Nat.mul_assoc]
  have h11 : 2 ^ (30 + 149) ≤ 131072 * 2 ^ (162 + (j + 1)) := by
    have p17 : (2 : Nat) ^ 17 = 131072 := by decide
    rw [← p17, ← Nat.pow_add]
    exact Nat.pow_le_pow_right (by decide) (by omega)
  omega
theorem val_bd {zs : List Int} {r : Nat} (h : FlowIs zs) (hr : Half1 r) : ∀ j, j ≤ zs.length → j ≤ 60 → valAt zs r j < 4294967296 ∧ rk (valAt zs r j) ≤ bRung j
  | 0, _, _ => ⟨by show 0 < _; decide, by show rk 0 ≤ _; rw [rk_of (by decide)]; exact Nat.zero_le _⟩
  | j + 1, hj, hm => (val_step h hr (by omega) (by omega) (val_bd h hr j (by omega) (by omega))).2.2
theorem val_fin {zs : List Int} {r : Nat} (h : FlowIs zs) (hr : Half1 r) (j : Nat) (hj : j ≤ zs.length) (hm : j ≤ 60) : F (valAt zs r j) := by
  have := (val_bd h hr j hj hm).2
  exact F_iff.2 (by unfold bRung at this; omega)
theorem flow_is {zs : List Int} {a b : Int} (h : cntIn zs a b (-1000000000) 1000000000 = true) : FlowIs zs := fun k hk => allIn_at (cntIn_iff.1 h).2.2 _ (getD_mem hk)
set_option maxHeartbeats 1600000 in
theorem worthF_any (A : Option Addr) (n c : Nat) (zs : List Int) (r : Nat) (w : World) (hr : Rd w w.heap.size 1 A n (ints zs)) (hn : n ≤ 60) (hz : FlowIs zs) (hq : Half1 r) :
    Calls Try.prog 56 #[.slice A n c, .float .f32 r] w fun e w' => e = .returned (.float .f32 (valAt zs r n)) ∧ w = w' := by
  have HL := Lib.hid hr.ilen
  have HZ := Lib.hid hz
  have HQ := Lib.hid hq
  obtain ⟨p1, _, _⟩ := one_half hq
  have e1 := fun (t : TypeId) (w : World) => run_fadd (P := Try.prog) t p1 w
  clear hz hq p1
  go_enter Try.func56, Try.ntmps56
  go_wp2_with fail
  go_loop [5, 6] (fun x i => ∃ (k s : Nat), k ≤ n ∧ i = .int .i64 ((k : Int) - 1) ∧ s = valAt zs r (n - k) ∧ x = .float .f32 s) (fun x i => (intOf i + 1).toNat)
  case atStart => exact ⟨n, 0, Nat.le_refl _, rfl, by rw [Nat.sub_self]; rfl, rfl⟩
  case round =>
    obtain ⟨k, s, hk, rfl, hs, rfl⟩ := hrel
    have HS := Lib.hid hs
    clear hs
    by_cases h0 : k = 0
    · subst h0
      have hfin := Lib.hid (show s = valAt zs r n by rw [HS.out, Nat.sub_zero])
      go_wp2_with fail
      go_ret
      exact ⟨by rw [← hfin.out]; rfl, rfl⟩
    · obtain ⟨m, rfl⟩ : ∃ m, k = m + 1 := ⟨k - 1, by omega⟩
      have em : ((m + 1 : Nat) : Int) - 1 = (m : Int) := by omega
      rw [em]
      clear em h0
      have hlt : m < n := by omega
      obtain ⟨ad, rfl, hc⟩ := hr.int hlt
      clear hr
      have eL : zs.length - 1 - (n - (m + 1)) = m := by have := HL.out; omega
      have hv : valAt zs r (n - m) = fadd (ofI (zs[m]?.getD 0)) (fdiv (valAt zs r (n - (m + 1))) (fadd 1065353216 r)) := by
        have e : n - m = (n - (m + 1)) + 1 := by omega
        rw [e]
        show fadd (ofI (zs[zs.length - 1 - (n - (m + 1))]?.getD 0)) _ = _
        rw [eL]
      obtain ⟨o1, o2, _⟩ := val_step HZ.out HQ.out (j := n - (m + 1)) (by have := HL.out; omega) (by omega) (val_bd HZ.out HQ.out _ (by have := HL.out; omega) (by omega))
      rw [eL] at o2
      obtain ⟨z, hzz⟩ : ∃ z, z = zs[m]?.getD 0 := ⟨_, rfl⟩
      rw [← hzz] at hc o2 hv
      rw [← HS.out] at o1 o2 hv
      have q1 := fun (t : TypeId) (w : World) => run_fdiv (P := Try.prog) t o1 w
      have q2 := fun (t : TypeId) (w : World) => run_fadd (P := Try.prog) t o2 w
      have HV := Lib.hid hv
      clear o1 o2 hv hzz eL
      go_wp2_with fail
      go_round
      case rel => exact ⟨m, _, by omega, rfl, HV.out.symm, rfl⟩
      case measure => simp [intOf]
set_option maxHeartbeats 1600000 in
theorem l06Value_any (A : Option Addr) (n c : Nat) (zs : List Int) (r : Nat) (w : World) (hr : Rd w w.heap.size 1 A n (ints zs)) (hn : n ≤ 60) (hz : FlowIs zs) (hq : Half1 r) :
    Calls Try.prog 54 #[.slice A n c, .float .f32 r] w fun e w' => e = .returned (.float .f32 (valAt zs r n)) ∧ w = w' := by
  have HL := Lib.hid hr.ilen
  have HZ := Lib.hid hz
  have HQ := Lib.hid hq
  obtain ⟨p1, _, _⟩ := one_half hq
  have e1 := fun (t : TypeId) (w : World) => run_fadd (P := Try.prog) t p1 w
  clear hz hq p1
  go_enter Try.func54, Try.ntmps54
  go_wp2_with fail
  go_loop [5, 6] (fun x i => ∃ (k s : Nat), k ≤ n ∧ i = .int .i64 ((k : Int) - 1) ∧ s = valAt zs r (n - k) ∧ x = .float .f32 s) (fun x i => (intOf i + 1).toNat)
  case atStart => exact ⟨n, 0, Nat.le_refl _, rfl, by rw [Nat.sub_self]; rfl, rfl⟩
  case round =>
    obtain ⟨k, s, hk, rfl, hs, rfl⟩ := hrel
    have HS := Lib.hid hs
    clear hs
    by_cases h0 : k = 0
    · subst h0
      have hfin := Lib.hid (show s = valAt zs r n by rw [HS.out, Nat.sub_zero])
      go_wp2_with fail
      go_ret
      exact ⟨by rw [← hfin.out]; rfl, rfl⟩
    · obtain ⟨m, rfl⟩ : ∃ m, k = m + 1 := ⟨k - 1, by omega⟩
      have em : ((m + 1 : Nat) : Int) - 1 = (m : Int) := by omega
      rw [em]
      clear em h0
      have hlt : m < n := by omega
      obtain ⟨ad, rfl, hc⟩ := hr.int hlt
      clear hr
      have eL : zs.length - 1 - (n - (m + 1)) = m := by have := HL.out; omega
      have hv : valAt zs r (n - m) = fadd (ofI (zs[m]?.getD 0)) (fdiv (valAt zs r (n - (m + 1))) (fadd 1065353216 r)) := by
        have e : n - m = (n - (m + 1)) + 1 := by omega
        rw [e]
        show fadd (ofI (zs[zs.length - 1 - (n - (m + 1))]?.getD 0)) _ = _
        rw [eL]
      obtain ⟨o1, o2, _⟩ := val_step HZ.out HQ.out (j := n - (m + 1)) (by have := HL.out; omega) (by omega) (val_bd HZ.out HQ.out _ (by have := HL.out; omega) (by omega))
      rw [eL] at o2
      obtain ⟨z, hzz⟩ : ∃ z, z = zs[m]?.getD 0 := ⟨_, rfl⟩
      rw [← hzz] at hc o2 hv
      rw [← HS.out] at o1 o2 hv
      have q1 := fun (t : TypeId) (w : World) => run_fdiv (P := Try.prog) t o1 w
      have q2 := fun (t : TypeId) (w : World) => run_fadd (P := Try.prog) t o2 w
      have HV := Lib.hid hv
      clear o1 o2 hv hzz eL
      go_wp2_with fail
      go_round
      case rel => exact ⟨m, _, by omega, rfl, HV.out.symm, rfl⟩
      case measure => simp [intOf]
end Go.Proofs.Ytefoebaoejoamaa
