/-
  RunFund, WorthNow: what the program's and the reference's functions return.
-/
import Derived.Test.YtkdiegplbloccaaFundF
namespace Go.Proofs.Ytkdiegplbloccaa
open Fl
open Go.ChangeShapes Go.WideShapes Go.ChangeAt Go.RowKit
set_option linter.unusedVariables false
set_option linter.unusedSimpArgs false

theorem bl_alloc {W w : World} (h : Below W.heap.size W w) (o : Obj) : Below W.heap.size W (w.alloc o) := h.alloc h.size o
theorem bl_drew {W w : World} (h : Below W.heap.size W w) (n : Nat) : Below W.heap.size W (w.drewN n) := below_drewN h n
def atN (bs : List Nat) (k : Nat) : Option Nat := some (bs[k]?.getD 0)
/-! ### the checks -/
def fundB (st : Nat) (is os rs : List Nat) : Bool := fundOk st [is, os] rs
def spOk (st : Nat) (is os rs : List Nat) : Bool := finB st && (lenOk is.length && (decide (os.length = is.length) && (decide (rs.length = is.length) && (allFin is && (allFin os && (allFin rs && rs.all gtM1))))))
theorem sp_eq (st : Nat) (is os rs : List Nat) : spOk st is os rs = fundB st is os rs := by
  unfold spOk fundB fundOk
  rw [rets_eq]
  rw [Bool.eq_iff_iff]
  simp only [Bool.and_eq_true, decide_eq_true_eq, List.all_cons, List.all_nil, and_true]
  constructor
  · rintro ⟨a, b, c, d, e, f, g, h⟩
    exact ⟨a, by rw [d]; exact b, ⟨g, h⟩, ⟨d.symm, e⟩, ⟨by omega, f⟩⟩
  · rintro ⟨a, b, ⟨c, d⟩, ⟨e, f⟩, ⟨g, h⟩⟩
    exact ⟨a, by rw [e]; exact b, by omega, e.symm, f, h, c, d⟩
set_option maxHeartbeats 1600000 in
theorem l07Fund_any (st : Nat) (A : Option Addr) (n c : Nat) (is : List Nat) (B : Option Addr) (m d : Nat) (os : List Nat) (C : Option Addr) (p q : Nat) (rs : List Nat) (w : World)
    (hi : Rd w w.heap.size 1 A n (flts is)) (ho : Rd w w.heap.size 1 B m (flts os)) (hr : Rd w w.heap.size 1 C p (flts rs)) (hn : n ≤ 1048576) (hm : m ≤ 1048576) (hp : p ≤ 1048576) :
    Calls Try.prog 66 #[.float .f32 st, .slice A n c, .slice B m d, .slice C p q] w fun e w' => e = .returned (.bool (fundB st is os rs)) ∧ Below w.heap.size w w' := by
  rw [← sp_eq]
  have HI := Lib.hid hi.flen
  have HO := Lib.hid ho.flen
  have HR := Lib.hid hr.flen
  have hB : Below w.heap.size w w := Below.refl _ _
  cases h1 : finB st
  · have hfin := Lib.hid (show spOk st is os rs = false by simp [spOk, h1])
    go_enter Try.func66, Try.ntmps66
    go_wp2_with (go_at_call 107; refine (l01Finite_any st _).mono ?_; rintro e w1 ⟨rfl, hb⟩; rw [h1]; replace hB := below_step hB hb; clear hb)
    go_ret
    exact ⟨by rw [hfin.out]; rfl, hB⟩
  by_cases g1 : n < 1
  · have hfin := Lib.hid (show spOk st is os rs = false by simp [spOk, lenOk, HI.out]; omega)
    go_enter Try.func66, Try.ntmps66
    go_wp2_with (go_at_call 107; refine (l01Finite_any st _).mono ?_; rintro e w1 ⟨rfl, hb⟩; rw [h1]; replace hB := below_step hB hb; clear hb)
    go_ret
    exact ⟨by rw [hfin.out]; rfl, hB⟩
  by_cases g2 : 64 < n
  · have hfin := Lib.hid (show spOk st is os rs = false by simp [spOk, lenOk, HI.out]; omega)
    go_enter Try.func66, Try.ntmps66
    go_wp2_with (go_at_call 107; refine (l01Finite_any st _).mono ?_; rintro e w1 ⟨rfl, hb⟩; rw [h1]; replace hB := below_step hB hb; clear hb)
    go_ret
    exact ⟨by rw [hfin.out]; rfl, hB⟩
  by_cases g3 : m = n
  case neg =>
    have hfin := Lib.hid (show spOk st is os rs = false by simp [spOk, HI.out, HO.out, g3])
    have hne : ((m : Int) != (n : Int)) = true := by simp; omega
    clear g3
    go_enter Try.func66, Try.ntmps66
    go_wp2_with (go_at_call 107; refine (l01Finite_any st _).mono ?_; rintro e w1 ⟨rfl, hb⟩; rw [h1]; replace hB := below_step hB hb; clear hb)
    go_ret
    exact ⟨by rw [hfin.out]; rfl, hB⟩
  subst g3
  by_cases g4 : p = m
  case neg =>
    have hfin := Lib.hid (show spOk st is os rs = false by simp [spOk, HI.out, HR.out, g4])
    have hne : ((p : Int) != (m : Int)) = true := by simp; omega
    clear g4
    go_enter Try.func66, Try.ntmps66
    go_wp2_with (go_at_call 107; refine (l01Finite_any st _).mono ?_; rintro e w1 ⟨rfl, hb⟩; rw [h1]; replace hB := below_step hB hb; clear hb)
    go_ret
    exact ⟨by rw [hfin.out]; rfl, hB⟩
  subst g4
  have hlen : lenOk p = true := by simp [lenOk]; omega
  cases h2 : allFin is
  · have hfin := Lib.hid (show spOk st is os rs = false by simp [spOk, h2])
    go_enter Try.func66, Try.ntmps66
    go_wp2_with fail
    refine (l01Finite_any st _).mono ?_; rintro e w1 ⟨rfl, hb⟩; rw [h1]; replace hB := below_step hB hb; clear hb
    go_wp2_with fail
    refine (l02Finite_any _ _ _ is _ ((hi.below hB).more hB.size) hn).mono ?_; rintro e w2 ⟨rfl, hb⟩; rw [h2]; replace hB := below_step hB hb; clear hb
    go_wp2_with fail
    go_ret
    exact ⟨by rw [hfin.out]; rfl, hB⟩
  cases h3 : allFin os
  · have hfin := Lib.hid (show spOk st is os rs = false by simp [spOk, h3])
    go_enter Try.func66, Try.ntmps66
    go_wp2_with fail
    refine (l01Finite_any st _).mono ?_; rintro e w1 ⟨rfl, hb⟩; rw [h1]; replace hB := below_step hB hb; clear hb
    go_wp2_with fail
    refine (l02Finite_any _ _ _ is _ ((hi.below hB).more hB.size) hn).mono ?_; rintro e w2 ⟨rfl, hb⟩; rw [h2]; replace hB := below_step hB hb; clear hb
    go_wp2_with fail
    refine (l02Finite_any _ _ _ os _ ((ho.below hB).more hB.size) hn).mono ?_; rintro e w3 ⟨rfl, hb⟩; rw [h3]; replace hB := below_step hB hb; clear hb
    go_wp2_with fail
    go_ret
    exact ⟨by rw [hfin.out]; rfl, hB⟩
  cases h4 : allFin rs
  · have hfin := Lib.hid (show spOk st is os rs = false by simp [spOk, h4])
    go_enter Try.func66, Try.ntmps66
    go_wp2_with fail
    refine (l01Finite_any st _).mono ?_; rintro e w1 ⟨rfl, hb⟩; rw [h1]; replace hB := below_step hB hb; clear hb
    go_wp2_with fail
    refine (l02Finite_any _ _ _ is _ ((hi.below hB).more hB.size) hn).mono ?_; rintro e w2 ⟨rfl, hb⟩; rw [h2]; replace hB := below_step hB hb; clear hb
    go_wp2_with fail
    refine (l02Finite_any _ _ _ os _ ((ho.below hB).more hB.size) hn).mono ?_; rintro e w3 ⟨rfl, hb⟩; rw [h3]; replace hB := below_step hB hb; clear hb
    go_wp2_with fail
    refine (l02Finite_any _ _ _ rs _ ((hr.below hB).more hB.size) hn).mono ?_; rintro e w4 ⟨rfl, hb⟩; rw [h4]; replace hB := below_step hB hb; clear hb
    go_wp2_with fail
    go_ret
    exact ⟨by rw [hfin.out]; rfl, hB⟩
  have hfin := Lib.hid (show spOk st is os rs = rs.all gtM1 by simp [spOk, h1, h2, h3, h4, HI.out, HO.out, HR.out, hlen])
  go_enter Try.func66, Try.ntmps66
  go_wp2_with fail
  refine (l01Finite_any st _).mono ?_; rintro e w1 ⟨rfl, hb⟩; rw [h1]; replace hB := below_step hB hb; clear hb
  go_wp2_with fail
  refine (l02Finite_any _ _ _ is _ ((hi.below hB).more hB.size) hn).mono ?_; rintro e w2 ⟨rfl, hb⟩; rw [h2]; replace hB := below_step hB hb; clear hb
  go_wp2_with fail
  refine (l02Finite_any _ _ _ os _ ((ho.below hB).more hB.size) hn).mono ?_; rintro e w3 ⟨rfl, hb⟩; rw [h3]; replace hB := below_step hB hb; clear hb
  go_wp2_with fail
  refine (l02Finite_any _ _ _ rs _ ((hr.below hB).more hB.size) hn).mono ?_; rintro e w4 ⟨rfl, hb⟩; rw [h4]; replace hB := below_step hB hb; clear hb
  have hr4 := (hr.below hB).more hB.size
  clear hi ho hr h1 h2 h3 h4 g1 g2
  go_wp2_with fail
  go_loop [10, 53] (fun _ i => ∃ k : Nat, k ≤ p ∧ i = .int .i64 k ∧ (rs.take k).all gtM1 = true) (fun _ i => p - (intOf i).toNat)
  case atStart => exact ⟨0, Nat.zero_le _, rfl, rfl⟩
  case round =>
    obtain ⟨k, hk, rfl, ha⟩ := hrel
    have HA := Lib.hid ha
    clear ha
    by_cases hlt : k < p
    · obtain ⟨ad, rfl, hc⟩ := hr4.flt hlt
      clear hr4
      obtain ⟨b, hbb⟩ : ∃ b, b = rs[k]?.getD 0 := ⟨_, rfl⟩
      rw [← hbb] at hc
      have HBB := Lib.hid hbb
      clear hbb
      cases h0 : gtM1 b
      · have f0 := gt_is h0
        have hf2 := Lib.hid (show rs.all gtM1 = false by
          rw [List.all_eq_false]
          exact ⟨_, getD_memN (k := k) (by have := HR.out; omega), by rw [← HBB.out, h0]; decide⟩)
        clear h0
        go_wp2_with fail
        go_ret
        exact ⟨by rw [hfin.out, hf2.out]; rfl, hB⟩
      · have f0 := gt_is h0
        have hf2 := Lib.hid (show (rs.take (k + 1)).all gtM1 = true by
          rw [take_snoc rs k 0 (by have := HR.out; omega), List.all_append, HA.out, ← HBB.out]; simp [h0])
        clear h0
        go_wp2_with fail
        go_round
        case rel => exact ⟨k + 1, by omega, by go_num, hf2.out⟩
        case measure => simp [intOf]; omega
    · obtain rfl : p = k := by omega
      have hf2 := Lib.hid (show rs.all gtM1 = true by have := HA.out; rwa [List.take_of_length_le (by have := HR.out; omega)] at this)
      clear HA hr4
      go_wp2_with fail
      go_ret
      exact ⟨by rw [hfin.out, hf2.out]; rfl, hB⟩
/-! ### the run: no operation of it is invalid -/
theorem num_case {z : Nat} (h : nan32 z = false) : F z ∨ rk z = 2139095040 := by
  by_cases hf : F z
  · exact .inl hf
  · have h1 : ¬ rk z < 2139095040 := fun a => hf (F_iff.2 a)
    have h2 : ¬ 2139095040 < rk z := fun a => by rw [nan_iff.2 a] at h; cases h
    exact .inr (by omega)
theorem top_num {r : Nat} {neg : Bool} {a b : Nat} (h : Res Ieee.single neg a b r) : nan32 r = false := by
  have h3 : rk r ≤ 2139095040 := by have := h.top; rwa [s_inf] at this
  cases hn : nan32 r with
  | false => rfl
  | true => have := nan_iff.1 hn; omega
theorem inf_num (s : Bool) : nan32 (Ieee.single.write (.infinity s)) = false := by cases s <;> decide
theorem add_run {z y : Nat} (hz : nan32 z = false) (hy : F y) : okA z y ∧ nan32 (fadd z y) = false := by
  rcases num_case hz with h | h
  · obtain ⟨r, neg, h1, h2, _⟩ := add_res h hy
    obtain ⟨a, b⟩ := okA_of h1
    exact ⟨a, b ▸ top_num h2⟩
  · obtain ⟨m, e, hr, _⟩ := read_fi hy
    have : Ieee.single.add z y = some (Ieee.single.write (.infinity (sn z))) := by
      unfold Ieee.Format.add
      rw [hr, read_inf h]; rfl
    obtain ⟨a, b⟩ := okA_of this
    exact ⟨a, b ▸ inf_num _⟩
theorem sub_run {z y : Nat} (hz : nan32 z = false) (hy : F y) : okS z y ∧ nan32 (fsub z y) = false := by
  rcases num_case hz with h | h
  · obtain ⟨r, neg, h1, h2, _⟩ := sub_res h hy
    obtain ⟨a, b⟩ := okS_of h1
    exact ⟨a, b ▸ top_num h2⟩
  · obtain ⟨m, e, hr, _⟩ := opp_fi hy
    have : Ieee.single.sub z y = some (Ieee.single.write (.infinity (sn z))) := by
      unfold Ieee.Format.sub
      rw [hr, read_inf h]; rfl
    obtain ⟨a, b⟩ := okS_of this
    exact ⟨a, b ▸ inf_num _⟩
theorem mul_run {z y : Nat} (hz : nan32 z = false) (hy : F y) (h0 : mag y ≠ 0) : okM z y ∧ nan32 (fmul z y) = false := by
  rcases num_case hz with h | h
  · obtain ⟨r, h1, h2⟩ := mul_res s_lp h hy
    obtain ⟨a, b⟩ := okM_of h1
    exact ⟨a, b ▸ top_num h2⟩
  · obtain ⟨m, e, hr, _, hm⟩ := read_fi hy
    have hm0 : m ≠ 0 := by
      intro e0
      apply h0
      show vm Ieee.single y = 0
      rw [hm, e0, Nat.zero_mul]
    have : Ieee.single.mul z y = some (Ieee.single.write (.infinity (sn z ^^ sn y))) := by
      unfold Ieee.Format.mul
      rw [hr, read_inf h]
      simp [Ieee.Datum.product, hm0]
    obtain ⟨a, b⟩ := okM_of this
    exact ⟨a, b ▸ inf_num _⟩
theorem mul_one_fin {x : Nat} (hx : F x) : okM x 1065353216 ∧ F (fmul x 1065353216) := by
  obtain ⟨r, h1, h2⟩ := mul_res s_lp hx F_one
  obtain ⟨a, b⟩ := okM_of h1
  refine ⟨a, b ▸ h2.fi (b := rk x) hx ?_⟩
  rw [show vm Ieee.single 1065353216 = 2 ^ 149 from mag_one]
  exact Nat.le_refl _
theorem mg_top (F : Nat) (hF : F < 8388608) : mg 8388608 (2130706432 + F) = (8388608 + F) * 2 ^ 253 := by
  have := mg_at (P := 8388608) (E := 253) (F := F) hF
  rw [← this]
theorem one_top : Ieee.single.add 1065353216 2139095039 = some 2139095039 := by decide
theorem one_neg {r : Nat} (h : Fi Ieee.single r) (hg : gtM1 r = true) : -(2 ^ 149 : Int) < vl Ieee.single r := by
  have ho := order_fin h F_m1
  unfold gtM1 at hg
  rw [ho] at hg
  have hv : val 3212836864 = -(2 ^ 149 : Int) := by
    have h1 := val_abs 3212836864
    have h2 : mag 3212836864 = 2 ^ 149 := by
      rw [mag_eq, rk_eq]; exact mg_pw 0
    show vl Ieee.single 3212836864 = _
    unfold vl
    have h3 : sg Ieee.single 3212836864 = true := by decide
    have h4 : vm Ieee.single 3212836864 = 2 ^ 149 := h2
    rw [h3, if_pos rfl, h4]; rfl
  rw [hv] at hg
  show _ < val r
  generalize val r = x at hg ⊢
  generalize -(2 ^ 149 : Int) = y at hg ⊢
  by_cases h1 : y < x
  · exact h1
  · exfalso
    rcases Int.lt_or_eq_of_le (Int.not_lt.1 h1) with h2 | h2
    · rw [Int.compare_eq_lt.2 h2] at hg; cases hg
    · rw [Int.compare_eq_eq.2 h2] at hg; cases hg
theorem onep {r : Nat} (h : F r) (hg : gtM1 r = true) (hw : r < 4294967296) : okA 1065353216 r ∧ F (fadd 1065353216 r) ∧ mag (fadd 1065353216 r) ≠ 0 := by
  obtain ⟨q, neg, h1, h2, _⟩ := add_res F_one h
  obtain ⟨a, b⟩ := okA_of h1
  have e1 : vl Ieee.single 1065353216 = 2 ^ 149 := val_one
  have hn := one_neg h hg
  have e2 := val_abs r
  have e2' : (vl Ieee.single r).natAbs = mag r := e2
  have hge : 1 ≤ rk q := h2.ge 1 (by rw [s_inf]; decide) (by
    rw [s_bin, e1, show mg 8388608 1 = 1 from rfl]; omega)
  have hm : mag q ≠ 0 := by
    rw [mag_eq]
    intro h0
    have := mg_zero 8388608 (by decide) h0
    omega
  refine ⟨a, ?_, by rw [b]; exact hm⟩
  by_cases hs : vl Ieee.single r ≤ 0
  · rw [b]
    refine h2.fi (b := 1065353216) (by rw [s_inf]; decide) ?_
    rw [s_bin, e1, show mg 8388608 1065353216 = 2 ^ 149 from mg_pw 0]
    have hp : ((2 ^ 149 : Nat) : Int) = 2 ^ 149 := rfl
    omega
  · have hpos : 0 < vl Ieee.single r := by omega
    have hsg : sg Ieee.single r = false := by
      cases hs2 : sg Ieee.single r with
      | false => rfl
      | true =>
        exfalso
        unfold vl at hpos
        rw [hs2, if_pos rfl] at hpos
        omega
    have hrk : rk r = r := by
      have h3 : r / 2147483648 % 2 = 0 := by
        have := hsg
        unfold sg at this
        rw [s_sw] at this
        simpa using this
      rw [rk_eq]
      omega
    have hlt : rk r < 2139095040 := F_iff.1 h
    by_cases htop : r = 2139095039
    · rw [htop, (okA_of one_top).2]
      exact F_iff.2 (by rw [rk_eq]; decide)
    · rw [b]
      refine h2.fi (b := 2139095039) (by rw [s_inf]; decide) ?_
      have hle : mag r ≤ mg 8388608 2139095038 := by rw [mag_eq]; exact mg_mono (by decide) (by omega)
      have t1 : mg 8388608 2139095038 = (8388608 + 8388606) * 2 ^ 253 := mg_top 8388606 (by decide)
      have t2 : mg 8388608 2139095039 = (8388608 + 8388607) * 2 ^ 253 := mg_top 8388607 (by decide)
      have hp : ((2 ^ 149 : Nat) : Int) = 2 ^ 149 := rfl
      have t3 : (2 : Nat) ^ 149 ≤ 2 ^ 253 := Nat.pow_le_pow_right (by decide) (by decide)
      rw [s_bin, e1, t2]
      rw [t1] at hle
      generalize (2 : Nat) ^ 253 = X at hle t3 ⊢
      omega
def runTo (st : Nat) (is os rs : List Nat) : Nat → Nat
  | 0 => st
  | k + 1 => fmul (fsub (fadd (runTo st is os rs k) (fmul (is[k]?.getD 0) 1065353216)) (os[k]?.getD 0)) (fadd 1065353216 (rs[k]?.getD 0))
def runL (st : Nat) (is os rs : List Nat) (n : Nat) : List Nat := (List.range n).map fun j => runTo st is os rs (j + 1)
theorem runL_len (st : Nat) (is os rs : List Nat) (n : Nat) : (runL st is os rs n).length = n := by simp [runL]
theorem runL_succ (st : Nat) (is os rs : List Nat) (n : Nat) : runL st is os rs (n + 1) = runL st is os rs n ++ [runTo st is os rs (n + 1)] := by simp [runL, List.range_succ]
structure FundA (st n : Nat) (is os rs : List Nat) : Prop where
  s : nan32 st = false
  li : is.length = n
  lo : os.length = n
  lr : rs.length = n
  fi : ∀ b ∈ is, F b
  fo : ∀ b ∈ os, F b
  fr : ∀ b ∈ rs, F b ∧ gtM1 b = true ∧ b < 4294967296
theorem run_step {st n k : Nat} {is os rs : List Nat} (h : FundA st n is os rs) (hk : k < n) (hr : nan32 (runTo st is os rs k) = false) :
    okM (is[k]?.getD 0) 1065353216 ∧ okA (runTo st is os rs k) (fmul (is[k]?.getD 0) 1065353216) ∧ okS (fadd (runTo st is os rs k) (fmul (is[k]?.getD 0) 1065353216)) (os[k]?.getD 0) ∧
    okA 1065353216 (rs[k]?.getD 0) ∧ okM (fsub (fadd (runTo st is os rs k) (fmul (is[k]?.getD 0) 1065353216)) (os[k]?.getD 0)) (fadd 1065353216 (rs[k]?.getD 0)) ∧ nan32 (runTo st is os rs (k + 1)) = false := by
  have h1 := h.fi _ (getD_memN (k := k) (by rw [h.li]; exact hk))
  have h2 := h.fo _ (getD_memN (k := k) (by rw [h.lo]; exact hk))
  have h3 := h.fr _ (getD_memN (k := k) (by rw [h.lr]; exact hk))
  obtain ⟨a1, a2⟩ := mul_one_fin h1
  obtain ⟨b1, b2⟩ := add_run hr a2
  obtain ⟨c1, c2⟩ := sub_run b2 h2
  obtain ⟨d1, d2, d3⟩ := onep h3.1 h3.2.1 h3.2.2
  obtain ⟨e1, e2⟩ := mul_run c2 d2 d3
  exact ⟨a1, b1, c1, d1, e1, e2⟩
theorem run_num {st n : Nat} {is os rs : List Nat} (h : FundA st n is os rs) : ∀ k, k ≤ n → nan32 (runTo st is os rs k) = false
  | 0, _ => h.s
  | k + 1, hk => (run_step h (by omega) (run_num h k (by omega))).2.2.2.2.2
theorem fund_all {st n : Nat} {is os rs : List Nat} (h : fundB st is os rs = true) (hn : rs.length = n) (hz : F32s rs) : FundA st n is os rs ∧ n ≤ 64 := by
  subst hn
  have h' := h
  rw [← sp_eq] at h
  unfold spOk lenOk at h
  simp only [Bool.and_eq_true, decide_eq_true_eq] at h
  obtain ⟨a, b, c, d, e, f, g, i⟩ := h
  unfold allFin at e f g
  rw [List.all_eq_true] at e f g i
  exact ⟨⟨F_nan (finB_iff.1 a), d.symm, by omega, rfl, fun x hx => finB_iff.1 (e x hx), fun x hx => finB_iff.1 (f x hx), fun x hx => ⟨finB_iff.1 (g x hx), i x hx, hz x hx⟩⟩, by omega⟩
def RunFund_r1 (st : Nat) (is os rs : List Nat) : Bool := fundB st is os rs && allFin (runL st is os rs rs.length)
def RunFund_r0 (st : Nat) (is os rs : List Nat) : List Nat := if RunFund_r1 st is os rs then runL st is os rs rs.length else []
theorem RunFund_len (st : Nat) (is os rs : List Nat) : (RunFund_r0 st is os rs).length ≤ 64 := by
  unfold RunFund_r0
  split
  · rename_i h
    simp [RunFund_r1, fundB, fundOk, lenOk] at h
    rw [runL_len]
    omega
  · simp
def RunIs (W : World) (st : Nat) (is os rs : List Nat) (E : Ending) (w' : World) : Prop :=
  ∃ v, E = .returned (.tuple #[v, .bool (RunFund_r1 st is os rs)]) ∧ w'.ownsRow W.heap.size 32 1 v (RunFund_r0 st is os rs).length (flts (RunFund_r0 st is os rs)) ∧ Below W.heap.size W w'
theorem run_no {W w' : World} {st : Nat} {is os rs : List Nat} (h : RunFund_r1 st is os rs = false) (hb : Below W.heap.size W w') : RunIs W st is os rs (.returned (.tuple #[.slice none 0 0, .bool false])) w' := by
  unfold RunIs RunFund_r0
  rw [h]
  exact ⟨_, rfl, ⟨by simp [flts], .inl ⟨rfl, rfl⟩⟩, hb⟩
theorem run_yes {W w' : World} {st n : Nat} {is os rs : List Nat} {v : Value} (h : fundB st is os rs = true) (hl : rs.length = n) (hf : allFin (runL st is os rs n) = true) (ho : w'.ownsRow W.heap.size 32 1 v n (flts (runL st is os rs n))) (hb : Below W.heap.size W w') : RunIs W st is os rs (.returned (.tuple #[v, .bool true])) w' := by
  subst hl
  have h1 : RunFund_r1 st is os rs = true := by unfold RunFund_r1; rw [h, hf]; rfl
  have h2 : RunFund_r0 st is os rs = runL st is os rs rs.length := by unfold RunFund_r0; rw [h1, if_pos rfl]
  unfold RunIs
  rw [h2, h1, runL_len]
  exact ⟨v, rfl, ho, hb⟩
attribute [local go_sem] run_store_float
def RunLrun (W : World) (st : Nat) (is os rs : List Nat) (n : Nat) (E : Ending) (w' : World) : Prop := ∃ v, E = .returned v ∧ w'.ownsRow W.heap.size 32 1 v n (flts (runL st is os rs n)) ∧ Below W.heap.size W w'
def RunLfunded (W : World) (st : Nat) (is os rs : List Nat) (n : Nat) (E : Ending) (w' : World) : Prop := ∃ v, E = .returned (.tuple #[v, .bool (allFin (runL st is os rs n))]) ∧ w'.ownsRow W.heap.size 32 1 v n (flts (runL st is os rs n)) ∧ Below W.heap.size W w'
set_option maxHeartbeats 1600000 in
theorem run_loop (st : Nat) (A : Option Addr) (n c : Nat) (is : List Nat) (B : Option Addr) (m d : Nat) (os : List Nat) (C : Option Addr) (p q : Nat) (rs : List Nat) (w : World)
    (hi : Rd w w.heap.size 1 A n (flts is)) (ho : Rd w w.heap.size 1 B m (flts os)) (hr : Rd w w.heap.size 1 C p (flts rs)) (hp : p ≤ 64) (hF : FundA st p is os rs) (hn : n = p) (hm : m = p) :
    Calls Try.prog 67 #[.float .f32 st, .slice A n c, .slice B m d, .slice C p q, .float .f32 1065353216] w (RunLrun w st is os rs p) := by
  obtain rfl : p = n := hn.symm
  obtain rfl : p = m := hm.symm
  have HF := Lib.hid hF
  clear hF
  go_enter Try.func67, Try.ntmps67
  go_wp2_with fail
  go_loopw [0, 11, 12, 16] (fun st' v _ i wr => ∃ k : Nat, k ≤ p ∧ i = .int .i64 k ∧ st' = .float .f32 (runTo st is os rs k) ∧ wr.ownsRow w.heap.size 32 1 v k (flts (runL st is os rs k)) ∧ Below w.heap.size w wr) (fun _ _ _ i _ => p - (intOf i).toNat)
  case atStart => exact ⟨0, Nat.zero_le _, rfl, rfl, own_empty _ _, (Below.refl _ _).alloc (Nat.le_refl _) _⟩
  case round =>
    obtain ⟨k, hk, rfl, rfl, hown, hbw⟩ := hrel
    by_cases hlt : k < p
    · obtain ⟨ad, rfl, hc1⟩ := (hi.below hbw).flt hlt
      obtain ⟨ae, rfl, hc2⟩ := (ho.below hbw).flt hlt
      obtain ⟨af, rfl, hc3⟩ := (hr.below hbw).flt hlt
      have i1 : (0 : Int) ≤ k := by omega
      have i2 : (k : Int) < p := by omega
      obtain ⟨o1, o2, o3, o4, o5, _⟩ := run_step HF.out hlt (run_num HF.out k (by omega))
      have hst := Lib.hid (show runTo st is os rs (k + 1) = fmul (fsub (fadd (runTo st is os rs k) (fmul (is[k]?.getD 0) 1065353216)) (os[k]?.getD 0)) (fadd 1065353216 (rs[k]?.getD 0)) from rfl)
      have hsn := Lib.hid (runL_succ st is os rs k)
      obtain ⟨x1, e1⟩ : ∃ x, x = is[k]?.getD 0 := ⟨_, rfl⟩
      obtain ⟨x2, e2⟩ : ∃ x, x = os[k]?.getD 0 := ⟨_, rfl⟩
      obtain ⟨x3, e3⟩ : ∃ x, x = rs[k]?.getD 0 := ⟨_, rfl⟩
      obtain ⟨s0, e4⟩ : ∃ x, x = runTo st is os rs k := ⟨_, rfl⟩
      rw [← e1] at hc1 o1 o2 o3 o5 hst
      rw [← e2] at hc2 o3 o5 hst
      rw [← e3] at hc3 o4 o5 hst
      rw [← e4] at o2 o3 o5 hst ⊢
      have q1 := fun (t : TypeId) (w : World) => run_fmul (P := Try.prog) t o1 w
      have q2 := fun (t : TypeId) (w : World) => run_fadd (P := Try.prog) t o2 w
      have q3 := fun (t : TypeId) (w : World) => run_fsub (P := Try.prog) t o3 w
      have q4 := fun (t : TypeId) (w : World) => run_fadd (P := Try.prog) t o4 w
      have q5 := fun (t : TypeId) (w : World) => run_fmul (P := Try.prog) t o5 w
      have hk4 : k + 1 ≤ 4194304 := by omega
      have HO := Lib.hid hown
      have HB := Lib.hid hbw
      clear hi ho hr e1 e2 e3 e4 o1 o2 o3 o4 o5 hown hbw
      go_wp2_with fail
      go_quiet (fail)
      go_wp2_with (at_builtin; refine append_flt rfl (.tmp 38) (.tmp 40) rfl w _ k (runL st is os rs k) rfl ((own_drewN HO.out _).alloc _) (bl_alloc (bl_drew HB.out _) _) _ _ _ rfl (cell_new _ _ _) hk4 ?_; intro v' w' ho2 hb2)
      go_roundw
      case rel => exact ⟨k + 1, by omega, by go_num, by rw [hst.out], by rw [hsn.out, hst.out]; exact ho2, hb2⟩
      case measure => simp [intOf]; omega
    · obtain rfl : p = k := by omega
      clear hi ho hr
      go_wp2_with fail
      go_ret
      exact ⟨_, rfl, hown, hbw⟩
set_option maxHeartbeats 1600000 in
theorem funded_loop (st : Nat) (A : Option Addr) (n c : Nat) (is : List Nat) (B : Option Addr) (m d : Nat) (os : List Nat) (C : Option Addr) (p q : Nat) (rs : List Nat) (w : World)
    (hi : Rd w w.heap.size 1 A n (flts is)) (ho : Rd w w.heap.size 1 B m (flts os)) (hr : Rd w w.heap.size 1 C p (flts rs)) (hp : p ≤ 64) (hF : FundA st p is os rs) (hn : n = p) (hm : m = p) :
    Calls Try.prog 71 #[.float .f32 st, .slice A n c, .slice B m d, .slice C p q, .float .f32 1065353216] w (RunLfunded w st is os rs p) := by
  obtain rfl : p = n := hn.symm
  obtain rfl : p = m := hm.symm
  have HF := Lib.hid hF
  clear hF
  go_enter Try.func71, Try.ntmps71
  go_wp2_with fail
  go_loopw [0, 12, 13, 14, 18] (fun st' v _ _ i wr => ∃ k : Nat, k ≤ p ∧ i = .int .i64 k ∧ st' = .float .f32 (runTo st is os rs k) ∧ wr.ownsRow w.heap.size 32 1 v k (flts (runL st is os rs k)) ∧ Below w.heap.size w wr) (fun _ _ _ _ i _ => p - (intOf i).toNat)
  case atStart => exact ⟨0, Nat.zero_le _, rfl, rfl, own_empty _ _, (Below.refl _ _).alloc (Nat.le_refl _) _⟩
  case round =>
    obtain ⟨k, hk, rfl, rfl, hown, hbw⟩ := hrel
    by_cases hlt : k < p
    · obtain ⟨ad, rfl, hc1⟩ := (hi.below hbw).flt hlt
      obtain ⟨ae, rfl, hc2⟩ := (ho.below hbw).flt hlt
      obtain ⟨af, rfl, hc3⟩ := (hr.below hbw).flt hlt
      have i1 : (0 : Int) ≤ k := by omega
      have i2 : (k : Int) < p := by omega
      obtain ⟨o1, o2, o3, o4, o5, _⟩ := run_step HF.out hlt (run_num HF.out k (by omega))
      have hst := Lib.hid (show runTo st is os rs (k + 1) = fmul (fsub (fadd (runTo st is os rs k) (fmul (is[k]?.getD 0) 1065353216)) (os[k]?.getD 0)) (fadd 1065353216 (rs[k]?.getD 0)) from rfl)
      have hsn := Lib.hid (runL_succ st is os rs k)
      obtain ⟨x1, e1⟩ : ∃ x, x = is[k]?.getD 0 := ⟨_, rfl⟩
      obtain ⟨x2, e2⟩ : ∃ x, x = os[k]?.getD 0 := ⟨_, rfl⟩
      obtain ⟨x3, e3⟩ : ∃ x, x = rs[k]?.getD 0 := ⟨_, rfl⟩
      obtain ⟨s0, e4⟩ : ∃ x, x = runTo st is os rs k := ⟨_, rfl⟩
      rw [← e1] at hc1 o1 o2 o3 o5 hst
      rw [← e2] at hc2 o3 o5 hst
      rw [← e3] at hc3 o4 o5 hst
      rw [← e4] at o2 o3 o5 hst ⊢
      have q1 := fun (t : TypeId) (w : World) => run_fmul (P := Try.prog) t o1 w
      have q2 := fun (t : TypeId) (w : World) => run_fadd (P := Try.prog) t o2 w
      have q3 := fun (t : TypeId) (w : World) => run_fsub (P := Try.prog) t o3 w
      have q4 := fun (t : TypeId) (w : World) => run_fadd (P := Try.prog) t o4 w
      have q5 := fun (t : TypeId) (w : World) => run_fmul (P := Try.prog) t o5 w
      have hk4 : k + 1 ≤ 4194304 := by omega
      have HO := Lib.hid hown
      have HB := Lib.hid hbw
      clear hi ho hr e1 e2 e3 e4 o1 o2 o3 o4 o5 hown hbw
      go_wp2_with fail
      go_quiet (fail)
      go_wp2_with (at_builtin; refine append_flt rfl (.tmp 39) (.tmp 41) rfl w _ k (runL st is os rs k) rfl ((own_drewN HO.out _).alloc _) (bl_alloc (bl_drew HB.out _) _) _ _ _ rfl (cell_new _ _ _) hk4 ?_; intro v' w' ho2 hb2)
      go_roundw
      case rel => exact ⟨k + 1, by omega, by go_num, by rw [hst.out], by rw [hsn.out, hst.out]; exact ho2, hb2⟩
      case measure => simp [intOf]; omega
    · obtain rfl : p = k := by omega
      clear hi ho hr
      obtain ⟨A3, c3, rfl, hr3⟩ := own_rd hown rfl
      have hR2 : p ≤ 1048576 := by omega
      have HOWN := Lib.hid hown
      have HB := Lib.hid hbw
      clear hown hbw
      go_wp2_with (go_at_call 109; refine (areFinite_any _ _ _ (runL st is os rs p) _ hr3 hR2).mono ?_; rintro e w4 ⟨rfl, hb4⟩)
      go_ret2
      exact ⟨_, rfl, own_on HOWN.out hb4, below_step HB.out hb4⟩
/-! ### the worth -/
def wStep (os rs : List Nat) : Nat → Option Nat × Option Nat
  | 0 => (some 0, some 1065353216)
  | k + 1 => (oA (wStep os rs k).1 (oD (atN os k) (wStep os rs k).2), oM (wStep os rs k).2 (oA (some 1065353216) (atN rs k)))
def WorthNow_r1 (os rs : List Nat) : Bool := fundOk 0 [os] rs && finO (wStep os rs rs.length).1
def WorthNow_r0 (os rs : List Nat) : Nat := if WorthNow_r1 os rs then (wStep os rs rs.length).1.getD 0 else 0
theorem WorthNow_fin (os rs : List Nat) : nan32 (WorthNow_r0 os rs) = false := by
  unfold WorthNow_r0
  split
  · rename_i h
    simp only [WorthNow_r1, Bool.and_eq_true] at h
    cases e : (wStep os rs rs.length).1 with
    | none => rw [e] at h; exact absurd h.2 (by decide)
    | some b => rw [e] at h; exact F_nan (finB_iff.1 h.2)
  · exact F_nan F_zero
def WorIs (W : World) (os rs : List Nat) (E : Ending) (w' : World) : Prop := E = .returned (.tuple #[.float .f32 (WorthNow_r0 os rs), .bool (WorthNow_r1 os rs)]) ∧ Below W.heap.size W w'
theorem wor_no {W w' : World} {os rs : List Nat} (h : fundOk 0 [os] rs = false) (hb : Below W.heap.size W w') : WorIs W os rs (.returned (.tuple #[.float .f32 0, .bool false])) w' := by
  have h1 : WorthNow_r1 os rs = false := by simp [WorthNow_r1, h]
  unfold WorIs WorthNow_r0
  rw [h1]; exact ⟨rfl, hb⟩
theorem wor_yes {W w' : World} {os rs : List Nat} {n s : Nat} (h : fundOk 0 [os] rs = true) (hn : rs.length = n) (hs : Says (wStep os rs n).1 s) (hb : Below W.heap.size W w') : WorIs W os rs (.returned (.tuple #[.float .f32 (if finB s then s else 0), .bool (finB s)])) w' := by
  subst hn
  have h1 : WorthNow_r1 os rs = finB s := by rw [says_fin hs]; simp [WorthNow_r1, h]
  unfold WorIs WorthNow_r0
  rw [h1]
  refine ⟨?_, hb⟩
  cases hf : finB s
  · rfl
  · rw [says_some hs hf]; rfl
theorem finite_any (b : Nat) (w : World) : Calls Try.prog 73 #[.float .f32 b] w fun e w' => e = .returned (.tuple #[.float .f32 (if finB b then b else 0), .bool (finB b)]) ∧ Below w.heap.size w w' := by
  cases h : finB b
  · go_enter Try.func73, Try.ntmps73
    go_wp2_with (go_at_call 69; refine (isFinite_any b _).mono ?_; rintro e w1 ⟨rfl, hb⟩; rw [h])
    go_ret2
    exact ⟨rfl, hb⟩
  · go_enter Try.func73, Try.ntmps73
    go_wp2_with (go_at_call 69; refine (isFinite_any b _).mono ?_; rintro e w1 ⟨rfl, hb⟩; rw [h])
    go_ret2
    exact ⟨rfl, hb⟩
theorem l02Number_any (b : Nat) (w : World) : Calls Try.prog 72 #[.float .f32 b] w fun e w' => e = .returned (.tuple #[.float .f32 (if finB b then b else 0), .bool (finB b)]) ∧ Below w.heap.size w w' := by
  cases h : finB b
  · go_enter Try.func72, Try.ntmps72
    go_wp2_with (go_at_call 107; refine (l01Finite_any b _).mono ?_; rintro e w1 ⟨rfl, hb⟩; rw [h])
    go_ret2
    exact ⟨rfl, hb⟩
  · go_enter Try.func72, Try.ntmps72
    go_wp2_with (go_at_call 107; refine (l01Finite_any b _).mono ?_; rintro e w1 ⟨rfl, hb⟩; rw [h])
    go_ret2
    exact ⟨rfl, hb⟩
end Go.Proofs.Ytkdiegplbloccaa
