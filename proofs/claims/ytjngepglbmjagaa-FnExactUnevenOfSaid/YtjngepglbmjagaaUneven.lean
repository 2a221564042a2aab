/-
  UnevenOf: what the program's and the reference's function return.
-/
import Derived.Test.YtjngepglbmjagaaList
namespace Go.Proofs.Ytjngepglbmjagaa
open Go.ChangeShapes Go.WideShapes Go.ChangeAt Go.RowKit
set_option linter.unusedVariables false

/-! ### the greatest common divisor -/
theorem gcd_step (x y : Nat) : Nat.gcd y (x % y) = Nat.gcd x y := by
  rw [Nat.gcd_comm y, ← Nat.gcd_rec, Nat.gcd_comm]
theorem tmod_nat (x y : Nat) : ((x : Int)).tmod (y : Int) = ((x % y : Nat) : Int) := by
  rw [Int.tmod_eq_emod_of_nonneg (by omega)]; simp
theorem tdiv_nat (x y : Nat) : ((x : Int)).tdiv (y : Int) = ((x / y : Nat) : Int) := by
  rw [Int.tdiv_eq_ediv_of_nonneg (by omega)]; simp
theorem divisor_any (a b : Nat) (w : World) (ha : a ≤ 4000000000000000000) (hb : b ≤ 4000000000000000000) :
    Calls Try.prog 69 #[.int .i64 a, .int .i64 b] w fun e w' => e = .returned (.int .i64 (Nat.gcd a b : Nat)) ∧ ∃ q, w' = w.drewN q := by
  go_enter Try.func69, Try.ntmps69
  go_wp2_with fail
  go_loopw [0, 1] (fun u v wr => ∃ x y q : Nat, u = .int .i64 x ∧ v = .int .i64 y ∧ Nat.gcd x y = Nat.gcd a b ∧ x ≤ 4000000000000000000 ∧ y ≤ 4000000000000000000 ∧ w.drewN q = wr) (fun _ v _ => (intOf v).toNat)
  case atStart => exact ⟨a, b, 0, rfl, rfl, rfl, ha, hb, rfl⟩
  case round =>
    obtain ⟨x, y, q, rfl, rfl, hg, hx, hy, rfl⟩ := hrel
    have HG := Lib.hid hg
    clear hg ha hb
    by_cases hz : y = 0
    · have hfin := Lib.hid (show Nat.gcd a b = x by have := HG.out; rw [hz] at this; rw [← this]; simp)
      subst hz
      go_wp2_with fail
      go_ret
      exact ⟨by rw [hfin.out]; rfl, _, rfl⟩
    · have x1 := tmod_nat x y
      have x4 : ((y : Int) == 0) = false := by simpa using hz
      have x5 : ((y : Int) != 0) = true := by simpa using hz
      have hr0 : x % y < y := Nat.mod_lt _ (by omega)
      have hst := Lib.hid ((gcd_step x y).trans HG.out)
      obtain ⟨z, hz2⟩ : ∃ z, z = x % y := ⟨_, rfl⟩
      rw [← hz2] at x1 hr0 hst
      clear hz2
      go_wp2_with fail
      go_quiet (fail)
      go_wp2_with fail
      go_roundw
      case rel => exact ⟨y, z, q + nq, rfl, rfl, hst.out, hy, by omega, (World.drewN_drewN _ _ _).symm⟩
      case measure => simp [intOf]; omega
theorem lowest_any (a b : Nat) (w : World) (ha : a ≤ 4000000000000000000) (hb : b ≤ 4000000000000000000) (h0 : 0 < b) :
    Calls Try.prog 50 #[.int .i64 a, .int .i64 b] w fun e w' => e = .returned (.tuple #[.int .i64 (a / Nat.gcd a b : Nat), .int .i64 (b / Nat.gcd a b : Nat)]) ∧ ∃ q, w' = w.drewN q := by
  go_enter Try.func50, Try.ntmps50
  go_wp2_with fail
  refine (divisor_any _ _ _ ha hb).mono ?_
  rintro e w1 ⟨rfl, q, rfl⟩
  have g0 : 0 < Nat.gcd a b := Nat.gcd_pos_of_pos_right _ h0
  have g1 : Nat.gcd a b ≤ b := Nat.gcd_le_right _ h0
  have hfin := Lib.hid (show ∃ u v : Nat, u = a / Nat.gcd a b ∧ v = b / Nat.gcd a b from ⟨_, _, rfl, rfl⟩)
  obtain ⟨u, v, hu, hv⟩ := hfin.out
  obtain ⟨g, hg⟩ : ∃ g, g = Nat.gcd a b := ⟨_, rfl⟩
  rw [← hg] at g0 g1 hu hv ⊢
  have d1 := Nat.div_le_self a g
  have d2 := Nat.div_le_self b g
  have x1 := tdiv_nat a g
  have x2 := tdiv_nat b g
  have x3 : ((g : Int) == 0) = false := by simp; omega
  rw [← hu] at x1 d1
  rw [← hv] at x2 d2
  have x4 : IntKind.i64.wrap (u : Int) = (u : Int) := IntWalk.i64_in _ (by omega)
  have x5 : IntKind.i64.wrap (v : Int) = (v : Int) := IntWalk.i64_in _ (by omega)
  have HF := Lib.hid (show u = a / Nat.gcd a b ∧ v = b / Nat.gcd a b from ⟨by rw [← hg]; exact hu, by rw [← hg]; exact hv⟩)
  clear hu hv hg hfin
  go_wp2_with fail
  go_quiet (fail)
  go_wp2_with fail
  go_ret2
  exact ⟨by rw [← HF.out.1, ← HF.out.2]; rfl, _, World.drewN_drewN _ _ _⟩
theorem l07Fraction_any (a b : Nat) (w : World) (ha : a ≤ 4000000000000000000) (hb : b ≤ 4000000000000000000) (h0 : 0 < b) :
    Calls Try.prog 68 #[.int .i64 a, .int .i64 b] w fun e w' => e = .returned (.tuple #[.int .i64 (a / Nat.gcd a b : Nat), .int .i64 (b / Nat.gcd a b : Nat)]) ∧ ∃ q, w' = w.drewN q := by
  go_enter Try.func68, Try.ntmps68
  go_wp2_with fail
  go_loop [6, 7, 8] (fun u v _ => ∃ x y : Nat, u = .int .i64 x ∧ v = .int .i64 y ∧ Nat.gcd x y = Nat.gcd a b ∧ x ≤ 4000000000000000000 ∧ y ≤ 4000000000000000000) (fun _ v _ => (intOf v).toNat)
  case atStart => exact ⟨a, b, rfl, rfl, rfl, ha, hb⟩
  case round =>
    obtain ⟨x, y, rfl, rfl, hg, hx, hy⟩ := hrel
    by_cases hz : y = 0
    · subst hz
      rw [Nat.gcd_zero_right] at hg
      have g0 : 0 < Nat.gcd a b := Nat.gcd_pos_of_pos_right _ h0
      rw [← hg] at g0
      obtain ⟨u, hu⟩ : ∃ u, u = a / x := ⟨_, rfl⟩
      obtain ⟨v, hv⟩ : ∃ v, v = b / x := ⟨_, rfl⟩
      have d1 := Nat.div_le_self a x
      have d2 := Nat.div_le_self b x
      have x1 := tdiv_nat a x
      have x2 := tdiv_nat b x
      have x3 : ((x : Int) == 0) = false := by simp; omega
      rw [← hu] at x1 d1
      rw [← hv] at x2 d2
      have x4 : IntKind.i64.wrap (u : Int) = (u : Int) := IntWalk.i64_in _ (by omega)
      have x5 : IntKind.i64.wrap (v : Int) = (v : Int) := IntWalk.i64_in _ (by omega)
      have HF := Lib.hid (show u = a / Nat.gcd a b ∧ v = b / Nat.gcd a b from ⟨by rw [← hg]; exact hu, by rw [← hg]; exact hv⟩)
      clear hu hv hg
      go_wp2_with fail
      go_quiet (fail)
      go_wp2_with fail
      go_ret2
      exact ⟨by rw [← HF.out.1, ← HF.out.2]; rfl, _, rfl⟩
    · have HG := Lib.hid hg
      clear hg
      have x1 := tmod_nat x y
      have x4 : ((y : Int) == 0) = false := by simpa using hz
      have x5 : ((y : Int) != 0) = true := by simpa using hz
      have hr0 : x % y < y := Nat.mod_lt _ (by omega)
      have hst := Lib.hid ((gcd_step x y).trans HG.out)
      obtain ⟨z, hz2⟩ : ∃ z, z = x % y := ⟨_, rfl⟩
      rw [← hz2] at x1 hr0 hst
      clear hz2
      go_wp2_with fail
      go_round
      case rel => exact ⟨y, z, rfl, by first | rfl | simp | rw [x1], hst.out, hy, by omega⟩
      case measure => first | (simp [intOf]; omega) | (simp [intOf, x1]; omega)

/-! ### UnevenOf -/
def adiff (x y : Int) : Int := max (x - y) (y - x)
def gapIn (zs : List Int) (i : Nat) : Nat → Int
  | 0 => 0
  | k + 1 => gapIn zs i k + adiff (zs[i]?.getD 0) (zs[k]?.getD 0)
def gapAll (zs : List Int) : Nat → Int
  | 0 => 0
  | i + 1 => gapAll zs i + gapIn zs i i
def unevenOk (zs : List Int) : Bool := cntIn zs 1 64 0 1000000000 && !decide (sumI zs = 0)
def unA (zs : List Int) : Nat := (gapAll zs zs.length).toNat
def unB (zs : List Int) : Nat := (zs.length * sumI zs).toNat
def UnevenOf_r0 (zs : List Int) : Int := if unevenOk zs then (unA zs / Nat.gcd (unA zs) (unB zs) : Nat) else 0
def UnevenOf_r1 (zs : List Int) : Int := if unevenOk zs then (unB zs / Nat.gcd (unA zs) (unB zs) : Nat) else 0
def UnevenOf_r2 (zs : List Int) : Bool := unevenOk zs
def UnevenIs (zs : List Int) (E : Ending) : Prop := E = .returned (.tuple #[.int .i64 (UnevenOf_r0 zs), .int .i64 (UnevenOf_r1 zs), .bool (UnevenOf_r2 zs)])
theorem uneven_no {zs : List Int} (h : unevenOk zs = false) : UnevenIs zs (.returned (.tuple #[.int .i64 0, .int .i64 0, .bool false])) := by
  unfold UnevenIs UnevenOf_r0 UnevenOf_r1 UnevenOf_r2; rw [h]; rfl
theorem uneven_yes {zs : List Int} {a b : Nat} (h : unevenOk zs = true) (ha : unA zs = a) (hb : unB zs = b) : UnevenIs zs (.returned (.tuple #[.int .i64 (a / Nat.gcd a b : Nat), .int .i64 (b / Nat.gcd a b : Nat), .bool true])) := by
  unfold UnevenIs UnevenOf_r0 UnevenOf_r1 UnevenOf_r2; rw [h, ha, hb]; rfl
set_option maxHeartbeats 1600000 in
theorem implUneven_any (A : Option Addr) (n : Nat) (zs : List Int) (w : World) (hr : Rd w w.heap.size 1 A n (ints zs)) (hn : n ≤ 1048576) :
    Calls Try.prog 23 #[.slice A n n] w fun E w' => UnevenIs zs E ∧ Below w.heap.size w w' := by
  have HL := Lib.hid hr.ilen
  cases h1 : cntIn zs 1 64 0 1000000000
  · have hfin := Lib.hid (uneven_no (zs := zs) (by simp [unevenOk, h1]))
    go_enter Try.func23, Try.ntmps23
    go_wp2_with fail
    refine (AreIncomes_any _ _ _ zs _ hr (by omega)).mono ?_; rintro e w1 ⟨rfl, hb⟩
    go_wp2_with fail
    go_ret3
    exact ⟨hfin.out, hb⟩
  obtain ⟨_, h4, h5⟩ := cntIn_iff.1 h1
  have hn64 : n ≤ 64 := by have := HL.out; omega
  have hT : 0 ≤ sumI zs ∧ sumI zs ≤ 64000000000 := by
    have := sumI_le zs (fun z hz => allIn_at h5 z hz)
    omega
  have hTb := mul_bd (a := (n : Int)) (b := sumI zs) 64 64000000000 (by omega) (by omega) hT.1 hT.2
  have H5 := Lib.hid h5
  have hsm := Lib.hid (small_of h5 (by omega) (by omega))
  obtain ⟨T, hTd⟩ : ∃ T, T = sumI zs := ⟨_, rfl⟩
  have HT := Lib.hid hTd
  rw [← hTd] at hT hTb
  have hTp : 0 < n := by have := HL.out; omega
  have H1 := Lib.hid h1
  clear hTd h1 h4 h5 hn
  by_cases hT0 : T = 0
  · have hfin := Lib.hid (uneven_no (zs := zs) (by simp [unevenOk, ← HT.out, hT0]))
    have hT1 := beq_iff_eq.2 hT0
    go_enter Try.func23, Try.ntmps23
    go_wp2_with fail
    refine (AreIncomes_any _ _ _ zs _ hr (by omega)).mono ?_; rintro e w1 ⟨rfl, hb⟩
    rw [H1.out]
    go_wp2_with fail
    refine (total_any _ _ _ zs _ (hr.on hb) (by omega) hsm.out).mono ?_
    rintro e w2 ⟨rfl, rfl⟩
    rw [← HT.out]
    go_wp2_with fail
    go_ret3
    exact ⟨hfin.out, hb⟩
  have hok := Lib.hid (show unevenOk zs = true by simp [unevenOk, H1.out, ← HT.out, hT0])
  have hT1 := beq_eq_false_iff_ne.2 hT0
  have hTq := Int.mul_pos (a := (n : Int)) (b := T) (by omega) (by omega)
  go_enter Try.func23, Try.ntmps23
  go_wp2_with fail
  refine (AreIncomes_any _ _ _ zs _ hr (by omega)).mono ?_; rintro e w1 ⟨rfl, hb⟩
  have hr1 := hr.on hb
  rw [H1.out]
  go_wp2_with fail
  refine (total_any _ _ _ zs _ hr1 (by omega) hsm.out).mono ?_
  rintro e w2 ⟨rfl, rfl⟩
  rw [← HT.out]
  go_wp2_with fail
  clear hr hT0 hT1
  go_loop [5, 6, 7, 9, 22, 29, 30, 31] (fun s _ _ _ i _ _ _ => ∃ k : Nat, k ≤ n ∧ i = .int .i64 k ∧ s = .int .i64 (gapAll zs k) ∧ 0 ≤ gapAll zs k ∧ gapAll zs k ≤ 64000000000 * k) (fun _ _ _ _ i _ _ _ => n - (intOf i).toNat)
  case atStart => exact ⟨0, Nat.zero_le _, rfl, rfl, Int.le_refl _, by simp [gapAll]⟩
  case round =>
    obtain ⟨k, hk, rfl, rfl, g0, g1⟩ := hrel
    obtain ⟨g, hg⟩ : ∃ g, g = gapAll zs k := ⟨_, rfl⟩
    rw [← hg] at g0 g1 ⊢
    have HG := Lib.hid hg
    clear hg
    by_cases hlt : k < n
    · obtain ⟨ad, rfl, hc⟩ := hr1.int hlt
      obtain ⟨x, hx⟩ : ∃ x, x = zs[k]?.getD 0 := ⟨_, rfl⟩
      have bx := allIn_at H5.out _ (getD_mem (zs := zs) (k := k) (by have := HL.out; omega))
      have hst := Lib.hid (show gapAll zs (k + 1) = gapAll zs k + gapIn zs k k from rfl)
      rw [← hx] at hc bx
      have HX := Lib.hid hx
      clear hx
      go_wp2_with fail
      go_loop [5, 9, 31] (fun s _ jv => ∃ j : Nat, j ≤ k ∧ jv = .int .i64 j ∧ s = .int .i64 (g + gapIn zs k j) ∧ 0 ≤ gapIn zs k j ∧ gapIn zs k j ≤ 1000000000 * j) (fun _ _ jv => k - (intOf jv).toNat)
      case atStart => exact ⟨0, Nat.zero_le _, rfl, by simp [gapIn], Int.le_refl _, by simp [gapIn]⟩
      case round =>
        obtain ⟨j, hj, rfl, rfl, f0, f1⟩ := hrel
        by_cases hjl : j < k
        · obtain ⟨af, hE, hd⟩ := hr1.int (by omega : j < n)
          cases hE
          have by' := allIn_at H5.out _ (getD_mem (zs := zs) (k := j) (by have := HL.out; omega))
          have hs2 := Lib.hid (show gapIn zs k (j + 1) = gapIn zs k j + adiff (zs[k]?.getD 0) (zs[j]?.getD 0) from rfl)
          obtain ⟨y, hy⟩ : ∃ y, y = zs[j]?.getD 0 := ⟨_, rfl⟩
          obtain ⟨f, hf⟩ : ∃ f, f = gapIn zs k j := ⟨_, rfl⟩
          rw [← hy] at hd by'
          rw [← hf] at f0 f1 ⊢
          have HY := Lib.hid hy
          have HF := Lib.hid hf
          clear hy hf hr1
          go_wp2_with fail
          go_round
          case rel => exact ⟨j + 1, by omega, by go_num, by rw [hs2.out, ← HF.out, ← HX.out, ← HY.out]; unfold adiff; go_num, by rw [hs2.out, ← HF.out, ← HX.out, ← HY.out]; unfold adiff; omega, by rw [hs2.out, ← HF.out, ← HX.out, ← HY.out]; unfold adiff; omega⟩
          case measure => simp [intOf]; omega
        · obtain rfl : k = j := by omega
          obtain ⟨f, hf⟩ : ∃ f, f = gapIn zs k k := ⟨_, rfl⟩
          rw [← hf] at f0 f1 ⊢
          have HF := Lib.hid hf
          clear hf hr1
          go_wp2_with fail
          go_round
          case rel => exact ⟨k + 1, by omega, by go_num, by rw [hst.out, ← HG.out, ← HF.out], by rw [hst.out, ← HG.out, ← HF.out]; omega, by rw [hst.out, ← HG.out, ← HF.out]; omega⟩
          case measure => simp [intOf]; omega
    · obtain rfl : n = k := by omega
      obtain ⟨a, rfl⟩ := Int.eq_ofNat_of_zero_le g0
      obtain ⟨b, hb2⟩ := Int.eq_ofNat_of_zero_le hTb.1
      have hfin := Lib.hid (uneven_yes (zs := zs) (a := a) (b := b) hok.out (by unfold unA; rw [HL.out, ← HG.out]; simp) (by unfold unB; rw [HL.out, ← HT.out, hb2]; simp))
      have hb3 : b ≤ 4000000000000000000 := by omega
      have hb4 : 0 < b := by omega
      have HB := Lib.hid hb2
      clear hb2
      go_wp2_with fail
      refine (total_any _ _ _ zs _ hr1 (by omega) hsm.out).mono ?_
      rintro e w2 ⟨rfl, rfl⟩
      rw [← HT.out]
      go_wp2_with fail
      rw [HB.out]
      refine (lowest_any _ _ _ (by omega) hb3 hb4).mono ?_
      rintro e w3 ⟨rfl, q, rfl⟩
      go_wp2_with fail
      go_ret3
      exact ⟨hfin.out, below_drewN hb q⟩

set_option maxHeartbeats 1600000 in
theorem l07Uneven_any (A : Option Addr) (n : Nat) (zs : List Int) (w : World) (hr : Rd w w.heap.size 1 A n (ints zs)) (hn : n ≤ 1048576) :
    Calls Try.prog 48 #[.slice A n n] w fun E w' => UnevenIs zs E ∧ Below w.heap.size w w' := by
  have HL := Lib.hid hr.ilen
  cases h1 : cntIn zs 1 64 0 1000000000
  · have hfin := Lib.hid (uneven_no (zs := zs) (by simp [unevenOk, h1]))
    go_enter Try.func48, Try.ntmps48
    go_wp2_with fail
    refine (l07Incomes_any _ _ _ zs _ hr (by omega)).mono ?_; rintro e w1 ⟨rfl, rfl⟩; have hb := Below.refl w.heap.size w
    go_wp2_with fail
    go_ret3
    exact ⟨hfin.out, hb⟩
  obtain ⟨_, h4, h5⟩ := cntIn_iff.1 h1
  have hn64 : n ≤ 64 := by have := HL.out; omega
  have hT : 0 ≤ sumI zs ∧ sumI zs ≤ 64000000000 := by
    have := sumI_le zs (fun z hz => allIn_at h5 z hz)
    omega
  have hTb := mul_bd (a := (n : Int)) (b := sumI zs) 64 64000000000 (by omega) (by omega) hT.1 hT.2
  have H5 := Lib.hid h5
  have hsm := Lib.hid (small_of h5 (by omega) (by omega))
  obtain ⟨T, hTd⟩ : ∃ T, T = sumI zs := ⟨_, rfl⟩
  have HT := Lib.hid hTd
  rw [← hTd] at hT hTb
  have hTp : 0 < n := by have := HL.out; omega
  have H1 := Lib.hid h1
  clear hTd h1 h4 h5 hn
  by_cases hT0 : T = 0
  · have hfin := Lib.hid (uneven_no (zs := zs) (by simp [unevenOk, ← HT.out, hT0]))
    have hT1 := beq_iff_eq.2 hT0
    go_enter Try.func48, Try.ntmps48
    go_wp2_with fail
    refine (l07Incomes_any _ _ _ zs _ hr (by omega)).mono ?_; rintro e w1 ⟨rfl, rfl⟩; have hb := Below.refl w.heap.size w
    rw [H1.out]
    go_wp2_with fail
    refine (l07All_any _ _ _ zs _ (hr.on hb) (by omega) hsm.out).mono ?_
    rintro e w2 ⟨rfl, rfl⟩
    rw [← HT.out]
    go_wp2_with fail
    go_ret3
    exact ⟨hfin.out, hb⟩
  have hok := Lib.hid (show unevenOk zs = true by simp [unevenOk, H1.out, ← HT.out, hT0])
  have hT1 := beq_eq_false_iff_ne.2 hT0
  have hTq := Int.mul_pos (a := (n : Int)) (b := T) (by omega) (by omega)
  go_enter Try.func48, Try.ntmps48
  go_wp2_with fail
  refine (l07Incomes_any _ _ _ zs _ hr (by omega)).mono ?_; rintro e w1 ⟨rfl, rfl⟩; have hb := Below.refl w.heap.size w
  have hr1 := hr.on hb
  rw [H1.out]
  go_wp2_with fail
  refine (l07All_any _ _ _ zs _ hr1 (by omega) hsm.out).mono ?_
  rintro e w2 ⟨rfl, rfl⟩
  rw [← HT.out]
  go_wp2_with fail
  clear hr hT0 hT1
  go_loopw [5, 6, 7, 8, 21] (fun s _ _ _ i wr => ∃ k : Nat, k ≤ n ∧ i = .int .i64 k ∧ s = .int .i64 (gapAll zs k) ∧ 0 ≤ gapAll zs k ∧ gapAll zs k ≤ 64000000000 * k ∧ Below w.heap.size w wr) (fun _ _ _ _ i _ => n - (intOf i).toNat)
  case atStart => exact ⟨0, Nat.zero_le _, rfl, rfl, Int.le_refl _, by simp [gapAll], hb⟩
  case round =>
    obtain ⟨k, hk, rfl, rfl, g0, g1, hbw⟩ := hrel
    clear hb
    obtain ⟨g, hg⟩ : ∃ g, g = gapAll zs k := ⟨_, rfl⟩
    rw [← hg] at g0 g1 ⊢
    have HG := Lib.hid hg
    clear hg
    by_cases hlt : k < n
    · have hst := Lib.hid (show gapAll zs (k + 1) = gapAll zs k + gapIn zs k k from rfl)
      go_wp2_with fail
      obtain ⟨wo, rfl⟩ : ∃ wo : World, wo = wr := ⟨_, rfl⟩
      go_loopw [5, 7, 8] (fun s jv _ wi => ∃ j : Nat, j ≤ k ∧ jv = .int .i64 j ∧ s = .int .i64 (g + gapIn zs k j) ∧ 0 ≤ gapIn zs k j ∧ gapIn zs k j ≤ 1000000000 * j ∧ Below w.heap.size w wi) (fun _ jv _ _ => k - (intOf jv).toNat)
      case atStart => exact ⟨0, Nat.zero_le _, rfl, by simp [gapIn], Int.le_refl _, by simp [gapIn], hbw⟩
      case round =>
        obtain ⟨j, hj, rfl, rfl, f0, f1, hbi⟩ := hrel
        by_cases hjl : j < k
        · obtain ⟨ad, rfl, hc⟩ := (hr1.below hbi).int hlt
          obtain ⟨af, hE, hd⟩ := (hr1.below hbi).int (by omega : j < n)
          cases hE
          obtain ⟨x, hx⟩ : ∃ x, x = zs[k]?.getD 0 := ⟨_, rfl⟩
          have bx := allIn_at H5.out _ (getD_mem (zs := zs) (k := k) (by have := HL.out; omega))
          rw [← hx] at hc bx
          have HX := Lib.hid hx
          clear hx
          have by' := allIn_at H5.out _ (getD_mem (zs := zs) (k := j) (by have := HL.out; omega))
          have hs2 := Lib.hid (show gapIn zs k (j + 1) = gapIn zs k j + adiff (zs[k]?.getD 0) (zs[j]?.getD 0) from rfl)
          obtain ⟨y, hy⟩ : ∃ y, y = zs[j]?.getD 0 := ⟨_, rfl⟩
          obtain ⟨f, hf⟩ : ∃ f, f = gapIn zs k j := ⟨_, rfl⟩
          rw [← hy] at hd by'
          rw [← hf] at f0 f1 ⊢
          have HY := Lib.hid hy
          have HF := Lib.hid hf
          have x1 : IntKind.i64.wrap (x - y) = x - y := IntWalk.i64_in _ (by omega)
          have i1 : (0 : Int) ≤ k := by omega
          have i2 : (k : Int) < n := by omega
          have i3 : (0 : Int) ≤ j := by omega
          have i4 : (j : Int) < n := by omega
          clear hy hf hr1 hbw
          go_wp2_with fail
          go_quiet (fail)
          have hbq := below_drewN hbi nq
          clear x1
          by_cases hneg : x - y < 0
          · go_wp2_with fail
            go_roundw
            case rel => exact ⟨j + 1, by omega, by go_num, by rw [hs2.out, ← HF.out, ← HX.out, ← HY.out]; unfold adiff; go_num, by rw [hs2.out, ← HF.out, ← HX.out, ← HY.out]; unfold adiff; omega, by rw [hs2.out, ← HF.out, ← HX.out, ← HY.out]; unfold adiff; omega, hbq⟩
            case measure => simp [intOf]; omega
          · go_wp2_with fail
            go_roundw
            case rel => exact ⟨j + 1, by omega, by go_num, by rw [hs2.out, ← HF.out, ← HX.out, ← HY.out]; unfold adiff; go_num, by rw [hs2.out, ← HF.out, ← HX.out, ← HY.out]; unfold adiff; omega, by rw [hs2.out, ← HF.out, ← HX.out, ← HY.out]; unfold adiff; omega, hbq⟩
            case measure => simp [intOf]; omega
        · obtain rfl : k = j := by omega
          obtain ⟨f, hf⟩ : ∃ f, f = gapIn zs k k := ⟨_, rfl⟩
          rw [← hf] at f0 f1 ⊢
          have HF := Lib.hid hf
          clear hf hr1 hbw
          go_wp2_with fail
          go_roundw
          case rel => exact ⟨k + 1, by omega, by go_num, by rw [hst.out, ← HG.out, ← HF.out], by rw [hst.out, ← HG.out, ← HF.out]; omega, by rw [hst.out, ← HG.out, ← HF.out]; omega, hbi⟩
          case measure => simp [intOf]; omega
    · obtain rfl : n = k := by omega
      obtain ⟨a, rfl⟩ := Int.eq_ofNat_of_zero_le g0
      obtain ⟨b, hb2⟩ := Int.eq_ofNat_of_zero_le hTb.1
      have hfin := Lib.hid (uneven_yes (zs := zs) (a := a) (b := b) hok.out (by unfold unA; rw [HL.out, ← HG.out]; simp) (by unfold unB; rw [HL.out, ← HT.out, hb2]; simp))
      have hb3 : b ≤ 4000000000000000000 := by omega
      have hb4 : 0 < b := by omega
      have HB := Lib.hid hb2
      clear hb2
      go_wp2_with fail
      refine (l07All_any _ _ _ zs _ ((hr1.below hbw).more hbw.size) (by omega) hsm.out).mono ?_
      rintro e w2 ⟨rfl, rfl⟩
      rw [← HT.out]
      go_wp2_with fail
      rw [HB.out]
      refine (l07Fraction_any _ _ _ (by omega) hb3 hb4).mono ?_
      rintro e w3 ⟨rfl, q, rfl⟩
      go_wp2_with fail
      go_ret3
      exact ⟨hfin.out, below_drewN hbw q⟩
theorem impl_UnevenOf (A : Option Addr) (n : Nat) (zs : List Int) (w : World) (hr : Rd w w.heap.size 1 A n (ints zs)) (hn : n ≤ 1048576) (hz : I64s zs) :
    Calls Try.prog 23 #[.slice A n n] w fun E w' => E = .returned (.tuple #[.int .i64 (UnevenOf_r0 zs), .int .i64 (UnevenOf_r1 zs), .bool (UnevenOf_r2 zs)]) ∧ Below w.heap.size w w' := implUneven_any _ _ _ _ hr hn
theorem spec_UnevenOf (A : Option Addr) (n : Nat) (zs : List Int) (w : World) (hr : Rd w w.heap.size 1 A n (ints zs)) (hn : n ≤ 1048576) (hz : I64s zs) :
    Calls Try.prog 22 #[.slice A n n] w fun E w' => E = .returned (.tuple #[.int .i64 (UnevenOf_r0 zs), .int .i64 (UnevenOf_r1 zs), .bool (UnevenOf_r2 zs)]) ∧ Below w.heap.size w w' := by
  show Calls Try.prog _ _ w fun E w' => UnevenIs zs E ∧ Below w.heap.size w w'
  go_enter Try.func22, Try.ntmps22
  go_wp2_with fail
  refine (l07Uneven_any _ _ zs _ hr hn).mono ?_
  rintro e w1 ⟨hE, hb⟩
  have HE := Lib.hid hE
  unfold UnevenIs at hE
  subst hE
  go_wp2_with fail
  go_ret3
  exact ⟨HE.out, hb⟩
end Go.Proofs.Ytjngepglbmjagaa
