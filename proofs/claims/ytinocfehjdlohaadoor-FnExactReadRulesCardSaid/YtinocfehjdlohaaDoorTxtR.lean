/-
  RULES AS TEXTS: the program's ruleText.
-/
import Derived.Test.YtinocfehjdlohaaDoorTxtI
namespace Go.Proofs.YtinocfehjdlohaaDoor
open Go.ChangeShapes Go.WideShapes Go.ChangeAt Go.RowKit
set_option linter.unusedVariables false
set_option linter.unusedSimpArgs false

theorem cD_of {w : World} (ht : Tab w) {z : Int} (hz : -9223372036854775808 ≤ z ∧ z ≤ 9223372036854775807) (d : Nat) (os : Array _root_.Go.Obj) :
    Calls Tryd.prog 52 #[.int .i64 z] (Sort.grow (redrawn w d) os) fun e w'' => e = .returned (.string (txB (itoa z))) ∧ ∃ p : Regrown, w'' = Sort.grow (redrawn w p.d) p.os :=
  Calls.regrown_of (decimal_is z hz _ (ht.on (below_regrown w d os)))
theorem ruleTx_nil (hd fr tt rk : Int) : ruleTx ⟨hd, [], fr, tt, rk⟩ = itoa fr ++ [45] ++ itoa tt ++ [32, 114] ++ itoa rk ++ [58, 32] ++ [] ++ [61, 62, 32] ++ itoa hd := rfl
theorem ruleTx_cons (hd fr tt rk : Int) {ifs : List Int} (h : ifs ≠ []) : ruleTx ⟨hd, ifs, fr, tt, rk⟩ = itoa fr ++ [45] ++ itoa tt ++ [32, 114] ++ itoa rk ++ [58, 32] ++ (ifsTx ifs ++ [32]) ++ [61, 62, 32] ++ itoa hd := by
  unfold ruleTx ifsTx2; rw [if_neg h]
theorem rule_join (a b c d x : List UInt8) : txB a ++ ⟨#[45]⟩ ++ txB b ++ ⟨#[32, 114]⟩ ++ txB c ++ ⟨#[58, 32]⟩ ++ txB x ++ ⟨#[61, 62, 32]⟩ ++ txB d = txB (a ++ [45] ++ b ++ [32, 114] ++ c ++ [58, 32] ++ x ++ [61, 62, 32] ++ d) := by
  simp only [← txB_append]; rfl
set_option maxRecDepth 100000 in
set_option maxHeartbeats 4000000 in
theorem ruleText_is (hd fr tt rk : Int) (A : Option Addr) (n c : Nat) (ifs : List Int) (w : World) (hr : Rd w w.heap.size 1 A n (ints ifs)) (hn : n ≤ 1000) (hz : I64s ifs)
    (hfr : -9223372036854775808 ≤ fr ∧ fr ≤ 9223372036854775807) (htt : -9223372036854775808 ≤ tt ∧ tt ≤ 9223372036854775807) (hrk : -9223372036854775808 ≤ rk ∧ rk ≤ 9223372036854775807) (hhd : -9223372036854775808 ≤ hd ∧ hd ≤ 9223372036854775807) (ht : Tab w) :
    Calls Tryd.prog 30 #[.agg #[.int .i64 hd, .slice A n c, .int .i64 fr, .int .i64 tt, .int .i64 rk]] w fun e w' => e = .returned (.string (txB (ruleTx ⟨hd, ifs, fr, tt, rk⟩))) ∧ Below w.heap.size w w' := by
  have HL := Lib.hid hr.ilen
  have HR := Lib.hid hr
  have HZ := Lib.hid hz
  have HT := Lib.hid ht
  clear hr hz ht
  obtain ⟨sa, ea⟩ : ∃ s, txB (itoa fr) = s := ⟨_, rfl⟩
  obtain ⟨sb, eb⟩ : ∃ s, txB (itoa tt) = s := ⟨_, rfl⟩
  obtain ⟨sc, ec⟩ : ∃ s, txB (itoa rk) = s := ⟨_, rfl⟩
  obtain ⟨sd, ed⟩ : ∃ s, txB (itoa hd) = s := ⟨_, rfl⟩
  obtain ⟨sx, ex⟩ : ∃ s, txB (ifsTx ifs) = s := ⟨_, rfl⟩
  have za : sa.size ≤ 21 := by rw [← ea, txB_size]; exact itoa_len hfr
  have zb : sb.size ≤ 21 := by rw [← eb, txB_size]; exact itoa_len htt
  have zc : sc.size ≤ 21 := by rw [← ec, txB_size]; exact itoa_len hrk
  have zd : sd.size ≤ 21 := by rw [← ed, txB_size]; exact itoa_len hhd
  have zx : sx.size ≤ 24000 := by rw [← ex, txB_size]; have := ifsTx_len HZ.out; have := HL.out; omega
  go_enter Tryd.func30, Tryd.ntmps30
  go_wp2_with fail
  refine (decimals_is A n c ifs ⟨#[32, 38, 32]⟩ _ ((HR.out.alloc (Nat.le_refl _) _).more (by simp)) hn HZ.out (by decide) (HT.out.on ((Below.refl _ _).alloc (Nat.le_refl _) _))).mono ?_
  rintro e w1 ⟨rfl, hb1⟩
  have hB := (((Below.refl _ w).alloc (Nat.le_refl _) _).trans (hb1.mono (by simp)))
  have HB := Lib.hid hB
  have HT1 := Lib.hid (HT.out.on hB)
  have x0 := (hb1.cell (p := ⟨w.heap.size, 0, none⟩) (by simp)).trans (World.cell?_alloc_new _ _ _ _)
  have x2 := (hb1.cell (p := ⟨w.heap.size, 2, none⟩) (by simp)).trans (World.cell?_alloc_new _ _ _ _)
  have x3 := (hb1.cell (p := ⟨w.heap.size, 3, none⟩) (by simp)).trans (World.cell?_alloc_new _ _ _ _)
  have x4 := (hb1.cell (p := ⟨w.heap.size, 4, none⟩) (by simp)).trans (World.cell?_alloc_new _ _ _ _)
  change _ = some (Value.int .i64 hd) at x0
  change _ = some (Value.int .i64 fr) at x2
  change _ = some (Value.int .i64 tt) at x3
  change _ = some (Value.int .i64 rk) at x4
  clear hB hb1
  rw [show txB (Lib.join (ifs.map itoa) (⟨#[32, 38, 32]⟩ : ByteArray).data.toList) = sx from ex]
  have k0 := cell_regrown x0
  have k2 := cell_regrown x2
  have k3 := cell_regrown x3
  have k4 := cell_regrown x4
  have cF := fun d os => cD_of HT1.out (z := fr) hfr d os
  have cT := fun d os => cD_of HT1.out (z := tt) htt d os
  have cK := fun d os => cD_of HT1.out (z := rk) hrk d os
  have cH := fun d os => cD_of HT1.out (z := hd) hhd d os
  rw [ea] at cF
  rw [eb] at cT
  rw [ec] at cK
  rw [ed] at cH
  clear x0 x2 x3 x4 hfr htt hrk hhd
  have hB2 : ∀ d os, Below w.heap.size w (Sort.grow (redrawn w1 d) os) := fun d os => below_step HB.out (below_regrown w1 d os)
  have HB2 := Lib.hid hB2
  clear hB2
  by_cases h0 : ifs = []
  · have he : sx.toList.isEmpty = true := by rw [← ex, h0, Go.ByteArray.toList_eq, txB_data]; rfl
    have n1 : ¬ 9223372036854775807 < sa.size + 1 := by omega
    have n2 : ¬ 9223372036854775807 < sa.size + 1 + sb.size := by omega
    have n3 : ¬ 9223372036854775807 < sa.size + 1 + sb.size + 2 := by omega
    have n4 : ¬ 9223372036854775807 < sa.size + 1 + sb.size + 2 + sc.size := by omega
    have n5 : ¬ 9223372036854775807 < sa.size + 1 + sb.size + 2 + sc.size + 2 := by omega
    have n6 : ¬ 9223372036854775807 < sa.size + 1 + sb.size + 2 + sc.size + 2 + sx.size := by omega
    have n7 : ¬ 9223372036854775807 < sa.size + 1 + sb.size + 2 + sc.size + 2 + sx.size + 3 := by omega
    have n8 : ¬ 9223372036854775807 < sa.size + 1 + sb.size + 2 + sc.size + 2 + sx.size + 3 + sd.size := by omega
    have hfin := Lib.hid (show txB (ruleTx ⟨hd, ifs, fr, tt, rk⟩) = sa ++ ⟨#[45]⟩ ++ sb ++ ⟨#[32, 114]⟩ ++ sc ++ ⟨#[58, 32]⟩ ++ sx ++ ⟨#[61, 62, 32]⟩ ++ sd by
      rw [← ea, ← eb, ← ec, ← ed, ← ex, rule_join, h0]; rfl)
    clear ea eb ec ed ex h0
    go_wp2_with fail
    refine wp_region_quiet_below (by kernel_rfl) (by kernel_rfl) ?_
    repeat (quiet_step (first | exact cF _ _ | exact cT _ _ | exact cK _ _ | exact cH _ _))
    refine wpQuiet_nil ?_
    intro _ hw'
    obtain ⟨⟨dq, osq⟩, hw''⟩ := hw'
    subst hw''
    go_wp2_with fail
    go_ret
    exact ⟨by rw [hfin.out]; rfl, HB2.out _ _⟩
  · have he : sx.toList.isEmpty = false := by
      have h1 := ifsTx_pos h0
      rw [← ex]
      rw [Go.ByteArray.toList_eq, txB_data]
      cases hq : ifsTx ifs with
      | nil => rw [hq] at h1; exact absurd h1 (by simp)
      | cons a t => rfl
    obtain ⟨sy, hy⟩ : ∃ s, sx ++ (⟨#[32]⟩ : ByteArray) = s := ⟨_, rfl⟩
    have zy : sy.size ≤ 24001 := by
      rw [← hy, ByteArray.size_append]
      have : (⟨#[32]⟩ : ByteArray).size = 1 := rfl
      omega
    have n1 : ¬ 9223372036854775807 < sa.size + 1 := by omega
    have n2 : ¬ 9223372036854775807 < sa.size + 1 + sb.size := by omega
    have n3 : ¬ 9223372036854775807 < sa.size + 1 + sb.size + 2 := by omega
    have n4 : ¬ 9223372036854775807 < sa.size + 1 + sb.size + 2 + sc.size := by omega
    have n5 : ¬ 9223372036854775807 < sa.size + 1 + sb.size + 2 + sc.size + 2 := by omega
    have n6 : ¬ 9223372036854775807 < sa.size + 1 + sb.size + 2 + sc.size + 2 + sy.size := by omega
    have n7 : ¬ 9223372036854775807 < sa.size + 1 + sb.size + 2 + sc.size + 2 + sy.size + 3 := by omega
    have n8 : ¬ 9223372036854775807 < sa.size + 1 + sb.size + 2 + sc.size + 2 + sy.size + 3 + sd.size := by omega
    have hfin := Lib.hid (show txB (ruleTx ⟨hd, ifs, fr, tt, rk⟩) = sa ++ ⟨#[45]⟩ ++ sb ++ ⟨#[32, 114]⟩ ++ sc ++ ⟨#[58, 32]⟩ ++ sy ++ ⟨#[61, 62, 32]⟩ ++ sd by
      rw [← ea, ← eb, ← ec, ← ed, ← hy, ← ex, show txB (ifsTx ifs) ++ ⟨#[32]⟩ = txB (ifsTx ifs ++ [32]) by rw [← txB_append]; rfl, rule_join, ruleTx_cons hd fr tt rk h0])
    clear ea eb ec ed ex h0
    go_wp2_with fail
    refine wp_region_quiet_below (by kernel_rfl) (by kernel_rfl) ?_
    repeat (quiet_step (first | exact cF _ _ | exact cT _ _ | exact cK _ _ | exact cH _ _))
    refine wpQuiet_nil ?_
    intro _ hw'
    obtain ⟨⟨dq, osq⟩, hw''⟩ := hw'
    subst hw''
    go_wp2_with fail
    go_ret
    exact ⟨by rw [hfin.out]; rfl, HB2.out _ _⟩
end Go.Proofs.YtinocfehjdlohaaDoor
