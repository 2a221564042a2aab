/-
  YearsToLive: what the program's and the reference's function return.
-/
import Derived.Test.YtefoebaoejoamaaAlive
namespace Go.Proofs.Ytefoebaoejoamaa
open Fl
open Go.ChangeShapes Go.WideShapes Go.ChangeAt Go.RowKit
set_option linter.unusedVariables false

/-- the sum of the first k words -/
def fsumTo (bs : List Nat) : Nat → Nat
  | 0 => 0
  | k + 1 => fadd (fsumTo bs k) (bs[k]?.getD 0)
theorem fsum_bd {bs : List Nat} (h : In1s bs) : ∀ k, k ≤ bs.length → k ≤ 120 → Bd k (fsumTo bs k)
  | 0, _, _ => In1_zero.bd
  | k + 1, hk, hm => (fadd_bd (fsum_bd h k (by omega) (by omega)) (h.at (k := k) (by omega)).bd (Nat.le_refl k) (by omega) (by omega)).2
theorem fsum_ok {bs : List Nat} (h : In1s bs) (k : Nat) (hk : k < bs.length) (hm : k < 120) : okA (fsumTo bs k) (bs[k]?.getD 0) :=
  (fadd_bd (fsum_bd h k (by omega) (by omega)) (h.at (k := k) hk).bd (Nat.le_refl k) (by omega) (by omega)).1
def yearsOf (bs : List Nat) : Nat := fsub (fsumTo (aliveTo bs bs.length) bs.length) 1056964608
theorem half_bd : Bd 0 1056964608 := ⟨by decide, by rw [rk_eq]; decide⟩
theorem years_bd {bs : List Nat} (h : In1s bs) (hl : bs.length ≤ 120) : okS (fsumTo (aliveTo bs bs.length) bs.length) 1056964608 ∧ Bd 121 (yearsOf bs) := by
  have h1 := fsum_bd (aliveTo_in1 h) bs.length (by rw [aliveTo_length]; exact Nat.le_refl _) hl
  have h2 := fsub_bd (M := 120) h1 half_bd hl (by omega) (by omega)
  exact h2
def YearsToLive_r0 (bs : List Nat) : Nat := if tabOk bs then yearsOf bs else 0
def YearsToLive_r1 (bs : List Nat) : Bool := tabOk bs
def YearsIs (W : World) (bs : List Nat) (E : Ending) (w' : World) : Prop := E = .returned (.tuple #[.float .f32 (YearsToLive_r0 bs), .bool (YearsToLive_r1 bs)]) ∧ Below W.heap.size W w'
theorem years_no {W : World} {bs : List Nat} (h : tabOk bs = false) : YearsIs W bs (.returned (.tuple #[.float .f32 0, .bool false])) W := by
  unfold YearsIs YearsToLive_r0 YearsToLive_r1; rw [h]; exact ⟨rfl, Below.refl _ _⟩
theorem years_yes {W w' : World} {bs : List Nat} {r : Nat} (h : tabOk bs = true) (hr : r = yearsOf bs) (hb : Below W.heap.size W w') : YearsIs W bs (.returned (.tuple #[.float .f32 r, .bool true])) w' := by
  unfold YearsIs YearsToLive_r0 YearsToLive_r1; rw [h, hr]; exact ⟨rfl, hb⟩
theorem YearsToLive_fin (bs : List Nat) (hz : F32s bs) : nan32 (YearsToLive_r0 bs) = false := by
  unfold YearsToLive_r0
  cases h : tabOk bs
  · rw [if_neg (by decide)]; exact F_nan F_zero
  · rw [if_pos rfl]; exact F_nan ((years_bd (tab_in1s hz h) (tab_len h).2).2.fin (by decide))
set_option maxHeartbeats 800000 in
theorem impl_YearsToLive (A : Option Addr) (n c : Nat) (bs : List Nat) (w : World) (hr : Rd w w.heap.size 1 A n (flts bs)) (hn : n ≤ 1048576) (hz : F32s bs) :
    Calls Try.prog 26 #[.slice A n c] w (YearsIs w bs) := by
  have HL := Lib.hid hr.flen
  cases h : tabOk bs
  · have hfin := Lib.hid (years_no (W := w) h)
    go_enter Try.func26, Try.ntmps26
    go_wp2_with (go_at_call 17; refine (isLife_any _ _ _ bs _ hr hn).mono ?_; rintro e w' ⟨rfl, rfl⟩)
    go_ret2
    exact hfin.out
  have hin := Lib.hid (tab_in1s hz h)
  have hl := (tab_len h).2
  have hn' : n ≤ 120 := by have := HL.out; omega
  have hfin := Lib.hid (fun r w' => years_yes (W := w) (w' := w') (r := r) h)
  clear hl
  go_enter Try.func26, Try.ntmps26
  go_wp2_with (first | (go_at_call 17; refine (isLife_any _ _ _ bs _ hr hn).mono ?_; rintro e w' ⟨rfl, rfl⟩) | (go_at_call 50; refine (alive_any _ _ _ bs _ hr hn' hin.out).mono ?_; rintro e w1 ⟨v, rfl, ho, hb⟩; rw [HL.out] at ho; obtain ⟨A1, c1, rfl, _⟩ := own_form ho))
  have hr1 := Rd.of_own ho
  have HB := Lib.hid hb
  have HI := Lib.hid (aliveTo_in1 hin.out)
  have HY := Lib.hid (years_bd hin.out (by have := HL.out; omega))
  obtain ⟨xs, hxs⟩ : ∃ xs, xs = aliveTo bs n := ⟨_, rfl⟩
  rw [← hxs] at hr1
  rw [HL.out, ← hxs] at HI
  have HX := Lib.hid hxs
  have HL2 := Lib.hid (show xs.length = n by rw [HX.out, aliveTo_length])
  clear ho hb h hz hxs hr
  go_loop [4, 6, 13] (fun x _ i => ∃ (k : Nat) (s : Nat), k ≤ n ∧ i = .int .i64 k ∧ s = fsumTo xs k ∧ x = .float .f32 s) (fun x _ i => n - (intOf i).toNat)
  case atStart => exact ⟨0, 0, Nat.zero_le _, rfl, rfl, rfl⟩
  case round =>
    obtain ⟨k, s, hk, rfl, hs, rfl⟩ := hrel
    have HS := Lib.hid hs
    clear hs
    by_cases hlt : k < n
    · obtain ⟨ad, rfl, hc⟩ := hr1.flt hlt
      clear hr1
      have hv := Lib.hid (show fsumTo xs (k + 1) = fadd (fsumTo xs k) (xs[k]?.getD 0) from rfl)
      have o1 := fsum_ok HI.out k (by have := HL2.out; omega) (by omega)
      obtain ⟨b, hb⟩ : ∃ b, b = xs[k]?.getD 0 := ⟨_, rfl⟩
      rw [← hb] at hc o1
      rw [← HS.out] at o1
      have HBb := Lib.hid hb
      clear hb
      have e1 := fun (t : TypeId) (w : World) => run_fadd (P := Try.prog) t o1 w
      clear o1
      go_wp2_with fail
      go_round
      case rel => exact ⟨k + 1, fadd s b, by omega, by go_num, by rw [hv.out, ← HS.out, ← HBb.out], rfl⟩
      case measure => simp [intOf]; omega
    · obtain rfl : n = k := by omega
      have hy := HY.out
      have hres : fsub s 1056964608 = yearsOf bs := by
        unfold yearsOf; rw [HS.out, HL.out, HX.out]
      have o1 : okS s 1056964608 := by
        have := hy.1; rw [HL.out] at this; rw [HS.out, HX.out]; exact this
      have HF := Lib.hid (show F (fsub s 1056964608) by rw [hres]; exact hy.2.fin (by decide))
      have HR := Lib.hid hres
      have e1 := fun (t : TypeId) (w : World) => run_fsub (P := Try.prog) t o1 w
      clear o1 hy hres
      go_wp2_with (go_at_call 51; refine (finite_yes _ _ HF.out).mono ?_; rintro e w' ⟨rfl, rfl⟩)
      go_ret2
      exact hfin.out _ _ HR.out HB.out
set_option maxHeartbeats 800000 in
theorem spec_YearsToLive (A : Option Addr) (n c : Nat) (bs : List Nat) (w : World) (hr : Rd w w.heap.size 1 A n (flts bs)) (hn : n ≤ 1048576) (hz : F32s bs) :
    Calls Try.prog 25 #[.slice A n c] w (YearsIs w bs) := by
  have HL := Lib.hid hr.flen
  cases h : tabOk bs
  · have hfin := Lib.hid (years_no (W := w) h)
    go_enter Try.func25, Try.ntmps25
    go_wp2_with (go_at_call 46; refine (l06Table_any _ _ _ bs _ hr hn).mono ?_; rintro e w' ⟨rfl, rfl⟩)
    go_ret2
    exact hfin.out
  have hin := Lib.hid (tab_in1s hz h)
  have hl := (tab_len h).2
  have hn' : n ≤ 120 := by have := HL.out; omega
  have hfin := Lib.hid (fun r w' => years_yes (W := w) (w' := w') (r := r) h)
  clear hl
  go_enter Try.func25, Try.ntmps25
  go_wp2_with (first | (go_at_call 46; refine (l06Table_any _ _ _ bs _ hr hn).mono ?_; rintro e w' ⟨rfl, rfl⟩) | (go_at_call 49; refine (l06Alive_any _ _ _ bs _ hr hn' hin.out).mono ?_; rintro e w1 ⟨v, rfl, ho, hb⟩; rw [HL.out] at ho; obtain ⟨A1, c1, rfl, _⟩ := own_form ho))
  have hr1 := Rd.of_own ho
  have HB := Lib.hid hb
  have HI := Lib.hid (aliveTo_in1 hin.out)
  have HY := Lib.hid (years_bd hin.out (by have := HL.out; omega))
  obtain ⟨xs, hxs⟩ : ∃ xs, xs = aliveTo bs n := ⟨_, rfl⟩
  rw [← hxs] at hr1
  rw [HL.out, ← hxs] at HI
  have HX := Lib.hid hxs
  have HL2 := Lib.hid (show xs.length = n by rw [HX.out, aliveTo_length])
  clear ho hb h hz hxs hr
  go_loop [5, 6] (fun x i => ∃ (k : Nat) (s : Nat), k ≤ n ∧ i = .int .i64 k ∧ s = fsumTo xs k ∧ x = .float .f32 s) (fun x i => n - (intOf i).toNat)
  case atStart => exact ⟨0, 0, Nat.zero_le _, rfl, rfl, rfl⟩
  case round =>
    obtain ⟨k, s, hk, rfl, hs, rfl⟩ := hrel
    have HS := Lib.hid hs
    clear hs
    by_cases hlt : k < n
    · obtain ⟨ad, rfl, hc⟩ := hr1.flt hlt
      clear hr1
      have hv := Lib.hid (show fsumTo xs (k + 1) = fadd (fsumTo xs k) (xs[k]?.getD 0) from rfl)
      have o1 := fsum_ok HI.out k (by have := HL2.out; omega) (by omega)
      obtain ⟨b, hb⟩ : ∃ b, b = xs[k]?.getD 0 := ⟨_, rfl⟩
      rw [← hb] at hc o1
      rw [← HS.out] at o1
      have HBb := Lib.hid hb
      clear hb
      have e1 := fun (t : TypeId) (w : World) => run_fadd (P := Try.prog) t o1 w
      clear o1
      go_wp2_with fail
      go_round
      case rel => exact ⟨k + 1, fadd s b, by omega, by go_num, by rw [hv.out, ← HS.out, ← HBb.out], rfl⟩
      case measure => simp [intOf]; omega
    · obtain rfl : n = k := by omega
      have hy := HY.out
      have hres : fsub s 1056964608 = yearsOf bs := by
        unfold yearsOf; rw [HS.out, HL.out, HX.out]
      have o1 : okS s 1056964608 := by
        have := hy.1; rw [HL.out] at this; rw [HS.out, HX.out]; exact this
      have HF := Lib.hid (show F (fsub s 1056964608) by rw [hres]; exact hy.2.fin (by decide))
      have HR := Lib.hid hres
      have e1 := fun (t : TypeId) (w : World) => run_fsub (P := Try.prog) t o1 w
      clear o1 hy hres
      go_wp2_with fail
      go_ret2
      exact hfin.out _ _ HR.out HB.out
end Go.Proofs.Ytefoebaoejoamaa
