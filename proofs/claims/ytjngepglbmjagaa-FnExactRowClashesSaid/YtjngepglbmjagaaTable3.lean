/-
  THE CHECK OF A TABLE OF ROWS, of the reference.
-/
import Derived.Test.YtjngepglbmjagaaTable2
namespace Go.Proofs.Ytjngepglbmjagaa
open Go.ChangeShapes Go.WideShapes Go.ChangeAt Go.RowKit
set_option linter.unusedVariables false

set_option maxRecDepth 100000 in
set_option maxHeartbeats 1600000 in
theorem l05Rows_any (cs : Int) (A : Option Addr) (n c : Nat) (zs : List Int) (w : World) (hr : Rd w w.heap.size 3 A n (ints zs)) (hn : n ≤ 2097152) :
    Calls Try.prog 60 #[.int .i64 cs, .slice A n c] w fun e w' => e = .returned (.bool (tableOk cs zs n)) ∧ Below w.heap.size w w' := by
  cases h1 : inB cs 1 8
  · have hfin := Lib.hid (show tableOk cs zs n = false by simp [tableOk, h1])
    go_enter Try.func60, Try.ntmps60
    go_wp2_with (go_at_call 46; refine (l00In_any _ _ _ _).mono ?_; rintro e w' ⟨rfl, rfl⟩)
    go_ret
    exact ⟨by rw [hfin.out]; rfl, Below.refl _ _⟩
  by_cases h2 : n < 1
  · have hfin := Lib.hid (show tableOk cs zs n = false by simp [tableOk]; omega)
    go_enter Try.func60, Try.ntmps60
    go_wp2_with (go_at_call 46; refine (l00In_any _ _ _ _).mono ?_; rintro e w' ⟨rfl, rfl⟩)
    go_ret
    exact ⟨by rw [hfin.out]; rfl, Below.refl _ _⟩
  by_cases h3 : 32 < n
  · have hfin := Lib.hid (show tableOk cs zs n = false by simp [tableOk]; omega)
    go_enter Try.func60, Try.ntmps60
    go_wp2_with (go_at_call 46; refine (l00In_any _ _ _ _).mono ?_; rintro e w' ⟨rfl, rfl⟩)
    go_ret
    exact ⟨by rw [hfin.out]; rfl, Below.refl _ _⟩
  have c0 := inB_iff.1 h1
  obtain ⟨q, rfl⟩ := Int.eq_ofNat_of_zero_le (by omega : 0 ≤ cs)
  have hp := pow_bd (c := q) (by omega) (by omega)
  have HOK := Lib.hid (show tableOk (q : Int) zs n = (rowsOf zs n).all (rowB (lastOf q)) by simp [tableOk, h1]; intro _; omega)
  have HL := Lib.hid (rowsOf_length zs n)
  go_enter Try.func60, Try.ntmps60
  go_wp2_with (go_at_call 46; refine (l00In_any _ _ _ _).mono ?_; rintro e w' ⟨rfl, rfl⟩)
  clear h1
  go_loopw [5, 6, 22] (fun _ _ i wr => ∃ k : Nat, k ≤ n ∧ i = .int .i64 k ∧ ((rowsOf zs n).take k).all (rowB (lastOf q)) = true ∧ Below w.heap.size w wr) (fun _ _ i _ => n - (intOf i).toNat)
  case atStart => exact ⟨0, Nat.zero_le _, rfl, rfl, Below.refl _ _⟩
  case round =>
    obtain ⟨k, hk, rfl, ha, hb⟩ := hrel
    have HA := Lib.hid ha
    clear ha
    by_cases hlt : k < n
    · obtain ⟨ad, rfl, _, hc0, hc1, hc2⟩ := (hr.below hb).row hlt
      have HAT := Lib.hid (rowsOf_at (zs := zs) hlt)
      obtain ⟨f0, g0⟩ : ∃ x, x = fld zs k 0 := ⟨_, rfl⟩
      obtain ⟨f1, g1⟩ : ∃ x, x = fld zs k 1 := ⟨_, rfl⟩
      obtain ⟨f2, g2⟩ : ∃ x, x = fld zs k 2 := ⟨_, rfl⟩
      have HT := Lib.hid (show (rowsOf zs n)[k]?.getD (0, 0, 0) = (f0, f1, f2) by rw [g0, g1, g2]; exact HAT.out)
      have HNO := Lib.hid (fun (h : rowG (2 ^ q - 1) (f0, f1, f2) = false) => show tableOk (q : Int) zs n = false by
        rw [HOK.out, List.all_eq_false]
        refine ⟨(rowsOf zs n)[k]?.getD (0, 0, 0), ?_, ?_⟩
        · have hl := HL.out
          rw [List.getElem?_eq_getElem (by omega)]; exact List.getElem_mem _
        · rw [HT.out, rowB_eq _ _ (by unfold lastOf; omega)]
          unfold lastOf
          rw [h]; simp)
      have HYES := Lib.hid (fun (h : rowG (2 ^ q - 1) (f0, f1, f2) = true) => show ((rowsOf zs n).take (k + 1)).all (rowB (lastOf q)) = true by
        rw [take_snoc (rowsOf zs n) k (0, 0, 0) (by have := HL.out; omega), List.all_append, HA.out, HT.out]
        simp only [List.all_cons, List.all_nil, Bool.and_true, Bool.true_and]
        rw [rowB_eq _ _ (by unfold lastOf; omega)]
        exact h)
      rw [← g0] at hc0
      rw [← g1] at hc1
      rw [← g2] at hc2
      have i1 : (0 : Int) ≤ k := by omega
      have i2 : (k : Int) < n := by omega
      have s1 : IntKind.i64.wrap ((2 : Int) ^ q) = 2 ^ q := IntWalk.i64_in _ (by omega)
      have s2 : IntKind.i64.wrap ((2 : Int) ^ q - 1) = 2 ^ q - 1 := IntWalk.i64_in _ (by omega)
      have s3 : min q 64 = q := by omega
      have s4 : ¬ ((q : Int) < 0) := by omega
      clear hr g0 g1 g2 HAT
      cases h1 : inB f0 0 (2 ^ q - 1)
      · have h2 := h1
        have h4 := h1
        have hfin := Lib.hid (HNO.out (by simp [rowG, h1]))
        go_wp2_with fail
        go_quiet (first | (go_at_call_of 46 f1; exact Calls.quiet_of_same (l00In_is h2 _)) | (go_at_call_of 46 f2; exact Calls.quiet_of_same (l00In_is h4 _)) | (go_at_call_of 46 f0; exact Calls.quiet_of_same (l00In_is h1 _)))
        have hbq := below_drewN hb nq
        go_wp2_with fail
        go_ret
        exact ⟨by rw [hfin.out]; rfl, hbq⟩
      cases h2 : inB f1 0 f0
      · have h4 := h1
        have hfin := Lib.hid (HNO.out (by simp [rowG, h2]))
        go_wp2_with fail
        go_quiet (first | (go_at_call_of 46 f1; exact Calls.quiet_of_same (l00In_is h2 _)) | (go_at_call_of 46 f2; exact Calls.quiet_of_same (l00In_is h4 _)) | (go_at_call_of 46 f0; exact Calls.quiet_of_same (l00In_is h1 _)))
        have hbq := below_drewN hb nq
        go_wp2_with fail
        go_ret
        exact ⟨by rw [hfin.out]; rfl, hbq⟩
      cases h3 : (bits .and .i64 f1 f0 == f1)
      · have h4 := h1
        have hfin := Lib.hid (HNO.out (by simp [rowG, h3]))
        have h3b : (bits .and .i64 f1 f0 != f1) = true := by unfold bne; rw [h3]; rfl
        clear h3
        go_wp2_with fail
        go_quiet (first | (go_at_call_of 46 f1; exact Calls.quiet_of_same (l00In_is h2 _)) | (go_at_call_of 46 f2; exact Calls.quiet_of_same (l00In_is h4 _)) | (go_at_call_of 46 f0; exact Calls.quiet_of_same (l00In_is h1 _)))
        have hbq := below_drewN hb nq
        go_wp2_with fail
        go_ret
        exact ⟨by rw [hfin.out]; rfl, hbq⟩
      have h3b : (bits .and .i64 f1 f0 != f1) = false := by unfold bne; rw [h3]; rfl
      cases h4 : inB f2 0 100
      · have hfin := Lib.hid (HNO.out (by simp [rowG, h4]))
        clear h3
        go_wp2_with fail
        go_quiet (first | (go_at_call_of 46 f1; exact Calls.quiet_of_same (l00In_is h2 _)) | (go_at_call_of 46 f2; exact Calls.quiet_of_same (l00In_is h4 _)) | (go_at_call_of 46 f0; exact Calls.quiet_of_same (l00In_is h1 _)))
        have hbq := below_drewN hb nq
        go_wp2_with fail
        go_ret
        exact ⟨by rw [hfin.out]; rfl, hbq⟩
      · have hyes := Lib.hid (HYES.out (by simp [rowG, h1, h2, h3, h4]))
        clear h3
        go_wp2_with fail
        go_quiet (first | (go_at_call_of 46 f1; exact Calls.quiet_of_same (l00In_is h2 _)) | (go_at_call_of 46 f2; exact Calls.quiet_of_same (l00In_is h4 _)) | (go_at_call_of 46 f0; exact Calls.quiet_of_same (l00In_is h1 _)))
        have hbq := below_drewN hb nq
        go_wp2_with fail
        go_roundw
        case rel => exact ⟨k + 1, by omega, by go_num, hyes.out, hbq⟩
        case measure => simp [intOf]; omega
    · obtain rfl : n = k := by omega
      have hfin := Lib.hid (show tableOk (q : Int) zs n = true by rw [HOK.out]; have := HA.out; rwa [List.take_of_length_le (by have := HL.out; omega)] at this)
      clear HA
      go_wp2_with fail
      go_ret
      exact ⟨by rw [hfin.out]; rfl, hb⟩
end Go.Proofs.Ytjngepglbmjagaa
