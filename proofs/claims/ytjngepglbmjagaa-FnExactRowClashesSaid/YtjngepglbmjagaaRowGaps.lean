/-
  RowGaps: what the program's and the reference's function return.
-/
import Derived.Test.YtjngepglbmjagaaRowAns
import Derived.Test.YtjngepglbmjagaaSl
namespace Go.Proofs.Ytjngepglbmjagaa
open Go.ChangeShapes Go.WideShapes Go.ChangeAt Go.RowKit
set_option linter.unusedVariables false

def gapsTo (zs : List Int) (n : Nat) : Nat → List Int
  | 0 => []
  | k + 1 => if firstI k zs n < 0 then gapsTo zs n k ++ [(k : Int)] else gapsTo zs n k
theorem gapsTo_len (zs : List Int) (n k : Nat) : (gapsTo zs n k).length ≤ k := by
  induction k with
  | zero => simp [gapsTo]
  | succ k ih =>
    unfold gapsTo
    split
    · rw [List.length_append]; simp; omega
    · omega
def RowGaps_r0 (cs : Int) (zs : List Int) : List Int := if tableOk cs zs (rn zs) then gapsTo zs (rn zs) (2 ^ cs.toNat) else []
def RowGaps_r1 (cs : Int) (zs : List Int) : Bool := tableOk cs zs (rn zs)
theorem RowGaps_len (cs : Int) (zs : List Int) : (RowGaps_r0 cs zs).length ≤ 256 := by
  unfold RowGaps_r0
  split
  · rename_i h
    obtain ⟨⟨c0, c1⟩, _⟩ := table_c h
    obtain ⟨q, rfl⟩ := Int.eq_ofNat_of_zero_le (by omega : 0 ≤ cs)
    obtain ⟨M, _, _, m2, hM⟩ := pow_nat (q := q) (by omega) (by omega)
    have := gapsTo_len zs (rn zs) (2 ^ (q : Int).toNat)
    rw [Int.toNat_natCast, hM] at this
    rw [Int.toNat_natCast, hM]
    omega
  · simp
theorem rg_no {cs : Int} {zs : List Int} (h : tableOk cs zs (rn zs) = false) : RowGaps_r0 cs zs = [] ∧ RowGaps_r1 cs zs = false := by unfold RowGaps_r0 RowGaps_r1; rw [h]; exact ⟨rfl, rfl⟩
theorem rg_yes {q M : Nat} {zs : List Int} {n : Nat} (h : tableOk q zs n = true) (hn : rn zs = n) (hM : 2 ^ q = M) : RowGaps_r0 q zs = gapsTo zs n M ∧ RowGaps_r1 q zs = true := by
  subst hn; unfold RowGaps_r0 RowGaps_r1; rw [h, Int.toNat_natCast, hM]; exact ⟨rfl, rfl⟩
set_option maxHeartbeats 1600000 in
theorem impl_RowGaps (cs : Int) (A : Option Addr) (n c : Nat) (zs : List Int) (w : World) (b0 : -9223372036854775808 ≤ cs ∧ cs ≤ 9223372036854775807) (hr : Rd w w.heap.size 3 A n (ints zs)) (hn : n ≤ 1048576) (hz : I64s zs) :
    Calls Try.prog 36 #[.int .i64 cs, .slice A n c] w (SlEnds w (RowGaps_r0 cs zs) (RowGaps_r1 cs zs)) := by
  have HN := Lib.hid hr.rn3
  have hB : Below w.heap.size w w := Below.refl _ _
  cases h1 : tableOk cs zs n
  · have hfin := Lib.hid (rg_no (cs := cs) (zs := zs) (by rw [HN.out]; exact h1))
    go_enter Try.func36, Try.ntmps36
    go_wp2_with fail
    refine (AreRows_any _ _ _ _ zs _ hr (by omega)).mono ?_
    rintro e w1 ⟨rfl, hb⟩
    rw [h1]
    go_wp2_with fail
    go_ret2
    rw [hfin.out.1, hfin.out.2]
    exact sl_no hb
  obtain ⟨⟨c0, c1⟩, n32⟩ := table_c h1
  obtain ⟨q, rfl⟩ := Int.eq_ofNat_of_zero_le (by omega : 0 ≤ cs)
  obtain ⟨M, hM, m1, m2, hM2⟩ := pow_nat (q := q) (by omega) (by omega)
  have hfin := Lib.hid (rg_yes (zs := zs) h1 HN.out hM2)
  clear hM2
  go_enter Try.func36, Try.ntmps36
  go_wp2_with fail
  refine (AreRows_any _ _ _ _ zs _ hr (by omega)).mono ?_
  rintro e w1 ⟨rfl, hb⟩
  replace hB := below_step hB hb
  rw [h1]
  clear h1 hb b0 hz
  go_wp2_with fail
  go_loopw [6, 7, 15] (fun v _ i wr => ∃ k : Nat, k ≤ M ∧ i = .int .i64 k ∧ wr.ownsRow w.heap.size 2 1 v (gapsTo zs n k).length (ints (gapsTo zs n k)) ∧ Below w.heap.size w wr) (fun _ _ i _ => M - (intOf i).toNat)
  case atStart => exact ⟨0, Nat.zero_le _, rfl, own_base (own_empty _ _) hB.size, hB.alloc hB.size _⟩
  case round =>
    obtain ⟨k, hk, rfl, hown, hbw⟩ := hrel
    clear hB
    by_cases hlt : k < M
    · have hl := gapsTo_len zs n k
      have hst := Lib.hid (show gapsTo zs n (k + 1) = if firstI k zs n < 0 then gapsTo zs n k ++ [(k : Int)] else gapsTo zs n k from rfl)
      go_wp2_with fail
      refine (firstRow_any _ _ _ zs k _ ((hr.below hbw).more hbw.size) (by omega)).mono ?_
      rintro e w2 ⟨rfl, hb⟩
      replace hown := own_on hown hb
      replace hbw := below_step hbw hb
      clear hb
      by_cases hf : firstI k zs n < 0
      · have hs2 := Lib.hid (show gapsTo zs n (k + 1) = gapsTo zs n k ++ [(k : Int)] by rw [hst.out, if_pos hf])
        obtain ⟨f, hf2⟩ : ∃ f, f = firstI k zs n := ⟨_, rfl⟩
        rw [← hf2] at hf ⊢
        obtain ⟨ls, hls⟩ : ∃ ls, ls = gapsTo zs n k := ⟨_, rfl⟩
        rw [← hls] at hown hl
        have HLS := Lib.hid hls
        clear hf2 hls hst
        go_wp2_with (at_builtin; refine append_int rfl (.tmp 22) (.tmp 24) rfl w _ ls.length ls rfl (hown.alloc _) (hbw.alloc hbw.size _) _ _ (k : Int) rfl (cell_new _ _ _) (by omega) ?_; intro v' w' ho2 hb2)
        go_roundw
        case rel => exact ⟨k + 1, by omega, by go_num, by rw [hs2.out, ← HLS.out, List.length_append]; exact ho2, hb2⟩
        case measure => simp [intOf]; omega
      · have hs2 := Lib.hid (show gapsTo zs n (k + 1) = gapsTo zs n k by rw [hst.out, if_neg hf])
        obtain ⟨f, hf2⟩ : ∃ f, f = firstI k zs n := ⟨_, rfl⟩
        rw [← hf2] at hf ⊢
        clear hf2 hst
        go_wp2_with fail
        go_roundw
        case rel => exact ⟨k + 1, by omega, by go_num, by rw [hs2.out]; exact hown, hbw⟩
        case measure => simp [intOf]; omega
    · obtain rfl : M = k := by omega
      go_wp2_with fail
      go_ret2
      rw [hfin.out.1, hfin.out.2]
      exact sl_yes rfl hown hbw
set_option maxHeartbeats 1600000 in
theorem spec_RowGaps (cs : Int) (A : Option Addr) (n c : Nat) (zs : List Int) (w : World) (b0 : -9223372036854775808 ≤ cs ∧ cs ≤ 9223372036854775807) (hr : Rd w w.heap.size 3 A n (ints zs)) (hn : n ≤ 1048576) (hz : I64s zs) :
    Calls Try.prog 35 #[.int .i64 cs, .slice A n c] w (SlEnds w (RowGaps_r0 cs zs) (RowGaps_r1 cs zs)) := by
  have HN := Lib.hid hr.rn3
  have hB : Below w.heap.size w w := Below.refl _ _
  cases h1 : tableOk cs zs n
  · have hfin := Lib.hid (rg_no (cs := cs) (zs := zs) (by rw [HN.out]; exact h1))
    go_enter Try.func35, Try.ntmps35
    go_wp2_with fail
    refine (l05Rows_any _ _ _ _ zs _ hr (by omega)).mono ?_
    rintro e w1 ⟨rfl, hb⟩
    rw [h1]
    go_wp2_with fail
    go_ret2
    rw [hfin.out.1, hfin.out.2]
    exact sl_no hb
  obtain ⟨⟨c0, c1⟩, n32⟩ := table_c h1
  obtain ⟨q, rfl⟩ := Int.eq_ofNat_of_zero_le (by omega : 0 ≤ cs)
  obtain ⟨M, hM, m1, m2, hM2⟩ := pow_nat (q := q) (by omega) (by omega)
  have hfin := Lib.hid (rg_yes (zs := zs) h1 HN.out hM2)
  clear hM2
  go_enter Try.func35, Try.ntmps35
  go_wp2_with fail
  refine (l05Rows_any _ _ _ _ zs _ hr (by omega)).mono ?_
  rintro e w1 ⟨rfl, hb⟩
  replace hB := below_step hB hb
  rw [h1]
  clear h1 hb b0 hz
  go_wp2_with fail
  go_loopw [6, 7] (fun v i wr => ∃ k : Nat, k ≤ M ∧ i = .int .i64 k ∧ wr.ownsRow w.heap.size 2 1 v (gapsTo zs n k).length (ints (gapsTo zs n k)) ∧ Below w.heap.size w wr) (fun _ i _ => M - (intOf i).toNat)
  case atStart => exact ⟨0, Nat.zero_le _, rfl, own_base (own_empty _ _) hB.size, hB.alloc hB.size _⟩
  case round =>
    obtain ⟨k, hk, rfl, hown, hbw⟩ := hrel
    clear hB
    by_cases hlt : k < M
    · have hl := gapsTo_len zs n k
      have hst := Lib.hid (show gapsTo zs n (k + 1) = if firstI k zs n < 0 then gapsTo zs n k ++ [(k : Int)] else gapsTo zs n k from rfl)
      go_wp2_with fail
      refine (l05First_any _ _ _ zs k _ ((hr.below hbw).more hbw.size) (by omega)).mono ?_
      rintro e w2 ⟨rfl, hb⟩
      replace hown := own_on hown hb
      replace hbw := below_step hbw hb
      clear hb
      by_cases hf : firstI k zs n < 0
      · have hs2 := Lib.hid (show gapsTo zs n (k + 1) = gapsTo zs n k ++ [(k : Int)] by rw [hst.out, if_pos hf])
        obtain ⟨f, hf2⟩ : ∃ f, f = firstI k zs n := ⟨_, rfl⟩
        rw [← hf2] at hf ⊢
        obtain ⟨ls, hls⟩ : ∃ ls, ls = gapsTo zs n k := ⟨_, rfl⟩
        rw [← hls] at hown hl
        have HLS := Lib.hid hls
        clear hf2 hls hst
        go_wp2_with (at_builtin; refine append_int rfl (.tmp 23) (.tmp 25) rfl w _ ls.length ls rfl (hown.alloc _) (hbw.alloc hbw.size _) _ _ (k : Int) rfl (cell_new _ _ _) (by omega) ?_; intro v' w' ho2 hb2)
        go_roundw
        case rel => exact ⟨k + 1, by omega, by go_num, by rw [hs2.out, ← HLS.out, List.length_append]; exact ho2, hb2⟩
        case measure => simp [intOf]; omega
      · have hs2 := Lib.hid (show gapsTo zs n (k + 1) = gapsTo zs n k by rw [hst.out, if_neg hf])
        obtain ⟨f, hf2⟩ : ∃ f, f = firstI k zs n := ⟨_, rfl⟩
        rw [← hf2] at hf ⊢
        clear hf2 hst
        go_wp2_with fail
        go_roundw
        case rel => exact ⟨k + 1, by omega, by go_num, by rw [hs2.out]; exact hown, hbw⟩
        case measure => simp [intOf]; omega
    · obtain rfl : M = k := by omega
      go_wp2_with fail
      go_ret2
      rw [hfin.out.1, hfin.out.2]
      exact sl_yes rfl hown hbw
end Go.Proofs.Ytjngepglbmjagaa
