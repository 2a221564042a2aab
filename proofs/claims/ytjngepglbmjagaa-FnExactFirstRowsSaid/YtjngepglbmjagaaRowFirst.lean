/-
  FirstRows: what the program's and the reference's function return.
-/
import Derived.Test.YtjngepglbmjagaaRowCnt
namespace Go.Proofs.Ytjngepglbmjagaa
open Go.ChangeShapes Go.WideShapes Go.ChangeAt Go.RowKit
set_option linter.unusedVariables false

def firstTo (cs : List Int) : Nat → List Int
  | 0 => []
  | k + 1 => if 0 < cs[k]?.getD 0 then firstTo cs k ++ [(k : Int)] else firstTo cs k
theorem firstTo_len (cs : List Int) (k : Nat) : (firstTo cs k).length ≤ k := by
  induction k with
  | zero => simp [firstTo]
  | succ k ih =>
    unfold firstTo
    split
    · rw [List.length_append]; simp; omega
    · omega
def FirstRows_r0 (cs : Int) (zs : List Int) : List Int := if tableOk cs zs (rn zs) then firstTo (cntTo zs (rn zs) (2 ^ cs.toNat)) (rn zs) else []
def FirstRows_r1 (cs : Int) (zs : List Int) : Bool := tableOk cs zs (rn zs)
theorem FirstRows_len (cs : Int) (zs : List Int) : (FirstRows_r0 cs zs).length ≤ 32 := by
  unfold FirstRows_r0
  split
  · rename_i h
    have := firstTo_len (cntTo zs (rn zs) (2 ^ cs.toNat)) (rn zs)
    have := (table_c h).2
    omega
  · simp
theorem rf_no {cs : Int} {zs : List Int} (h : tableOk cs zs (rn zs) = false) : FirstRows_r0 cs zs = [] ∧ FirstRows_r1 cs zs = false := by unfold FirstRows_r0 FirstRows_r1; rw [h]; exact ⟨rfl, rfl⟩
theorem rf_yes {q M : Nat} {zs : List Int} {n : Nat} (h : tableOk q zs n = true) (hn : rn zs = n) (hM : 2 ^ q = M) : FirstRows_r0 q zs = firstTo (cntTo zs n M) n ∧ FirstRows_r1 q zs = true := by
  subst hn; unfold FirstRows_r0 FirstRows_r1; rw [h, Int.toNat_natCast, hM]; exact ⟨rfl, rfl⟩
set_option maxHeartbeats 1600000 in
theorem impl_FirstRows (cs : Int) (A : Option Addr) (n c : Nat) (zs : List Int) (w : World) (b0 : -9223372036854775808 ≤ cs ∧ cs ≤ 9223372036854775807) (hr : Rd w w.heap.size 3 A n (ints zs)) (hn : n ≤ 1048576) (hz : I64s zs) :
    Calls Try.prog 43 #[.int .i64 cs, .slice A n c] w (SlEnds w (FirstRows_r0 cs zs) (FirstRows_r1 cs zs)) := by
  have HN := Lib.hid hr.rn3
  have HC := Lib.hid (impl_RowCounts cs A n c zs w b0 hr hn hz)
  cases h1 : tableOk cs zs n
  · have hfin := Lib.hid (rf_no (cs := cs) (zs := zs) (by rw [HN.out]; exact h1))
    have hc0 := Lib.hid (rc_no (cs := cs) (zs := zs) (by rw [HN.out]; exact h1))
    go_enter Try.func43, Try.ntmps43
    go_wp2_with fail
    refine HC.out.mono ?_
    rw [hc0.out.1, hc0.out.2]
    rintro e w1 ⟨v, rfl, ho, hb⟩
    go_wp2_with fail
    go_ret2
    rw [hfin.out.1, hfin.out.2]
    exact sl_no hb
  obtain ⟨⟨c0, c1⟩, n32⟩ := table_c h1
  obtain ⟨q, rfl⟩ := Int.eq_ofNat_of_zero_le (by omega : 0 ≤ cs)
  obtain ⟨M, hM, m1, m2, hM2⟩ := pow_nat (q := q) (by omega) (by omega)
  have hfin := Lib.hid (rf_yes (zs := zs) h1 HN.out hM2)
  have hc0 := Lib.hid (rc_yes (zs := zs) h1 HN.out hM2)
  clear hM2 h1
  go_enter Try.func43, Try.ntmps43
  go_wp2_with fail
  refine HC.out.mono ?_
  rw [hc0.out.1, hc0.out.2]
  rintro e w2 ⟨v, rfl, ho, hB⟩
  rw [cntTo_len] at ho
  obtain ⟨xs, hxs⟩ : ∃ xs, xs = cntTo zs n M := ⟨_, rfl⟩
  have hlen := cntTo_len zs n M
  rw [← hxs] at ho hlen
  have HXS := Lib.hid hxs
  have HLX := Lib.hid hlen
  clear hxs hlen
  obtain ⟨D, dc, rfl, _⟩ := own_form ho
  have hrd := Rd.of_own ho
  have hb0 : Below w2.heap.size w2 w2 := Below.refl _ _
  clear ho
  go_wp2_with fail
  go_loopw [8, 9, 10, 22] (fun v _ _ i wr => ∃ k : Nat, k ≤ n ∧ i = .int .i64 k ∧ wr.ownsRow w2.heap.size 2 1 v (firstTo xs k).length (ints (firstTo xs k)) ∧ Below w2.heap.size w2 wr) (fun _ _ _ i _ => n - (intOf i).toNat)
  case atStart => exact ⟨0, Nat.zero_le _, rfl, own_base (own_empty _ _) hb0.size, hb0.alloc hb0.size _⟩
  case round =>
    obtain ⟨k, hk, rfl, hown, hbw⟩ := hrel
    clear hb0
    by_cases hlt : k < n
    · obtain ⟨ad, rfl, hc⟩ := (hrd.below hbw).int hlt
      have hl := firstTo_len xs k
      have hst := Lib.hid (show firstTo xs (k + 1) = if 0 < xs[k]?.getD 0 then firstTo xs k ++ [(k : Int)] else firstTo xs k from rfl)
      obtain ⟨x, hx⟩ : ∃ x, x = xs[k]?.getD 0 := ⟨_, rfl⟩
      rw [← hx] at hc hst
      clear hx hrd
      by_cases hf : 0 < x
      · have hs2 := Lib.hid (show firstTo xs (k + 1) = firstTo xs k ++ [(k : Int)] by rw [hst.out, if_pos hf])
        obtain ⟨ls, hls⟩ : ∃ ls, ls = firstTo xs k := ⟨_, rfl⟩
        rw [← hls] at hown hl
        have HLS := Lib.hid hls
        clear hls hst
        go_wp2_with (at_builtin; refine append_int rfl (.tmp 29) (.tmp 31) rfl w2 _ ls.length ls rfl (hown.alloc _) (hbw.alloc hbw.size _) _ _ (k : Int) rfl (cell_new _ _ _) (by omega) ?_; intro v' w' ho2 hb2)
        go_roundw
        case rel => exact ⟨k + 1, by omega, by go_num, by rw [hs2.out, ← HLS.out, List.length_append]; exact ho2, hb2⟩
        case measure => simp [intOf]; omega
      · have hs2 := Lib.hid (show firstTo xs (k + 1) = firstTo xs k by rw [hst.out, if_neg hf])
        clear hst
        go_wp2_with fail
        go_roundw
        case rel => exact ⟨k + 1, by omega, by go_num, by rw [hs2.out]; exact hown, hbw⟩
        case measure => simp [intOf]; omega
    · obtain rfl : n = k := by omega
      go_wp2_with fail
      go_ret2
      rw [hfin.out.1, hfin.out.2, ← HXS.out]
      exact sl_yes rfl (own_base hown hB.size) (below_step hB hbw)
set_option maxHeartbeats 1600000 in
theorem spec_FirstRows (cs : Int) (A : Option Addr) (n c : Nat) (zs : List Int) (w : World) (b0 : -9223372036854775808 ≤ cs ∧ cs ≤ 9223372036854775807) (hr : Rd w w.heap.size 3 A n (ints zs)) (hn : n ≤ 1048576) (hz : I64s zs) :
    Calls Try.prog 42 #[.int .i64 cs, .slice A n c] w (SlEnds w (FirstRows_r0 cs zs) (FirstRows_r1 cs zs)) := by
  have HN := Lib.hid hr.rn3
  cases h1 : tableOk cs zs n
  · have hfin := Lib.hid (rf_no (cs := cs) (zs := zs) (by rw [HN.out]; exact h1))
    go_enter Try.func42, Try.ntmps42
    go_wp2_with fail
    refine (l05Rows_any _ _ _ _ zs _ hr (by omega)).mono ?_
    rintro e w1 ⟨rfl, hb⟩
    rw [h1]
    go_wp2_with fail
    go_ret2
    rw [hfin.out.1, hfin.out.2]
    exact sl_no hb
  obtain ⟨⟨c0, c1⟩, n32⟩ := table_c h1
  have hn0 : 0 < n := by simp only [tableOk, Bool.and_eq_true, decide_eq_true_eq] at h1; omega
  obtain ⟨q, rfl⟩ := Int.eq_ofNat_of_zero_le (by omega : 0 ≤ cs)
  obtain ⟨M, hM, m1, m2, hM2⟩ := pow_nat (q := q) (by omega) (by omega)
  have hfin := Lib.hid (rf_yes (zs := zs) h1 HN.out hM2)
  clear hM2
  go_enter Try.func42, Try.ntmps42
  go_wp2_with fail
  refine (l05Rows_any _ _ _ _ zs _ hr (by omega)).mono ?_
  rintro e w1 ⟨rfl, hB1⟩
  rw [h1]
  clear h1
  go_wp2_with fail
  refine (l05Counts_any q M _ _ _ zs _ (by omega) hM m1 m2 ((hr.below hB1).more hB1.size) hn0 n32).mono ?_
  rintro e w2 ⟨v, rfl, ho, hb⟩
  have hB := below_step hB1 hb
  rw [cntTo_len] at ho
  clear hB1 hb
  obtain ⟨xs, hxs⟩ : ∃ xs, xs = cntTo zs n M := ⟨_, rfl⟩
  have hlen := cntTo_len zs n M
  rw [← hxs] at ho hlen
  have HXS := Lib.hid hxs
  have HLX := Lib.hid hlen
  clear hxs hlen
  obtain ⟨D, dc, rfl, _⟩ := own_form ho
  have hrd := Rd.of_own ho
  have hb0 : Below w2.heap.size w2 w2 := Below.refl _ _
  clear ho
  go_wp2_with fail
  go_loopw [7, 8, 19] (fun v _ i wr => ∃ k : Nat, k ≤ n ∧ i = .int .i64 k ∧ wr.ownsRow w2.heap.size 2 1 v (firstTo xs k).length (ints (firstTo xs k)) ∧ Below w2.heap.size w2 wr) (fun _ _ i _ => n - (intOf i).toNat)
  case atStart => exact ⟨0, Nat.zero_le _, rfl, own_base (own_empty _ _) hb0.size, hb0.alloc hb0.size _⟩
  case round =>
    obtain ⟨k, hk, rfl, hown, hbw⟩ := hrel
    clear hb0
    by_cases hlt : k < n
    · obtain ⟨ad, rfl, hc⟩ := (hrd.below hbw).int hlt
      have hl := firstTo_len xs k
      have hst := Lib.hid (show firstTo xs (k + 1) = if 0 < xs[k]?.getD 0 then firstTo xs k ++ [(k : Int)] else firstTo xs k from rfl)
      obtain ⟨x, hx⟩ : ∃ x, x = xs[k]?.getD 0 := ⟨_, rfl⟩
      rw [← hx] at hc hst
      clear hx hrd
      by_cases hf : 0 < x
      · have hs2 := Lib.hid (show firstTo xs (k + 1) = firstTo xs k ++ [(k : Int)] by rw [hst.out, if_pos hf])
        obtain ⟨ls, hls⟩ : ∃ ls, ls = firstTo xs k := ⟨_, rfl⟩
        rw [← hls] at hown hl
        have HLS := Lib.hid hls
        clear hls hst
        go_wp2_with (at_builtin; refine append_int rfl (.tmp 27) (.tmp 29) rfl w2 _ ls.length ls rfl (hown.alloc _) (hbw.alloc hbw.size _) _ _ (k : Int) rfl (cell_new _ _ _) (by omega) ?_; intro v' w' ho2 hb2)
        go_roundw
        case rel => exact ⟨k + 1, by omega, by go_num, by rw [hs2.out, ← HLS.out, List.length_append]; exact ho2, hb2⟩
        case measure => simp [intOf]; omega
      · have hs2 := Lib.hid (show firstTo xs (k + 1) = firstTo xs k by rw [hst.out, if_neg hf])
        clear hst
        go_wp2_with fail
        go_roundw
        case rel => exact ⟨k + 1, by omega, by go_num, by rw [hs2.out]; exact hown, hbw⟩
        case measure => simp [intOf]; omega
    · obtain rfl : n = k := by omega
      go_wp2_with fail
      go_ret2
      rw [hfin.out.1, hfin.out.2, ← HXS.out]
      exact sl_yes rfl (own_base hown hB.size) (below_step hB hbw)
end Go.Proofs.Ytjngepglbmjagaa
