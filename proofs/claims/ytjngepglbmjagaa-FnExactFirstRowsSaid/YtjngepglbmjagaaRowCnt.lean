/-
  RowCounts, FirstRows: what the program's and the reference's function return.
-/
import Derived.Test.YtjngepglbmjagaaRowGaps
namespace Go.Proofs.Ytjngepglbmjagaa
open Go.ChangeShapes Go.WideShapes Go.ChangeAt Go.RowKit
set_option linter.unusedVariables false

def cntTo (zs : List Int) (n : Nat) : Nat → List Int
  | 0 => List.replicate n 0
  | k + 1 => if 0 ≤ firstI k zs n then (cntTo zs n k).set (firstI k zs n).toNat ((cntTo zs n k)[(firstI k zs n).toNat]?.getD 0 + 1) else cntTo zs n k
theorem cntTo_len (zs : List Int) (n k : Nat) : (cntTo zs n k).length = n := by
  induction k with
  | zero => simp [cntTo]
  | succ k ih => unfold cntTo; split <;> simp [ih]
theorem cntTo_bd (zs : List Int) (n k j : Nat) : 0 ≤ (cntTo zs n k)[j]?.getD 0 ∧ (cntTo zs n k)[j]?.getD 0 ≤ k := by
  induction k generalizing j with
  | zero =>
    unfold cntTo
    by_cases h : j < n
    · simp [h]
    · simp [h]
  | succ k ih =>
    unfold cntTo
    have h1 := ih j
    split
    · rw [List.getElem?_set]
      split
      · split
        · have h2 := ih (firstI k zs n).toNat
          simp only [Option.getD_some]
          omega
        · simp; omega
      · omega
    · omega
theorem cnt_start (zs : List Int) (n : Nat) : (madeCells (Value.int .i64 0).cells (n * 1)).toList = ints (cntTo zs n 0) := by
  have e : (Value.int .i64 0).cells = #[.int .i64 0] := rfl
  rw [e, toList_madeCells_one, Nat.mul_one]
  simp [cntTo, ints]
theorem own_int {w : World} {base : Nat} {e : TypeId} {n cap g : Nat} {zs : List Int} (h : w.ownsRow base e 1 (.slice (some ⟨g, 0, none⟩) n cap) n (ints zs)) {k : Nat} (hk : k < n) : w.cell? ⟨g, k, none⟩ = some (.int .i64 (zs[k]?.getD 0)) := by
  have hl := own_len h
  rw [ints_length] at hl
  exact (h.cellAt k (by omega)).trans (ints_getD (by omega))
/-- a number of an own row set anew -/
theorem own_set {a w : World} {e : TypeId} {n cap g : Nat} {zs : List Int} (h : w.ownsRow a.heap.size e 1 (.slice (some ⟨g, 0, none⟩) n cap) n (ints zs)) (hb : Below a.heap.size a w) (k : Nat) (z : Int) :
    (w.setCell ⟨g, k, none⟩ (.int .i64 z)).ownsRow a.heap.size e 1 (.slice (some ⟨g, 0, none⟩) n cap) n (ints (zs.set k z)) ∧ Below a.heap.size a (w.setCell ⟨g, k, none⟩ (.int .i64 z)) := by
  have h1 := (h.stored k (.int .i64 z)).1
  rw [ints_set] at h1
  have hg := (own_block3 h).1
  exact ⟨h1, hb.setCell (p := ⟨g, k, none⟩) (by simp only; omega) _⟩
def RowCounts_r0 (cs : Int) (zs : List Int) : List Int := if tableOk cs zs (rn zs) then cntTo zs (rn zs) (2 ^ cs.toNat) else []
def RowCounts_r1 (cs : Int) (zs : List Int) : Bool := tableOk cs zs (rn zs)
theorem RowCounts_len (cs : Int) (zs : List Int) : (RowCounts_r0 cs zs).length ≤ 32 := by
  unfold RowCounts_r0
  split
  · rename_i h
    rw [cntTo_len]; exact (table_c h).2
  · simp
theorem rc_no {cs : Int} {zs : List Int} (h : tableOk cs zs (rn zs) = false) : RowCounts_r0 cs zs = [] ∧ RowCounts_r1 cs zs = false := by unfold RowCounts_r0 RowCounts_r1; rw [h]; exact ⟨rfl, rfl⟩
theorem rc_yes {q M : Nat} {zs : List Int} {n : Nat} (h : tableOk q zs n = true) (hn : rn zs = n) (hM : 2 ^ q = M) : RowCounts_r0 q zs = cntTo zs n M ∧ RowCounts_r1 q zs = true := by
  subst hn; unfold RowCounts_r0 RowCounts_r1; rw [h, Int.toNat_natCast, hM]; exact ⟨rfl, rfl⟩
set_option maxHeartbeats 1600000 in
theorem impl_RowCounts (cs : Int) (A : Option Addr) (n c : Nat) (zs : List Int) (w : World) (b0 : -9223372036854775808 ≤ cs ∧ cs ≤ 9223372036854775807) (hr : Rd w w.heap.size 3 A n (ints zs)) (hn : n ≤ 1048576) (hz : I64s zs) :
    Calls Try.prog 41 #[.int .i64 cs, .slice A n c] w (SlEnds w (RowCounts_r0 cs zs) (RowCounts_r1 cs zs)) := by
  have HN := Lib.hid hr.rn3
  have hB : Below w.heap.size w w := Below.refl _ _
  cases h1 : tableOk cs zs n
  · have hfin := Lib.hid (rc_no (cs := cs) (zs := zs) (by rw [HN.out]; exact h1))
    go_enter Try.func41, Try.ntmps41
    go_wp2_with fail
    refine (AreRows_any _ _ _ _ zs _ hr (by omega)).mono ?_
    rintro e w1 ⟨rfl, hb⟩
    rw [h1]
    go_wp2_with fail
    go_ret2
    rw [hfin.out.1, hfin.out.2]
    exact sl_no hb
  obtain ⟨⟨c0, c1⟩, n32⟩ := table_c h1
  have hn0 : 0 < n := by simp only [tableOk, Bool.and_eq_true, decide_eq_true_eq] at h1; omega
  obtain ⟨q, rfl⟩ := Int.eq_ofNat_of_zero_le (by omega : 0 ≤ cs)
  obtain ⟨M, hM, m1, m2, hM2⟩ := pow_nat (q := q) (by omega) (by omega)
  have hfin := Lib.hid (rc_yes (zs := zs) h1 HN.out hM2)
  clear hM2
  go_enter Try.func41, Try.ntmps41
  go_wp2_with fail
  refine (AreRows_any _ _ _ _ zs _ hr (by omega)).mono ?_
  rintro e w1 ⟨rfl, hb⟩
  replace hB := below_step hB hb
  rw [h1]
  clear h1 hb b0 hz
  obtain ⟨i0, hi, hz0, hz1, hz2⟩ := info_parts info_i64
  go_wp2_with (at_make; refine wpList_make_full _ rfl (.tmp 14) (.tmp 14) 22 rfl w.heap.size 2 i0 (.int .i64 0) 1 Try.underlying22 hi hz0 hz1 .i64 .i64 _ _ n rfl rfl rfl rfl (by rw [hz2]; omega) (by unfold maxLen; omega) hB.size ?_; intro w2 hown hg)
  have hbm := hB.grown hg hB.size (by simp)
  clear hg
  rw [cnt_start zs n] at hown
  obtain ⟨g, hg⟩ : ∃ g, g = w1.heap.size := ⟨_, rfl⟩
  replace hown := (show w2.ownsRow w.heap.size 2 1 (.slice (some ⟨g, 0, none⟩) n n) n (ints (cntTo zs n 0)) by rw [hg]; exact hown)
  rw [← hg]
  clear hg
  go_loopw [7, 8, 18] (fun _ _ i wr => ∃ k : Nat, k ≤ M ∧ i = .int .i64 k ∧ wr.ownsRow w.heap.size 2 1 (.slice (some ⟨g, 0, none⟩) n n) n (ints (cntTo zs n k)) ∧ Below w.heap.size w wr) (fun _ _ i _ => M - (intOf i).toNat)
  case atStart => exact ⟨0, Nat.zero_le _, rfl, hown, hbm⟩
  case round =>
    obtain ⟨k, hk, rfl, hown, hbw⟩ := hrel
    clear hB hbm
    by_cases hlt : k < M
    · have hst := Lib.hid (show cntTo zs n (k + 1) = if 0 ≤ firstI k zs n then (cntTo zs n k).set (firstI k zs n).toNat ((cntTo zs n k)[(firstI k zs n).toNat]?.getD 0 + 1) else cntTo zs n k from rfl)
      have hfb := firstI_bd k zs n
      go_wp2_with fail
      refine (firstRow_any _ _ _ zs k _ ((hr.below hbw).more hbw.size) (by omega)).mono ?_
      rintro e w2 ⟨rfl, hb⟩
      replace hown := own_on hown hb
      replace hbw := below_step hbw hb
      clear hb
      obtain ⟨f, hf⟩ : ∃ f, f = firstI k zs n := ⟨_, rfl⟩
      rw [← hf] at hfb hst ⊢
      clear hf
      by_cases h0 : 0 ≤ f
      · obtain ⟨j, rfl⟩ := Int.eq_ofNat_of_zero_le h0
        have hjn : j < n := by omega
        have hcj := own_int hown hjn
        have hfz := hown.frozenAt j
        have hbd := cntTo_bd zs n k j
        have hs2 := Lib.hid (show cntTo zs n (k + 1) = (cntTo zs n k).set j ((cntTo zs n k)[j]?.getD 0 + 1) by rw [hst.out, if_pos h0, Int.toNat_natCast])
        obtain ⟨x, hx⟩ : ∃ x, x = (cntTo zs n k)[j]?.getD 0 := ⟨_, rfl⟩
        rw [← hx] at hcj hbd hs2
        have HS := Lib.hid (own_set hown hbw j (x + 1))
        clear hx hst hown
        go_wp2_with fail
        go_roundw
        case rel => exact ⟨k + 1, by omega, by go_num, by rw [hs2.out]; exact HS.out.1, HS.out.2⟩
        case measure => simp [intOf]; omega
      · have hs2 := Lib.hid (show cntTo zs n (k + 1) = cntTo zs n k by rw [hst.out, if_neg h0])
        clear hst
        go_wp2_with fail
        go_roundw
        case rel => exact ⟨k + 1, by omega, by go_num, by rw [hs2.out]; exact hown, hbw⟩
        case measure => simp [intOf]; omega
    · obtain rfl : M = k := by omega
      go_wp2_with fail
      go_ret2
      rw [hfin.out.1, hfin.out.2]
      exact sl_yes (cntTo_len _ _ _) hown hbw
def CntIs (W : World) (rs : List Int) (E : Ending) (w' : World) : Prop :=
  ∃ v, E = .returned v ∧ w'.ownsRow W.heap.size 2 1 v rs.length (ints rs) ∧ Below W.heap.size W w'
set_option maxHeartbeats 1600000 in
theorem l05Counts_any (q M : Nat) (A : Option Addr) (n c : Nat) (zs : List Int) (w : World) (hq : 1 ≤ q ∧ q ≤ 8) (hM : (2 : Int) ^ q = M) (m1 : 2 ≤ M) (m2 : M ≤ 256) (hr : Rd w w.heap.size 3 A n (ints zs)) (hn0 : 0 < n) (hn : n ≤ 32) :
    Calls Try.prog 66 #[.int .i64 q, .slice A n c] w (CntIs w (cntTo zs n M)) := by
  have hB : Below w.heap.size w w := Below.refl _ _
  go_enter Try.func66, Try.ntmps66
  obtain ⟨i0, hi, hz0, hz1, hz2⟩ := info_parts info_i64
  go_wp2_with (at_make; refine wpList_make_full _ rfl (.tmp 9) (.tmp 9) 22 rfl w.heap.size 2 i0 (.int .i64 0) 1 Try.underlying22 hi hz0 hz1 .i64 .i64 _ _ n rfl rfl rfl rfl (by rw [hz2]; omega) (by unfold maxLen; omega) hB.size ?_; intro w2 hown hg)
  have hbm := hB.grown hg hB.size (by simp)
  clear hg
  rw [cnt_start zs n] at hown
  obtain ⟨g, hg⟩ : ∃ g, g = w.heap.size := ⟨_, rfl⟩
  replace hown := (show w2.ownsRow w.heap.size 2 1 (.slice (some ⟨g, 0, none⟩) n n) n (ints (cntTo zs n 0)) by rw [hg]; exact hown)
  rw [← hg]
  clear hg
  go_loopw [6, 7] (fun i _ wr => ∃ k : Nat, k ≤ M ∧ i = .int .i64 k ∧ wr.ownsRow w.heap.size 2 1 (.slice (some ⟨g, 0, none⟩) n n) n (ints (cntTo zs n k)) ∧ Below w.heap.size w wr) (fun i _ _ => M - (intOf i).toNat)
  case atStart => exact ⟨0, Nat.zero_le _, rfl, hown, hbm⟩
  case round =>
    obtain ⟨k, hk, rfl, hown, hbw⟩ := hrel
    clear hB hbm
    by_cases hlt : k < M
    · have hst := Lib.hid (show cntTo zs n (k + 1) = if 0 ≤ firstI k zs n then (cntTo zs n k).set (firstI k zs n).toNat ((cntTo zs n k)[(firstI k zs n).toNat]?.getD 0 + 1) else cntTo zs n k from rfl)
      have hfb := firstI_bd k zs n
      go_wp2_with fail
      refine (l05First_any _ _ _ zs k _ ((hr.below hbw).more hbw.size) (by omega)).mono ?_
      rintro e w2 ⟨rfl, hb⟩
      replace hown := own_on hown hb
      replace hbw := below_step hbw hb
      clear hb
      obtain ⟨f, hf⟩ : ∃ f, f = firstI k zs n := ⟨_, rfl⟩
      rw [← hf] at hfb hst ⊢
      clear hf
      by_cases h0 : 0 ≤ f
      · obtain ⟨j, rfl⟩ := Int.eq_ofNat_of_zero_le h0
        have hjn : j < n := by omega
        have hcj := own_int hown hjn
        have hfz := hown.frozenAt j
        have hbd := cntTo_bd zs n k j
        have hs2 := Lib.hid (show cntTo zs n (k + 1) = (cntTo zs n k).set j ((cntTo zs n k)[j]?.getD 0 + 1) by rw [hst.out, if_pos h0, Int.toNat_natCast])
        obtain ⟨x, hx⟩ : ∃ x, x = (cntTo zs n k)[j]?.getD 0 := ⟨_, rfl⟩
        rw [← hx] at hcj hbd hs2
        have HS := Lib.hid (own_set hown hbw j (x + 1))
        clear hx hst hown
        go_wp2_with fail
        go_roundw
        case rel => exact ⟨k + 1, by omega, by go_num, by rw [hs2.out]; exact HS.out.1, HS.out.2⟩
        case measure => simp [intOf]; omega
      · have hs2 := Lib.hid (show cntTo zs n (k + 1) = cntTo zs n k by rw [hst.out, if_neg h0])
        clear hst
        go_wp2_with fail
        go_roundw
        case rel => exact ⟨k + 1, by omega, by go_num, by rw [hs2.out]; exact hown, hbw⟩
        case measure => simp [intOf]; omega
    · obtain rfl : M = k := by omega
      go_wp2_with fail
      go_ret
      exact ⟨_, rfl, by rw [cntTo_len]; exact hown, hbw⟩
set_option maxHeartbeats 1600000 in
theorem spec_RowCounts (cs : Int) (A : Option Addr) (n c : Nat) (zs : List Int) (w : World) (b0 : -9223372036854775808 ≤ cs ∧ cs ≤ 9223372036854775807) (hr : Rd w w.heap.size 3 A n (ints zs)) (hn : n ≤ 1048576) (hz : I64s zs) :
    Calls Try.prog 40 #[.int .i64 cs, .slice A n c] w (SlEnds w (RowCounts_r0 cs zs) (RowCounts_r1 cs zs)) := by
  have HN := Lib.hid hr.rn3
  have hB : Below w.heap.size w w := Below.refl _ _
  cases h1 : tableOk cs zs n
  · have hfin := Lib.hid (rc_no (cs := cs) (zs := zs) (by rw [HN.out]; exact h1))
    go_enter Try.func40, Try.ntmps40
    go_wp2_with fail
    refine (l05Rows_any _ _ _ _ zs _ hr (by omega)).mono ?_
    rintro e w1 ⟨rfl, hb⟩
    rw [h1]
    go_wp2_with fail
    go_ret2
    rw [hfin.out.1, hfin.out.2]
    exact sl_no hb
  obtain ⟨⟨c0, c1⟩, n32⟩ := table_c h1
  have hn0 : 0 < n := by simp only [tableOk, Bool.and_eq_true, decide_eq_true_eq] at h1; omega
  obtain ⟨q, rfl⟩ := Int.eq_ofNat_of_zero_le (by omega : 0 ≤ cs)
  obtain ⟨M, hM, m1, m2, hM2⟩ := pow_nat (q := q) (by omega) (by omega)
  have hfin := Lib.hid (rc_yes (zs := zs) h1 HN.out hM2)
  clear hM2
  go_enter Try.func40, Try.ntmps40
  go_wp2_with fail
  refine (l05Rows_any _ _ _ _ zs _ hr (by omega)).mono ?_
  rintro e w1 ⟨rfl, hb⟩
  replace hB := below_step hB hb
  rw [h1]
  clear h1 hb b0 hz
  go_wp2_with fail
  refine (l05Counts_any q M _ _ _ zs _ (by omega) hM m1 m2 ((hr.below hB).more hB.size) hn0 n32).mono ?_
  rintro e w2 ⟨v, rfl, ho, hb⟩
  replace ho := own_base ho hB.size
  replace hB := below_step hB hb
  go_wp2_with fail
  go_ret2
  rw [hfin.out.1, hfin.out.2]
  exact sl_yes rfl ho hB
end Go.Proofs.Ytjngepglbmjagaa
