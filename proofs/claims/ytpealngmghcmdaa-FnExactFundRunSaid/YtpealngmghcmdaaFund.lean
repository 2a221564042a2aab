/-
  FundRun: what the program's and the reference's function return.
-/
import Derived.Test.YtpealngmghcmdaaPoints
namespace Go.Proofs.Ytpealngmghcmdaa
open Go.ChangeShapes Go.WideShapes Go.ChangeAt Go.RowKit
set_option linter.unusedVariables false

def fundOk (s : Int) (zs rs : List Int) (f : Int) : Bool := inB s 0 1000000000000 && cntIn zs 1 60 0 1000000000000 && cntIn rs 1 60 (-9999) 10000 && decide (zs.length = rs.length) && inB f 0 10000
def fundStep (s p r f : Int) : Int := rnd ((s + p) * (10000 + r)) 10000 2 - rnd ((s + p) * (10000 + r)) 10000 2 * f / 10000
/-- what is there behind k years -/
def fundAt (s : Int) (zs rs : List Int) (f : Int) : Nat → Int
  | 0 => s
  | k + 1 => fundStep (fundAt s zs rs f k) (zs[k]?.getD 0) (rs[k]?.getD 0) f
def fundTo (s : Int) (zs rs : List Int) (f : Int) (k : Nat) : List Int := (List.range k).map fun i => fundAt s zs rs f (i + 1)
theorem fundTo_succ (s : Int) (zs rs : List Int) (f : Int) (k : Nat) : fundTo s zs rs f (k + 1) = fundTo s zs rs f k ++ [fundAt s zs rs f (k + 1)] := by simp [fundTo, List.range_succ]
theorem fundTo_length (s : Int) (zs rs : List Int) (f : Int) (k : Nat) : (fundTo s zs rs f k).length = k := by simp [fundTo]
def fundFull (s : Int) (zs rs : List Int) (f : Int) : Bool := fundOk s zs rs f && allIn (fundTo s zs rs f zs.length) 0 1000000000000
def FundRun_r0 (s : Int) (zs rs : List Int) (f : Int) : List Int := if fundFull s zs rs f then fundTo s zs rs f zs.length else []
def FundRun_r1 (s : Int) (zs rs : List Int) (f : Int) : Bool := fundFull s zs rs f
theorem FundRun_len (s : Int) (zs rs : List Int) (f : Int) : (FundRun_r0 s zs rs f).length ≤ 60 := by
  unfold FundRun_r0
  split
  · rename_i h
    simp only [fundFull, fundOk, Bool.and_eq_true] at h
    rw [fundTo_length]
    have := (cntIn_iff.1 h.1.1.1.1.2).2.1
    omega
  · simp
theorem fund_no {s : Int} {zs rs : List Int} {f : Int} (h : fundFull s zs rs f = false) : FundRun_r0 s zs rs f = [] ∧ FundRun_r1 s zs rs f = false := by
  unfold FundRun_r0 FundRun_r1; rw [h]; exact ⟨rfl, rfl⟩
theorem fund_yes {s : Int} {zs rs : List Int} {f : Int} (h : fundFull s zs rs f = true) : FundRun_r0 s zs rs f = fundTo s zs rs f zs.length ∧ FundRun_r1 s zs rs f = true := by
  unfold FundRun_r0 FundRun_r1; rw [h]; exact ⟨rfl, rfl⟩
theorem fund_stop {s : Int} {zs rs : List Int} {f : Int} {k : Nat} (hk : k < zs.length) (h : inB (fundAt s zs rs f (k + 1)) 0 1000000000000 = false) : FundRun_r0 s zs rs f = [] ∧ FundRun_r1 s zs rs f = false := by
  refine fund_no ?_
  have : allIn (fundTo s zs rs f zs.length) 0 1000000000000 = false := by
    unfold allIn
    rw [List.all_eq_false]
    exact ⟨_, List.mem_map.2 ⟨k, List.mem_range.2 hk, rfl⟩, by simp [h]⟩
  simp [fundFull, this]
theorem fund_bd {s p r f : Int} (c1 : 0 ≤ s ∧ s ≤ 1000000000000) (c2 : 0 ≤ p ∧ p ≤ 1000000000000) (c3 : -9999 ≤ r ∧ r ≤ 10000) (c4 : 0 ≤ f ∧ f ≤ 10000) :
    (0 ≤ (s + p) * (10000 + r) ∧ (s + p) * (10000 + r) ≤ 40000000000000000) ∧ (0 ≤ rnd ((s + p) * (10000 + r)) 10000 2 ∧ rnd ((s + p) * (10000 + r)) 10000 2 ≤ 4000000000001) ∧
    (0 ≤ rnd ((s + p) * (10000 + r)) 10000 2 * f ∧ rnd ((s + p) * (10000 + r)) 10000 2 * f ≤ 40000000000010000) := by
  have a := mul_bd 2000000000000 20000 (a := s + p) (b := 10000 + r) (by omega) (by omega) (by omega) (by omega)
  have b : 0 ≤ rnd ((s + p) * (10000 + r)) 10000 2 ∧ rnd ((s + p) * (10000 + r)) 10000 2 ≤ 4000000000001 := by
    unfold rnd; split <;> omega
  have c := mul_bd 4000000000001 10000 b.1 b.2 c4.1 c4.2
  omega
set_option maxRecDepth 100000 in
set_option maxHeartbeats 1600000 in
theorem impl_FundRun (s : Int) (A : Option Addr) (n c : Nat) (zs : List Int) (B : Option Addr) (m d : Nat) (rs : List Int) (f : Int) (w : World) (b0 : -9223372036854775808 ≤ s ∧ s ≤ 9223372036854775807) (hr : Rd w w.heap.size 1 A n (ints zs)) (hn : n ≤ 1048576) (hz : I64s zs) (hs : Rd w w.heap.size 1 B m (ints rs)) (hm : m ≤ 1048576) (hy : I64s rs) (b1 : -9223372036854775808 ≤ f ∧ f ≤ 9223372036854775807) :
    Calls Try.prog 40 #[.int .i64 s, .slice A n c, .slice B m d, .int .i64 f] w (SlEnds w (FundRun_r0 s zs rs f) (FundRun_r1 s zs rs f)) := by
  have HL := Lib.hid hr.ilen
  have HM := Lib.hid hs.ilen
  have hB : Below w.heap.size w w := Below.refl _ _
  rcases Bool.eq_false_or_eq_true (inB s 0 1000000000000) with h1 | h1
  case inr =>
    have hno := Lib.hid (fund_no (s := s) (zs := zs) (rs := rs) (f := f) (by have := HL.out; have := HM.out; simp [fundFull, fundOk, *]))
    go_enter Try.func40, Try.ntmps40
    go_wp2_with (first | (go_at_call 48; refine (isAmount_any _ _).mono ?_; rintro e w' ⟨rfl, rfl⟩) | (go_at_call 49; refine (isRate_any _ _).mono ?_; rintro e w' ⟨rfl, rfl⟩))
    go_ret2
    rw [hno.out.1, hno.out.2]; exact sl_no hB
  rcases Bool.eq_false_or_eq_true (cntIn zs 1 60 0 1000000000000) with h2 | h2
  case inr =>
    have hno := Lib.hid (fund_no (s := s) (zs := zs) (rs := rs) (f := f) (by have := HL.out; have := HM.out; simp [fundFull, fundOk, *]))
    go_enter Try.func40, Try.ntmps40
    go_wp2_with (first | (go_at_call 48; refine (isAmount_any _ _).mono ?_; rintro e w' ⟨rfl, rfl⟩) | (go_at_call 49; refine (isRate_any _ _).mono ?_; rintro e w' ⟨rfl, rfl⟩))
    refine (areYears_any _ _ _ zs _ ((hr.below hB).more hB.size) (by omega)).mono ?_
    rintro e w1 ⟨rfl, hb⟩
    replace hB := below_step hB hb
    clear hb
    go_wp2_with (first | (go_at_call 48; refine (isAmount_any _ _).mono ?_; rintro e w' ⟨rfl, rfl⟩) | (go_at_call 49; refine (isRate_any _ _).mono ?_; rintro e w' ⟨rfl, rfl⟩))
    go_ret2
    rw [hno.out.1, hno.out.2]; exact sl_no hB
  rcases Bool.eq_false_or_eq_true (cntIn rs 1 60 (-9999) 10000) with h3 | h3
  case inr =>
    have hno := Lib.hid (fund_no (s := s) (zs := zs) (rs := rs) (f := f) (by have := HL.out; have := HM.out; simp [fundFull, fundOk, *]))
    go_enter Try.func40, Try.ntmps40
    go_wp2_with (first | (go_at_call 48; refine (isAmount_any _ _).mono ?_; rintro e w' ⟨rfl, rfl⟩) | (go_at_call 49; refine (isRate_any _ _).mono ?_; rintro e w' ⟨rfl, rfl⟩))
    refine (areYears_any _ _ _ zs _ ((hr.below hB).more hB.size) (by omega)).mono ?_
    rintro e w1 ⟨rfl, hb⟩
    replace hB := below_step hB hb
    clear hb
    go_wp2_with (first | (go_at_call 48; refine (isAmount_any _ _).mono ?_; rintro e w' ⟨rfl, rfl⟩) | (go_at_call 49; refine (isRate_any _ _).mono ?_; rintro e w' ⟨rfl, rfl⟩))
    refine (areReturns_any _ _ _ rs _ ((hs.below hB).more hB.size) (by omega)).mono ?_
    rintro e w2 ⟨rfl, hb⟩
    replace hB := below_step hB hb
    clear hb
    go_wp2_with (first | (go_at_call 48; refine (isAmount_any _ _).mono ?_; rintro e w' ⟨rfl, rfl⟩) | (go_at_call 49; refine (isRate_any _ _).mono ?_; rintro e w' ⟨rfl, rfl⟩))
    go_ret2
    rw [hno.out.1, hno.out.2]; exact sl_no hB
  by_cases h4 : n = m
  case neg =>
    have hno := Lib.hid (fund_no (s := s) (zs := zs) (rs := rs) (f := f) (by have := HL.out; have := HM.out; simp [fundFull, fundOk, *]))
    go_enter Try.func40, Try.ntmps40
    go_wp2_with (first | (go_at_call 48; refine (isAmount_any _ _).mono ?_; rintro e w' ⟨rfl, rfl⟩) | (go_at_call 49; refine (isRate_any _ _).mono ?_; rintro e w' ⟨rfl, rfl⟩))
    refine (areYears_any _ _ _ zs _ ((hr.below hB).more hB.size) (by omega)).mono ?_
    rintro e w1 ⟨rfl, hb⟩
    replace hB := below_step hB hb
    clear hb
    go_wp2_with (first | (go_at_call 48; refine (isAmount_any _ _).mono ?_; rintro e w' ⟨rfl, rfl⟩) | (go_at_call 49; refine (isRate_any _ _).mono ?_; rintro e w' ⟨rfl, rfl⟩))
    refine (areReturns_any _ _ _ rs _ ((hs.below hB).more hB.size) (by omega)).mono ?_
    rintro e w2 ⟨rfl, hb⟩
    replace hB := below_step hB hb
    clear hb
    go_wp2_with (first | (go_at_call 48; refine (isAmount_any _ _).mono ?_; rintro e w' ⟨rfl, rfl⟩) | (go_at_call 49; refine (isRate_any _ _).mono ?_; rintro e w' ⟨rfl, rfl⟩))
    go_ret2
    rw [hno.out.1, hno.out.2]; exact sl_no hB
  subst h4
  rcases Bool.eq_false_or_eq_true (inB f 0 10000) with h5 | h5
  case inr =>
    have hno := Lib.hid (fund_no (s := s) (zs := zs) (rs := rs) (f := f) (by have := HL.out; have := HM.out; simp [fundFull, fundOk, *]))
    go_enter Try.func40, Try.ntmps40
    go_wp2_with (first | (go_at_call 48; refine (isAmount_any _ _).mono ?_; rintro e w' ⟨rfl, rfl⟩) | (go_at_call 49; refine (isRate_any _ _).mono ?_; rintro e w' ⟨rfl, rfl⟩))
    refine (areYears_any _ _ _ zs _ ((hr.below hB).more hB.size) (by omega)).mono ?_
    rintro e w1 ⟨rfl, hb⟩
    replace hB := below_step hB hb
    clear hb
    go_wp2_with (first | (go_at_call 48; refine (isAmount_any _ _).mono ?_; rintro e w' ⟨rfl, rfl⟩) | (go_at_call 49; refine (isRate_any _ _).mono ?_; rintro e w' ⟨rfl, rfl⟩))
    refine (areReturns_any _ _ _ rs _ ((hs.below hB).more hB.size) (by omega)).mono ?_
    rintro e w2 ⟨rfl, hb⟩
    replace hB := below_step hB hb
    clear hb
    go_wp2_with (first | (go_at_call 48; refine (isAmount_any _ _).mono ?_; rintro e w' ⟨rfl, rfl⟩) | (go_at_call 49; refine (isRate_any _ _).mono ?_; rintro e w' ⟨rfl, rfl⟩))
    go_ret2
    rw [hno.out.1, hno.out.2]; exact sl_no hB
  have hok := Lib.hid (show fundOk s zs rs f = true by have := HL.out; have := HM.out; simp [fundOk, *])
  obtain ⟨_, l1, l2⟩ := cntIn_iff.1 h2
  obtain ⟨_, _, l3⟩ := cntIn_iff.1 h3
  have hn60 : n ≤ 60 := by have := HL.out; omega
  have H2 := Lib.hid l2
  have H3 := Lib.hid l3
  have c0 := inB_iff.1 h1
  have c5 := inB_iff.1 h5
  clear l1 l2 l3 b0 b1 hz hy hm
  go_enter Try.func40, Try.ntmps40
  go_wp2_with (first | (go_at_call 48; refine (isAmount_any _ _).mono ?_; rintro e w' ⟨rfl, rfl⟩) | (go_at_call 49; refine (isRate_any _ _).mono ?_; rintro e w' ⟨rfl, rfl⟩))
  refine (areYears_any _ _ _ zs _ ((hr.below hB).more hB.size) (by omega)).mono ?_
  rintro e w1 ⟨rfl, hb⟩
  replace hB := below_step hB hb
  clear hb
  go_wp2_with (first | (go_at_call 48; refine (isAmount_any _ _).mono ?_; rintro e w' ⟨rfl, rfl⟩) | (go_at_call 49; refine (isRate_any _ _).mono ?_; rintro e w' ⟨rfl, rfl⟩))
  refine (areReturns_any _ _ _ rs _ ((hs.below hB).more hB.size) (by omega)).mono ?_
  rintro e w2 ⟨rfl, hb⟩
  replace hB := below_step hB hb
  clear hb
  go_wp2_with (first | (go_at_call 48; refine (isAmount_any _ _).mono ?_; rintro e w' ⟨rfl, rfl⟩) | (go_at_call 49; refine (isRate_any _ _).mono ?_; rintro e w' ⟨rfl, rfl⟩))
  clear h1 h2 h3 h5
  go_loopw [0, 10, 11, 12, 41] (fun s' v _ _ i wr => ∃ k : Nat, k ≤ n ∧ i = .int .i64 k ∧ s' = .int .i64 (fundAt s zs rs f k) ∧ wr.ownsRow w.heap.size 2 1 v k (ints (fundTo s zs rs f k)) ∧ Below w.heap.size w wr ∧ inB (fundAt s zs rs f k) 0 1000000000000 = true ∧ allIn (fundTo s zs rs f k) 0 1000000000000 = true) (fun _ _ _ _ i _ => n - (intOf i).toNat)
  case atStart => exact ⟨0, Nat.zero_le _, rfl, rfl, own_base (own_empty _ _) hB.size, hB.alloc hB.size _, inB_iff.2 c0, rfl⟩
  case round =>
    obtain ⟨k, hk, rfl, rfl, hown, hbw, hin, hall⟩ := hrel
    have HIN := Lib.hid hin
    have HALL := Lib.hid hall
    clear hin hall hB c0
    by_cases hlt : k < n
    · obtain ⟨ad, rfl, hc⟩ := (hr.below hbw).int hlt
      obtain ⟨ae, rfl, hd⟩ := (hs.below hbw).int hlt
      clear hr hs
      obtain ⟨x, hx⟩ : ∃ x, x = zs[k]?.getD 0 := ⟨_, rfl⟩
      obtain ⟨y, hy'⟩ : ∃ y, y = rs[k]?.getD 0 := ⟨_, rfl⟩
      obtain ⟨u, hu⟩ : ∃ u, u = fundAt s zs rs f k := ⟨_, rfl⟩
      have bx := allIn_at H2.out _ (getD_mem (zs := zs) (k := k) (by have := HL.out; omega))
      have bY := allIn_at H3.out _ (getD_mem (zs := rs) (k := k) (by have := HM.out; omega))
      have bu := inB_iff.1 HIN.out
      rw [← hx] at hc bx
      rw [← hy'] at hd bY
      rw [← hu] at bu ⊢
      obtain ⟨p1, p2, p3⟩ := fund_bd bu bx bY c5
      have hv : fundAt s zs rs f (k + 1) = rnd ((u + x) * (10000 + y)) 10000 2 - rnd ((u + x) * (10000 + y)) 10000 2 * f / 10000 := by rw [hx, hy', hu]; rfl
      obtain ⟨z, hz'⟩ : ∃ z, z = rnd ((u + x) * (10000 + y)) 10000 2 := ⟨_, rfl⟩
      rw [← hz'] at p2 p3 hv
      have HV := Lib.hid hv
      have HZ := Lib.hid hz'
      clear hx hy' hu hv hz'
      go_wp2_with fail
      refine (rounded_any _ _ _ _ (by omega) (by omega) (by omega) (by omega)).mono ?_
      rintro e w3 ⟨rfl, q, rfl⟩
      rw [← HZ.out]
      go_wp2_with fail
      refine (dueBy_any _ _ _ (by omega) (by omega) (by omega) (by omega) (by omega) (by omega)).mono ?_
      rintro e w3 ⟨rfl, q2, rfl⟩
      have hq := own_drewN hown (q + q2)
      have hbq := below_drewN hbw (q + q2)
      have hst := Lib.hid (fundTo_succ s zs rs f k)
      obtain ⟨t, ht⟩ : ∃ t, t = z - z * f / 10000 := ⟨_, rfl⟩
      have ht1 : -4000000000010000 ≤ t ∧ t ≤ 4000000000010000 := by omega
      go_wp2_with fail
      rw [← ht]
      have HT := Lib.hid ht
      clear ht
      cases h6 : inB t 0 1000000000000
      · have hno := Lib.hid (fund_stop (s := s) (zs := zs) (rs := rs) (f := f) (k := k) (by have := HL.out; omega) (by rw [HV.out, ← HT.out, h6]))
        refine (isAmount_any _ _).mono ?_
        rintro e w4 ⟨rfl, rfl⟩
        go_wp2_with fail
        go_ret2
        rw [hno.out.1, hno.out.2]
        exact sl_no hbq
      · refine (isAmount_any _ _).mono ?_
        rintro e w4 ⟨rfl, rfl⟩
        have HA2 := Lib.hid (show allIn (fundTo s zs rs f (k + 1)) 0 1000000000000 = true by
          have h7 := HALL.out
          rw [hst.out]
          unfold allIn at h7 ⊢
          rw [List.all_append, h7, HV.out, ← HT.out]
          simp [h6])
        have H6 := Lib.hid h6
        rw [h6]
        clear h6
        go_wp2_with (at_builtin; refine append_int rfl (.tmp 64) (.tmp 66) rfl w _ k (fundTo s zs rs f k) rfl (hq.alloc _) (hbq.alloc hbq.size _) _ _ t rfl (cell_new _ _ _) (by omega) ?_; intro v' w' ho2 hb2)
        go_roundw
        case rel => exact ⟨k + 1, by omega, by go_num, by rw [HV.out, HT.out], by rw [hst.out, HV.out, ← HT.out]; exact ho2, hb2, by rw [HV.out, ← HT.out]; exact H6.out, HA2.out⟩
        case measure => simp [intOf]; omega
    · obtain rfl : n = k := by omega
      have hyes := Lib.hid (fund_yes (s := s) (zs := zs) (rs := rs) (f := f) (by have h1 := hok.out; have h2 := HALL.out; simp [fundFull, h1, HL.out, h2]))
      go_wp2_with fail
      go_ret2
      rw [hyes.out.1, hyes.out.2, HL.out]
      exact sl_yes (fundTo_length _ _ _ _ _) hown hbw
set_option maxRecDepth 100000 in
set_option maxHeartbeats 1600000 in
theorem spec_FundRun (s : Int) (A : Option Addr) (n c : Nat) (zs : List Int) (B : Option Addr) (m d : Nat) (rs : List Int) (f : Int) (w : World) (b0 : -9223372036854775808 ≤ s ∧ s ≤ 9223372036854775807) (hr : Rd w w.heap.size 1 A n (ints zs)) (hn : n ≤ 1048576) (hz : I64s zs) (hs : Rd w w.heap.size 1 B m (ints rs)) (hm : m ≤ 1048576) (hy : I64s rs) (b1 : -9223372036854775808 ≤ f ∧ f ≤ 9223372036854775807) :
    Calls Try.prog 39 #[.int .i64 s, .slice A n c, .slice B m d, .int .i64 f] w (SlEnds w (FundRun_r0 s zs rs f) (FundRun_r1 s zs rs f)) := by
  have HL := Lib.hid hr.ilen
  have HM := Lib.hid hs.ilen
  have hB : Below w.heap.size w w := Below.refl _ _
  rcases Bool.eq_false_or_eq_true (inB s 0 1000000000000) with h1 | h1
  case inr =>
    have hno := Lib.hid (fund_no (s := s) (zs := zs) (rs := rs) (f := f) (by have := HL.out; have := HM.out; simp [fundFull, fundOk, *]))
    go_enter Try.func39, Try.ntmps39
    go_wp2_with (first | (go_at_call 46; refine (l02Cents_any _ _).mono ?_; rintro e w' ⟨rfl, rfl⟩) | (go_at_call 47; refine (l02Rate_any _ _).mono ?_; rintro e w' ⟨rfl, rfl⟩) | (go_at_call 68; refine (l06Rates_any _ _ _ rs _ hs (by omega)).mono ?_; rintro e w' ⟨rfl, rfl⟩))
    go_ret2
    rw [hno.out.1, hno.out.2]; exact sl_no hB
  rcases Bool.eq_false_or_eq_true (cntIn zs 1 60 0 1000000000000) with h2 | h2
  case inr =>
    have hno := Lib.hid (fund_no (s := s) (zs := zs) (rs := rs) (f := f) (by have := HL.out; have := HM.out; simp [fundFull, fundOk, *]))
    go_enter Try.func39, Try.ntmps39
    go_wp2_with (first | (go_at_call 46; refine (l02Cents_any _ _).mono ?_; rintro e w' ⟨rfl, rfl⟩) | (go_at_call 47; refine (l02Rate_any _ _).mono ?_; rintro e w' ⟨rfl, rfl⟩) | (go_at_call 68; refine (l06Rates_any _ _ _ rs _ hs (by omega)).mono ?_; rintro e w' ⟨rfl, rfl⟩))
    refine (l06Pays_any _ _ _ zs _ hr (by omega)).mono ?_
    rintro e w1 ⟨rfl, rfl⟩
    go_wp2_with (first | (go_at_call 46; refine (l02Cents_any _ _).mono ?_; rintro e w' ⟨rfl, rfl⟩) | (go_at_call 47; refine (l02Rate_any _ _).mono ?_; rintro e w' ⟨rfl, rfl⟩) | (go_at_call 68; refine (l06Rates_any _ _ _ rs _ hs (by omega)).mono ?_; rintro e w' ⟨rfl, rfl⟩))
    go_ret2
    rw [hno.out.1, hno.out.2]; exact sl_no hB
  rcases Bool.eq_false_or_eq_true (cntIn rs 1 60 (-9999) 10000) with h3 | h3
  case inr =>
    have hno := Lib.hid (fund_no (s := s) (zs := zs) (rs := rs) (f := f) (by have := HL.out; have := HM.out; simp [fundFull, fundOk, *]))
    go_enter Try.func39, Try.ntmps39
    go_wp2_with (first | (go_at_call 46; refine (l02Cents_any _ _).mono ?_; rintro e w' ⟨rfl, rfl⟩) | (go_at_call 47; refine (l02Rate_any _ _).mono ?_; rintro e w' ⟨rfl, rfl⟩) | (go_at_call 68; refine (l06Rates_any _ _ _ rs _ hs (by omega)).mono ?_; rintro e w' ⟨rfl, rfl⟩))
    refine (l06Pays_any _ _ _ zs _ hr (by omega)).mono ?_
    rintro e w1 ⟨rfl, rfl⟩
    go_wp2_with (first | (go_at_call 46; refine (l02Cents_any _ _).mono ?_; rintro e w' ⟨rfl, rfl⟩) | (go_at_call 47; refine (l02Rate_any _ _).mono ?_; rintro e w' ⟨rfl, rfl⟩) | (go_at_call 68; refine (l06Rates_any _ _ _ rs _ hs (by omega)).mono ?_; rintro e w' ⟨rfl, rfl⟩))
    go_ret2
    rw [hno.out.1, hno.out.2]; exact sl_no hB
  by_cases h4 : n = m
  case neg =>
    have hno := Lib.hid (fund_no (s := s) (zs := zs) (rs := rs) (f := f) (by have := HL.out; have := HM.out; simp [fundFull, fundOk, *]))
    go_enter Try.func39, Try.ntmps39
    go_wp2_with (first | (go_at_call 46; refine (l02Cents_any _ _).mono ?_; rintro e w' ⟨rfl, rfl⟩) | (go_at_call 47; refine (l02Rate_any _ _).mono ?_; rintro e w' ⟨rfl, rfl⟩) | (go_at_call 68; refine (l06Rates_any _ _ _ rs _ hs (by omega)).mono ?_; rintro e w' ⟨rfl, rfl⟩))
    refine (l06Pays_any _ _ _ zs _ hr (by omega)).mono ?_
    rintro e w1 ⟨rfl, rfl⟩
    go_wp2_with (first | (go_at_call 46; refine (l02Cents_any _ _).mono ?_; rintro e w' ⟨rfl, rfl⟩) | (go_at_call 47; refine (l02Rate_any _ _).mono ?_; rintro e w' ⟨rfl, rfl⟩) | (go_at_call 68; refine (l06Rates_any _ _ _ rs _ hs (by omega)).mono ?_; rintro e w' ⟨rfl, rfl⟩))
    go_ret2
    rw [hno.out.1, hno.out.2]; exact sl_no hB
  subst h4
  rcases Bool.eq_false_or_eq_true (inB f 0 10000) with h5 | h5
  case inr =>
    have hno := Lib.hid (fund_no (s := s) (zs := zs) (rs := rs) (f := f) (by have := HL.out; have := HM.out; simp [fundFull, fundOk, *]))
    go_enter Try.func39, Try.ntmps39
    go_wp2_with (first | (go_at_call 46; refine (l02Cents_any _ _).mono ?_; rintro e w' ⟨rfl, rfl⟩) | (go_at_call 47; refine (l02Rate_any _ _).mono ?_; rintro e w' ⟨rfl, rfl⟩) | (go_at_call 68; refine (l06Rates_any _ _ _ rs _ hs (by omega)).mono ?_; rintro e w' ⟨rfl, rfl⟩))
    refine (l06Pays_any _ _ _ zs _ hr (by omega)).mono ?_
    rintro e w1 ⟨rfl, rfl⟩
    go_wp2_with (first | (go_at_call 46; refine (l02Cents_any _ _).mono ?_; rintro e w' ⟨rfl, rfl⟩) | (go_at_call 47; refine (l02Rate_any _ _).mono ?_; rintro e w' ⟨rfl, rfl⟩) | (go_at_call 68; refine (l06Rates_any _ _ _ rs _ hs (by omega)).mono ?_; rintro e w' ⟨rfl, rfl⟩))
    go_ret2
    rw [hno.out.1, hno.out.2]; exact sl_no hB
  have hok := Lib.hid (show fundOk s zs rs f = true by have := HL.out; have := HM.out; simp [fundOk, *])
  obtain ⟨_, l1, l2⟩ := cntIn_iff.1 h2
  obtain ⟨_, _, l3⟩ := cntIn_iff.1 h3
  have hn60 : n ≤ 60 := by have := HL.out; omega
  have H2 := Lib.hid l2
  have H3 := Lib.hid l3
  have c0 := inB_iff.1 h1
  have c5 := inB_iff.1 h5
  clear l1 l2 l3 b0 b1 hz hy hm
  go_enter Try.func39, Try.ntmps39
  go_wp2_with (first | (go_at_call 46; refine (l02Cents_any _ _).mono ?_; rintro e w' ⟨rfl, rfl⟩) | (go_at_call 47; refine (l02Rate_any _ _).mono ?_; rintro e w' ⟨rfl, rfl⟩) | (go_at_call 68; refine (l06Rates_any _ _ _ rs _ hs (by omega)).mono ?_; rintro e w' ⟨rfl, rfl⟩))
  refine (l06Pays_any _ _ _ zs _ hr (by omega)).mono ?_
  rintro e w1 ⟨rfl, rfl⟩
  go_wp2_with (first | (go_at_call 46; refine (l02Cents_any _ _).mono ?_; rintro e w' ⟨rfl, rfl⟩) | (go_at_call 47; refine (l02Rate_any _ _).mono ?_; rintro e w' ⟨rfl, rfl⟩) | (go_at_call 68; refine (l06Rates_any _ _ _ rs _ hs (by omega)).mono ?_; rintro e w' ⟨rfl, rfl⟩))
  clear h1 h2 h3 h5
  go_loopw [10, 11, 12] (fun v s' i wr => ∃ k : Nat, k ≤ n ∧ i = .int .i64 k ∧ s' = .int .i64 (fundAt s zs rs f k) ∧ wr.ownsRow w.heap.size 2 1 v k (ints (fundTo s zs rs f k)) ∧ Below w.heap.size w wr ∧ inB (fundAt s zs rs f k) 0 1000000000000 = true ∧ allIn (fundTo s zs rs f k) 0 1000000000000 = true) (fun _ _ i _ => n - (intOf i).toNat)
  case atStart => exact ⟨0, Nat.zero_le _, rfl, rfl, own_base (own_empty _ _) hB.size, hB.alloc hB.size _, inB_iff.2 c0, rfl⟩
  case round =>
    obtain ⟨k, hk, rfl, rfl, hown, hbw, hin, hall⟩ := hrel
    have HIN := Lib.hid hin
    have HALL := Lib.hid hall
    clear hin hall hB c0
    by_cases hlt : k < n
    · obtain ⟨ad, rfl, k1, hcw⟩ := hr.intB hlt
      obtain ⟨ae, rfl, k2, hdw⟩ := hs.intB hlt
      have hc := (hbw.cell k1).trans hcw
      have hd := (hbw.cell k2).trans hdw
      clear hr hs hcw hdw
      obtain ⟨x, hx⟩ : ∃ x, x = zs[k]?.getD 0 := ⟨_, rfl⟩
      obtain ⟨y, hy'⟩ : ∃ y, y = rs[k]?.getD 0 := ⟨_, rfl⟩
      obtain ⟨u, hu⟩ : ∃ u, u = fundAt s zs rs f k := ⟨_, rfl⟩
      have bx := allIn_at H2.out _ (getD_mem (zs := zs) (k := k) (by have := HL.out; omega))
      have bY := allIn_at H3.out _ (getD_mem (zs := rs) (k := k) (by have := HM.out; omega))
      have bu := inB_iff.1 HIN.out
      rw [← hx] at hc bx
      rw [← hy'] at hd bY
      rw [← hu] at bu ⊢
      obtain ⟨p1, p2, p3⟩ := fund_bd bu bx bY c5
      have hv : fundAt s zs rs f (k + 1) = rnd ((u + x) * (10000 + y)) 10000 2 - rnd ((u + x) * (10000 + y)) 10000 2 * f / 10000 := by rw [hx, hy', hu]; rfl
      obtain ⟨z, hz'⟩ : ∃ z, z = rnd ((u + x) * (10000 + y)) 10000 2 := ⟨_, rfl⟩
      rw [← hz'] at p2 p3 hv
      have HV := Lib.hid hv
      have HZ := Lib.hid hz'
      clear hx hy' hu hv hz'
      have x1 : IntKind.i64.wrap (u + x) = u + x := IntWalk.i64_in _ (by omega)
      have x2 : IntKind.i64.wrap (10000 + y) = 10000 + y := IntWalk.i64_in _ (by omega)
      have x3 : IntKind.i64.wrap ((u + x) * (10000 + y)) = (u + x) * (10000 + y) := IntWalk.i64_in _ (by omega)
      have i1 : (0 : Int) ≤ k := by omega
      have i2 : (k : Int) < n := by omega
      have C1 := Lib.hid (l02Round_any ((u + x) * (10000 + y)) 10000 2)
      go_wp2_with fail
      go_quiet ((go_at_call 63; exact Calls.quiet_of_same ((C1.out _ (by omega) (by omega) (by omega) (by omega)).mono fun e w' (h : _ ∧ _ = w') => (⟨h.1, h.2.symm⟩ : _ ∧ w' = _))))
      rw [← HZ.out]
      clear x1 x2 x3
      have hq := own_drewN hown nq
      have hbq := below_drewN hbw nq
      have hst := Lib.hid (fundTo_succ s zs rs f k)
      obtain ⟨t, ht⟩ : ∃ t, t = z - z * f / 10000 := ⟨_, rfl⟩
      have ht1 : -4000000000010000 ≤ t ∧ t ≤ 4000000000010000 := by omega
      have HT := Lib.hid ht
      clear ht
      go_wp2_with fail
      rw [← HT.out]
      cases h6 : inB t 0 1000000000000
      · have hno := Lib.hid (fund_stop (s := s) (zs := zs) (rs := rs) (f := f) (k := k) (by have := HL.out; omega) (by rw [HV.out, ← HT.out, h6]))
        refine (l02Cents_any _ _).mono ?_
        rintro e w4 ⟨rfl, rfl⟩
        go_wp2_with fail
        go_ret2
        rw [hno.out.1, hno.out.2]
        exact sl_no hbq
      · refine (l02Cents_any _ _).mono ?_
        rintro e w4 ⟨rfl, rfl⟩
        have HA2 := Lib.hid (show allIn (fundTo s zs rs f (k + 1)) 0 1000000000000 = true by
          have h7 := HALL.out
          rw [hst.out]
          unfold allIn at h7 ⊢
          rw [List.all_append, h7, HV.out, ← HT.out]
          simp [h6])
        have H6 := Lib.hid h6
        rw [h6]
        clear h6
        go_wp2_with (at_builtin; refine append_int rfl (.tmp 68) (.tmp 70) rfl w _ k (fundTo s zs rs f k) rfl (hq.alloc _) (hbq.alloc hbq.size _) _ _ t rfl (cell_new _ _ _) (by omega) ?_; intro v' w' ho2 hb2)
        go_roundw
        case rel => exact ⟨k + 1, by omega, by go_num, by rw [HV.out, HT.out], by rw [hst.out, HV.out, ← HT.out]; exact ho2, hb2, by rw [HV.out, ← HT.out]; exact H6.out, HA2.out⟩
        case measure => simp [intOf]; omega
    · obtain rfl : n = k := by omega
      have hyes := Lib.hid (fund_yes (s := s) (zs := zs) (rs := rs) (f := f) (by have h1 := hok.out; have h2 := HALL.out; simp [fundFull, h1, HL.out, h2]))
      go_wp2_with fail
      go_ret2
      rw [hyes.out.1, hyes.out.2, HL.out]
      exact sl_yes (fundTo_length _ _ _ _ _) hown hbw
end Go.Proofs.Ytpealngmghcmdaa
