/-
  BestSpan: what the program's and the reference's function return.
-/
import Derived.Test.YtpealngmghcmdaaList
namespace Go.Proofs.Ytpealngmghcmdaa
open Go.ChangeShapes Go.WideShapes Go.ChangeAt Go.RowKit
set_option linter.unusedVariables false

def bestOk (zs : List Int) (c : Int) : Bool := cntIn zs 1 60 0 1000000000000 && inB c 1 zs.length
/-- the sum of c numbers from place k on -/
def spanSum (zs : List Int) (c k : Nat) : Int := sumI ((zs.drop k).take c)
def spanTo (zs : List Int) (c : Nat) : Nat → Int × Int
  | 0 => (0, -1)
  | k + 1 => if (spanTo zs c k).2 < spanSum zs c k then ((k : Int), spanSum zs c k) else spanTo zs c k
def bestAll (zs : List Int) (c : Int) : Int × Int := spanTo zs c.toNat (zs.length + 1 - c.toNat)
def bestFull (zs : List Int) (c : Int) : Bool := bestOk zs c && inB (bestAll zs c).2 0 1000000000000
def BestSpan_r0 (zs : List Int) (c : Int) : Int := if bestFull zs c then (bestAll zs c).1 else 0
def BestSpan_r1 (zs : List Int) (c : Int) : Int := if bestFull zs c then (bestAll zs c).2 else 0
def BestSpan_r2 (zs : List Int) (c : Int) : Bool := bestFull zs c
def BestIs (zs : List Int) (c : Int) (E : Ending) : Prop := E = .returned (.tuple #[.int .i64 (BestSpan_r0 zs c), .int .i64 (BestSpan_r1 zs c), .bool (BestSpan_r2 zs c)])
theorem best_no {zs : List Int} {c : Int} (h : bestFull zs c = false) : BestIs zs c (.returned (.tuple #[.int .i64 0, .int .i64 0, .bool false])) := by
  unfold BestIs BestSpan_r0 BestSpan_r1 BestSpan_r2; rw [h]; rfl
theorem best_yes {zs : List Int} {c a b : Int} (h : bestFull zs c = true) (ha : (bestAll zs c).1 = a) (hb : (bestAll zs c).2 = b) : BestIs zs c (.returned (.tuple #[.int .i64 a, .int .i64 b, .bool true])) := by
  unfold BestIs BestSpan_r0 BestSpan_r1 BestSpan_r2; rw [h, ha, hb]; rfl
theorem span_bd {zs : List Int} (h : allIn zs 0 1000000000000 = true) (hl : zs.length ≤ 60) (c k : Nat) : 0 ≤ spanSum zs c k ∧ spanSum zs c k ≤ 60000000000000 := by
  have h1 := sumI_le ((zs.drop k).take c) fun z hz => allIn_at h z (List.mem_of_mem_drop (List.mem_of_mem_take hz))
  have h2 : ((zs.drop k).take c).length ≤ zs.length := Nat.le_trans (List.length_take_le' c _) (by rw [List.length_drop]; omega)
  unfold spanSum
  omega
theorem small_drop {zs : List Int} (h : Small zs) (k c : Nat) : Small ((zs.drop k).take c) := fun z hz => h z (List.mem_of_mem_drop (List.mem_of_mem_take hz))
theorem spanTo_step (zs : List Int) (c j : Nat) (h0 : 0 ≤ spanSum zs c 0) :
    spanTo zs c (max 1 (j + 1)) = if (spanTo zs c (max 1 j)).2 < spanSum zs c j then ((j : Int), spanSum zs c j) else spanTo zs c (max 1 j) := by
  cases j with
  | zero =>
    have e : spanTo zs c 1 = (0, spanSum zs c 0) := by
      show (if (-1 : Int) < spanSum zs c 0 then _ else _) = _
      rw [if_pos (by omega)]; rfl
    show spanTo zs c 1 = if (spanTo zs c 1).2 < spanSum zs c 0 then _ else spanTo zs c 1
    rw [e, if_neg (by simp)]
  | succ j =>
    have e1 : max 1 (j + 1 + 1) = j + 1 + 1 := by omega
    have e2 : max 1 (j + 1) = j + 1 := by omega
    rw [e1, e2]; rfl
theorem isSome_any (A : Option Addr) (n c : Nat) (zs : List Int) (k : Int) (w : World) (hr : Rd w w.heap.size 1 A n (ints zs)) (hn : n ≤ 1048576) :
    Calls Try.prog 60 #[.slice A n c, .int .i64 k] w fun e w' => e = .returned (.bool (bestOk zs k)) ∧ Below w.heap.size w w' := by
  have hlen := Lib.hid hr.ilen
  cases h1 : cntIn zs 1 60 0 1000000000000
  · have hfin := Lib.hid (show bestOk zs k = false by simp [bestOk, h1])
    go_enter Try.func60, Try.ntmps60
    go_wp2_with fail
    refine (areYears_any _ _ _ zs _ hr (by omega)).mono ?_
    rintro e w' ⟨rfl, hb⟩
    go_wp2_with fail
    go_ret
    exact ⟨ret_bool (by rw [hfin.out]), hb⟩
  · have hfin := Lib.hid (show bestOk zs k = inB k 1 n by simp [bestOk, h1, hlen.out])
    go_enter Try.func60, Try.ntmps60
    go_wp2_with fail
    refine (areYears_any _ _ _ zs _ hr (by omega)).mono ?_
    rintro e w' ⟨rfl, hb⟩
    go_wp2_with (go_at_call 45; refine (within_any _ _ _ _).mono ?_; rintro e w' ⟨rfl, rfl⟩)
    go_ret
    exact ⟨ret_bool (by rw [hfin.out]), hb⟩
set_option maxHeartbeats 800000 in
theorem impl_BestSpan (A : Option Addr) (n : Nat) (zs : List Int) (c : Int) (w : World) (hr : Rd w w.heap.size 1 A n (ints zs)) (hn : n ≤ 1048576) (hz : I64s zs) (b1 : -9223372036854775808 ≤ c ∧ c ≤ 9223372036854775807) :
    Calls Try.prog 26 #[.slice A n n, .int .i64 c] w fun E w' => E = .returned (.tuple #[.int .i64 (BestSpan_r0 zs c), .int .i64 (BestSpan_r1 zs c), .bool (BestSpan_r2 zs c)]) ∧ Below w.heap.size w w' := by
  show Calls Try.prog _ _ w fun E w' => BestIs zs c E ∧ Below w.heap.size w w'
  cases h1 : bestOk zs c
  · have hfin := Lib.hid (best_no (zs := zs) (c := c) (by simp [bestFull, h1]))
    go_enter Try.func26, Try.ntmps26
    go_wp2_with fail
    refine (isSome_any _ _ _ zs _ _ hr hn).mono ?_
    rintro e w' ⟨rfl, hb⟩
    go_wp2_with fail
    go_ret3
    exact ⟨hfin.out, hb⟩
  obtain ⟨h2, h3⟩ := Bool.and_eq_true _ _ ▸ h1
  have hok := Lib.hid h1
  obtain ⟨_, h4, h5⟩ := cntIn_iff.1 h2
  have h6 := inB_iff.1 h3
  have hlen := hr.ilen
  rw [hlen] at h4 h6
  obtain ⟨k, rfl⟩ := Int.eq_ofNat_of_zero_le (by omega : 0 ≤ c)
  have hk : 1 ≤ k ∧ k ≤ n := by omega
  have hn60 : n ≤ 60 := by omega
  have HL := Lib.hid hlen
  have H5 := Lib.hid h5
  have hsm := Lib.hid (small_of h5 (by omega) (by omega))
  clear h2 h3 h4 h5 h6 hlen hn b1
  go_enter Try.func26, Try.ntmps26
  go_wp2_with fail
  refine (isSome_any _ _ _ zs _ _ hr (by omega)).mono ?_
  rintro e w1 ⟨rfl, hb1⟩
  have hr1 := hr.on hb1
  clear hr h1
  have hB := Lib.hid hok.out
  rw [hB.out]
  go_wp2_with fail
  refine (total_any _ _ _ (zs.take k) _ (by rw [← ints_take]; exact hr1.upto hk.2) (by omega) (small_drop hsm.out 0 k)).mono ?_
  rintro e w2 ⟨rfl, rfl⟩
  have hs0 : spanSum zs k 0 = sumI (zs.take k) := rfl
  rw [← hs0]
  have hb0 := span_bd H5.out (by have := HL.out; omega) k 0
  go_wp2_with fail
  go_loop [7, 8, 9, 10, 24] (fun a b _ _ i => ∃ (j : Nat) (p : Int × Int), j ≤ n + 1 - k ∧ i = .int .i64 j ∧ p = spanTo zs k (max 1 j) ∧ a = .int .i64 p.1 ∧ b = .int .i64 p.2) (fun _ _ _ _ i => n + 1 - (intOf i).toNat)
  case atStart =>
    refine ⟨0, (0, spanSum zs k 0), by omega, rfl, ?_, rfl, rfl⟩
    show _ = (if (-1 : Int) < spanSum zs k 0 then _ else _)
    rw [if_pos (by omega)]; rfl
  case round =>
    obtain ⟨j, p, hj, rfl, hp, rfl, rfl⟩ := hrel
    have HP := Lib.hid hp
    clear hp
    by_cases hlt : j < n + 1 - k
    · obtain ⟨ad, _, rfl, _⟩ := hr1.at_ (k := 0) (by omega)
      have hbj := span_bd H5.out (by have := HL.out; omega) k j
      have hst := Lib.hid (spanTo_step zs k j hb0.1)
      obtain ⟨x, hx⟩ : ∃ x, x = spanSum zs k j := ⟨_, rfl⟩
      rw [← hx] at hbj
      have HX := Lib.hid hx
      clear hx
      go_wp2_with fail
      refine (total_any _ _ _ ((zs.drop j).take k) _ (by rw [← ints_take, ← ints_drop]; exact hr1.sub (by omega)) (by omega) (small_drop hsm.out j k)).mono ?_
      rintro e w2 ⟨rfl, rfl⟩
      have hsj : spanSum zs k j = sumI ((zs.drop j).take k) := rfl
      rw [← hsj, ← HX.out]
      clear hsj
      by_cases hgt : p.2 < x
      · go_wp2_with fail
        go_round
        case rel => exact ⟨j + 1, ((j : Int), x), by omega, by go_num, by rw [hst.out, ← HP.out, ← HX.out, if_pos hgt], rfl, rfl⟩
        case measure => simp [intOf]; omega
      · go_wp2_with fail
        go_round
        case rel => exact ⟨j + 1, p, by omega, by go_num, by rw [hst.out, ← HP.out, ← HX.out, if_neg (by omega)], rfl, rfl⟩
        case measure => simp [intOf]; omega
    · have hp2 : p = bestAll zs k := by
        unfold bestAll
        rw [HP.out, HL.out]
        congr 1
        simp
        omega
      have HB := Lib.hid hp2
      clear hp2
      have hsp : (k : Int) ≤ n := by omega
      cases ha : inB p.2 0 1000000000000
      · have hfin := Lib.hid (best_no (zs := zs) (c := k) (by simp [bestFull, hok.out, ← HB.out, ha]))
        go_wp2_with (go_at_call 48; refine (isAmount_any _ _).mono ?_; rintro e w' ⟨rfl, rfl⟩)
        go_ret3
        exact ⟨hfin.out, hb1⟩
      · have hfin := Lib.hid (best_yes (zs := zs) (c := k) (a := p.1) (b := p.2) (by simp [bestFull, hok.out, ← HB.out, ha]) (by rw [HB.out]) (by rw [HB.out]))
        go_wp2_with (go_at_call 48; refine (isAmount_any _ _).mono ?_; rintro e w' ⟨rfl, rfl⟩)
        go_ret3
        exact ⟨hfin.out, hb1⟩
set_option maxHeartbeats 800000 in
theorem spec_BestSpan (A : Option Addr) (n : Nat) (zs : List Int) (c : Int) (w : World) (hr : Rd w w.heap.size 1 A n (ints zs)) (hn : n ≤ 1048576) (hz : I64s zs) (b1 : -9223372036854775808 ≤ c ∧ c ≤ 9223372036854775807) :
    Calls Try.prog 25 #[.slice A n n, .int .i64 c] w fun E w' => E = .returned (.tuple #[.int .i64 (BestSpan_r0 zs c), .int .i64 (BestSpan_r1 zs c), .bool (BestSpan_r2 zs c)]) ∧ Below w.heap.size w w' := by
  show Calls Try.prog _ _ w fun E w' => BestIs zs c E ∧ Below w.heap.size w w'
  have HL := Lib.hid hr.ilen
  cases h2 : cntIn zs 1 60 0 1000000000000
  · have hfin := Lib.hid (best_no (zs := zs) (c := c) (by simp [bestFull, bestOk, h2]))
    go_enter Try.func25, Try.ntmps25
    go_wp2_with (go_at_call 59; refine (l06Pays_any _ _ _ zs _ hr (by omega)).mono ?_; rintro e w' ⟨rfl, rfl⟩)
    go_ret3
    exact ⟨hfin.out, Below.refl _ _⟩
  cases h3 : inB c 1 n
  · have hfin := Lib.hid (best_no (zs := zs) (c := c) (by simp [bestFull, bestOk, HL.out, h3]))
    go_enter Try.func25, Try.ntmps25
    go_wp2_with (first | (go_at_call 59; refine (l06Pays_any _ _ _ zs _ hr (by omega)).mono ?_; rintro e w' ⟨rfl, rfl⟩) | (go_at_call 43; refine (l00In_any _ _ _ _).mono ?_; rintro e w' ⟨rfl, rfl⟩))
    go_ret3
    exact ⟨hfin.out, Below.refl _ _⟩
  have hok := Lib.hid (show bestOk zs c = true by simp [bestOk, h2, HL.out, h3])
  obtain ⟨_, h4, h5⟩ := cntIn_iff.1 h2
  have h6 := inB_iff.1 h3
  rw [HL.out] at h4
  obtain ⟨k, rfl⟩ := Int.eq_ofNat_of_zero_le (by omega : 0 ≤ c)
  have hk : 1 ≤ k ∧ k ≤ n := by omega
  have hn60 : n ≤ 60 := by omega
  have H5 := Lib.hid h5
  have hsm := Lib.hid (small_of h5 (by omega) (by omega))
  clear h4 h5 h6 hn b1
  go_enter Try.func25, Try.ntmps25
  go_wp2_with (first | (go_at_call 59; refine (l06Pays_any _ _ _ zs _ hr (by omega)).mono ?_; rintro e w' ⟨rfl, rfl⟩) | (go_at_call 43; refine (l00In_any _ _ _ _).mono ?_; rintro e w' ⟨rfl, rfl⟩))
  clear h2 h3
  go_loop [7, 8, 9, 10] (fun a b i _ => ∃ (j : Nat) (p : Int × Int), j ≤ n + 1 - k ∧ i = .int .i64 j ∧ p = spanTo zs k j ∧ a = .int .i64 p.1 ∧ b = .int .i64 p.2) (fun _ _ i _ => n + 1 - (intOf i).toNat)
  case atStart => exact ⟨0, (0, -1), by omega, rfl, rfl, rfl, rfl⟩
  case round =>
    obtain ⟨j, p, hj, rfl, hp, rfl, rfl⟩ := hrel
    have HP := Lib.hid hp
    clear hp
    by_cases hlt : j < n + 1 - k
    · obtain ⟨ad, _, rfl, _⟩ := hr.at_ (k := 0) (by omega)
      have hbj := span_bd H5.out (by have := HL.out; omega) k j
      have hst := Lib.hid (show spanTo zs k (j + 1) = if (spanTo zs k j).2 < spanSum zs k j then ((j : Int), spanSum zs k j) else spanTo zs k j from rfl)
      obtain ⟨x, hx⟩ : ∃ x, x = spanSum zs k j := ⟨_, rfl⟩
      rw [← hx] at hbj
      have HX := Lib.hid hx
      clear hx
      go_wp2_with fail
      refine (l06Sum_any _ _ _ ((zs.drop j).take k) _ (by rw [← ints_take, ← ints_drop]; exact hr.sub (by omega)) (by omega) (small_drop hsm.out j k)).mono ?_
      rintro e w2 ⟨rfl, rfl⟩
      have hsj : spanSum zs k j = sumI ((zs.drop j).take k) := rfl
      rw [← hsj, ← HX.out]
      clear hsj
      by_cases hgt : p.2 < x
      · go_wp2_with fail
        go_round
        case rel => exact ⟨j + 1, ((j : Int), x), by omega, by go_num, by rw [hst.out, ← HP.out, ← HX.out, if_pos hgt], rfl, rfl⟩
        case measure => simp [intOf]; omega
      · go_wp2_with fail
        go_round
        case rel => exact ⟨j + 1, p, by omega, by go_num, by rw [hst.out, ← HP.out, ← HX.out, if_neg (by omega)], rfl, rfl⟩
        case measure => simp [intOf]; omega
    · have hp2 : p = bestAll zs k := by
        unfold bestAll
        rw [HP.out, HL.out]
        congr 1
        simp
        omega
      have HB := Lib.hid hp2
      clear hp2
      have hsp : (k : Int) ≤ n := by omega
      cases ha : inB p.2 0 1000000000000
      · have hfin := Lib.hid (best_no (zs := zs) (c := k) (by simp [bestFull, hok.out, ← HB.out, ha]))
        go_wp2_with (go_at_call 46; refine (l02Cents_any _ _).mono ?_; rintro e w' ⟨rfl, rfl⟩)
        go_ret3
        exact ⟨hfin.out, Below.refl _ _⟩
      · have hfin := Lib.hid (best_yes (zs := zs) (c := k) (a := p.1) (b := p.2) (by simp [bestFull, hok.out, ← HB.out, ha]) (by rw [HB.out]) (by rw [HB.out]))
        go_wp2_with (go_at_call 46; refine (l02Cents_any _ _).mono ?_; rintro e w' ⟨rfl, rfl⟩)
        go_ret3
        exact ⟨hfin.out, Below.refl _ _⟩
end Go.Proofs.Ytpealngmghcmdaa
