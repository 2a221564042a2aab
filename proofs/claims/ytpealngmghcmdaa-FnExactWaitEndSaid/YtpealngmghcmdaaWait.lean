/-
  WaitEnd: what the program's and the reference's function return.
-/
import Derived.Test.YtpealngmghcmdaaMonths2
namespace Go.Proofs.Ytpealngmghcmdaa
open Go.ChangeShapes Go.WideShapes Go.ChangeAt Go.RowKit
set_option linter.unusedVariables false

def waitAt (bs : List Bool) (m : Int) : Option Nat := (List.range 1501).find? fun k => decide (cntT (bs.take k) = m)
theorem wait_some {bs : List Bool} {m : Int} {k : Nat} (hk : k ≤ 1500) (h1 : ∀ j, j < k → cntT (bs.take j) ≠ m) (h2 : cntT (bs.take k) = m) : waitAt bs m = some k := by
  unfold waitAt
  rw [List.find?_range_eq_some]
  refine ⟨by simpa using h2, by simp; omega, fun j hj => by simpa using h1 j hj⟩
theorem wait_none {bs : List Bool} {m : Int} (h1 : ∀ j, j ≤ 1500 → cntT (bs.take j) ≠ m) : waitAt bs m = none := by
  unfold waitAt
  rw [List.find?_eq_none]
  intro j hj
  have := List.mem_range.1 hj
  simpa using h1 j (by omega)
def waitOk (zs : List Int) (m : Int) : Bool := spOk zs && inB m 0 1500
def WaitEnd_r0 (zs : List Int) (m : Int) : Int := if waitOk zs m then (match waitAt (monAll zs) m with | some k => (k : Int) | none => 0) else 0
def WaitEnd_r1 (zs : List Int) (m : Int) : Bool := waitOk zs m && (waitAt (monAll zs) m).isSome
theorem wait_bad {zs : List Int} {m : Int} (h : waitOk zs m = false) : WaitEnd_r0 zs m = 0 ∧ WaitEnd_r1 zs m = false := by
  unfold WaitEnd_r0 WaitEnd_r1; rw [h]; exact ⟨rfl, rfl⟩
theorem wait_no {zs : List Int} {m : Int} (h : waitAt (monAll zs) m = none) : WaitEnd_r0 zs m = 0 ∧ WaitEnd_r1 zs m = false := by
  unfold WaitEnd_r0 WaitEnd_r1; rw [h]; simp
theorem wait_yes {zs : List Int} {m : Int} {k : Nat} (h : waitOk zs m = true) (h2 : waitAt (monAll zs) m = some k) : WaitEnd_r0 zs m = k ∧ WaitEnd_r1 zs m = true := by
  unfold WaitEnd_r0 WaitEnd_r1; rw [h, h2]; exact ⟨rfl, rfl⟩
def WaitIs (W : World) (zs : List Int) (m : Int) (E : Ending) (w' : World) : Prop := E = .returned (.tuple #[.int .i64 (WaitEnd_r0 zs m), .bool (WaitEnd_r1 zs m)]) ∧ Below W.heap.size W w'
theorem wait_is {W w' : World} {zs : List Int} {m x : Int} {b : Bool} (h : WaitEnd_r0 zs m = x ∧ WaitEnd_r1 zs m = b) (hb : Below W.heap.size W w') : WaitIs W zs m (.returned (.tuple #[.int .i64 x, .bool b])) w' := by
  rw [← h.1, ← h.2]; exact ⟨rfl, hb⟩
theorem cnt_zero (bs : List Bool) : cntT (bs.take 0) = 0 := rfl
set_option maxRecDepth 100000 in
set_option maxHeartbeats 1600000 in
theorem impl_WaitEnd (A : Option Addr) (n c : Nat) (zs : List Int) (m : Int) (w : World) (hr : Rd w w.heap.size 1 A n (ints zs)) (hn : n ≤ 1048576) (hz : I64s zs) (b1 : -9223372036854775808 ≤ m ∧ m ≤ 9223372036854775807) :
    Calls Try.prog 32 #[.slice A n c, .int .i64 m] w (WaitIs w zs m) := by
  go_enter Try.func32, Try.ntmps32
  go_wp2_with fail
  refine (monthsOf_any _ _ _ zs _ hr hn).mono ?_
  rintro e w1 ⟨v, rfl, hb, ho⟩
  rcases Bool.eq_false_or_eq_true (spOk zs) with h | h
  case inr =>
    have hno := Lib.hid (wait_bad (zs := zs) (m := m) (by simp [waitOk, h]))
    rw [h]
    clear h ho
    go_wp2_with (go_at_call 45; refine (within_any _ _ _ _).mono ?_; rintro e w' ⟨rfl, rfl⟩)
    go_ret2
    exact wait_is hno.out hb
  rcases Bool.eq_false_or_eq_true (inB m 0 1500) with h2 | h2
  case inr =>
    have hno := Lib.hid (wait_bad (zs := zs) (m := m) (by simp [waitOk, h2]))
    rw [h]
    clear h ho
    go_wp2_with (go_at_call 45; refine (within_any _ _ _ _).mono ?_; rintro e w' ⟨rfl, rfl⟩)
    go_ret2
    exact wait_is hno.out hb
  have ho := ho h
  have hok := Lib.hid (show waitOk zs m = true by simp [waitOk, h, h2])
  have c2 := inB_iff.1 h2
  rw [h]
  clear h
  by_cases h0 : m = 0
  · subst h0
    have hyes := Lib.hid (wait_yes (k := 0) hok.out (wait_some (by omega) (fun j hj => by omega) (cnt_zero _)))
    go_wp2_with (go_at_call 45; refine (within_any _ _ _ _).mono ?_; rintro e w' ⟨rfl, rfl⟩)
    go_ret2
    exact wait_is hyes.out hb
  have h0b : (m == 0) = false := by simpa using h0
  obtain ⟨A1, c1, rfl, _⟩ := own_form ho
  obtain ⟨g, rfl⟩ := own_head ho (by omega)
  obtain ⟨bs, hbs⟩ : ∃ bs, bs = monAll zs := ⟨_, rfl⟩
  have hlen : bs.length = 1500 := by rw [hbs]; exact monAll_length zs
  rw [← hbs] at ho
  have HB := Lib.hid hbs
  have HN := Lib.hid hlen
  clear hbs hlen
  go_wp2_with (go_at_call 45; refine (within_any _ _ _ _).mono ?_; rintro e w' ⟨rfl, rfl⟩)
  have H0 := Lib.hid h0
  clear h0 h2
  go_loop [1, 8, 9, 26] (fun mv _ _ i => ∃ k : Nat, k ≤ 1500 ∧ i = .int .i64 k ∧ mv = .int .i64 (m - cntT (bs.take k)) ∧ (∀ j, j ≤ k → cntT (bs.take j) ≠ m) ∧ 1 ≤ m - cntT (bs.take k)) (fun _ _ _ i => 1500 - (intOf i).toNat)
  case atStart =>
    have a1 : ∀ j, j ≤ 0 → cntT (bs.take j) ≠ m := fun j hj => by
      obtain rfl : j = 0 := by omega
      rw [cnt_zero]
      exact fun h => H0.out h.symm
    exact ⟨0, Nat.zero_le _, rfl, by rw [cnt_zero]; simp, a1, by rw [cnt_zero]; have := H0.out; omega⟩
  case round =>
    obtain ⟨k, hk, rfl, rfl, hne, hge⟩ := hrel
    have HNE := Lib.hid hne
    clear hne
    by_cases hlt : k < 1500
    · have hcj := own_bool ho (k := k) hlt
      have hst := Lib.hid (cntT_snoc (bs := bs) (k := k) (by have := HN.out; omega))
      have hbd := cntT_bd (bs.take k)
      have hl2 : (bs.take k).length ≤ k := List.length_take_le _ _
      obtain ⟨b, hb2⟩ : ∃ b, b = bs[k]?.getD false := ⟨_, rfl⟩
      rw [← hb2] at hcj hst
      obtain ⟨q, hq⟩ : ∃ q, q = cntT (bs.take k) := ⟨_, rfl⟩
      rw [← hq] at hst hbd hge ⊢
      clear ho hb2
      have HQ := Lib.hid hq
      clear hq
      cases b
      · have h9 : (m - q == 0) = false := by simp; omega
        have hsame : cntT (bs.take (k + 1)) = q := by rw [hst.out]; simp
        have HS := Lib.hid hsame
        clear hsame
        go_wp2_with fail
        go_round
        case rel => exact ⟨k + 1, by omega, by go_num, by rw [HS.out], fun j hj => by
          by_cases hjk : j ≤ k
          · exact HNE.out j hjk
          · obtain rfl : j = k + 1 := by omega
            rw [HS.out]; omega, by rw [HS.out]; omega⟩
        case measure => simp [intOf]; omega
      · have hsame : cntT (bs.take (k + 1)) = q + 1 := by rw [hst.out]; simp
        have HS := Lib.hid hsame
        clear hsame
        by_cases h9 : m - q - 1 = 0
        · have h9b : (m - q - 1 == 0) = true := by simpa using h9
          have hyes := Lib.hid (wait_yes (zs := zs) (m := m) (k := k + 1) hok.out (wait_some (by omega) (fun j hj => by rw [← HB.out]; exact HNE.out j (by omega)) (by rw [← HB.out, HS.out]; omega)))
          clear h9
          go_wp2_with fail
          go_ret2
          exact wait_is ⟨by rw [hyes.out.1]; simp, hyes.out.2⟩ hb
        · have h9b : (m - q - 1 == 0) = false := by simpa using h9
          go_wp2_with fail
          go_round
          case rel => exact ⟨k + 1, by omega, by go_num, by rw [HS.out]; go_num, fun j hj => by
            by_cases hjk : j ≤ k
            · exact HNE.out j hjk
            · obtain rfl : j = k + 1 := by omega
              rw [HS.out]; omega, by rw [HS.out]; omega⟩
          case measure => simp [intOf]; omega
    · obtain rfl : 1500 = k := by omega
      have hno := Lib.hid (wait_no (zs := zs) (m := m) (wait_none (fun j hj => by rw [← HB.out]; exact HNE.out j hj)))
      go_wp2_with fail
      go_ret2
      exact wait_is hno.out hb
set_option maxRecDepth 100000 in
set_option maxHeartbeats 1600000 in
theorem spec_WaitEnd (A : Option Addr) (n c : Nat) (zs : List Int) (m : Int) (w : World) (hr : Rd w w.heap.size 1 A n (ints zs)) (hn : n ≤ 1048576) (hz : I64s zs) (b1 : -9223372036854775808 ≤ m ∧ m ≤ 9223372036854775807) :
    Calls Try.prog 31 #[.slice A n c, .int .i64 m] w (WaitIs w zs m) := by
  go_enter Try.func31, Try.ntmps31
  go_wp2_with fail
  refine (l06Spans_any _ _ _ zs _ hr hn).mono ?_
  rintro e w1 ⟨rfl, hb⟩
  rcases Bool.eq_false_or_eq_true (spOk zs) with h | h
  case inr =>
    have hno := Lib.hid (wait_bad (zs := zs) (m := m) (by simp [waitOk, h]))
    rw [h]
    clear h
    go_wp2_with (go_at_call 43; refine (l00In_any _ _ _ _).mono ?_; rintro e w' ⟨rfl, rfl⟩)
    go_ret2
    exact wait_is hno.out hb
  rcases Bool.eq_false_or_eq_true (inB m 0 1500) with h2 | h2
  case inr =>
    have hno := Lib.hid (wait_bad (zs := zs) (m := m) (by simp [waitOk, h2]))
    rw [h]
    clear h
    go_wp2_with (go_at_call 43; refine (l00In_any _ _ _ _).mono ?_; rintro e w' ⟨rfl, rfl⟩)
    go_ret2
    exact wait_is hno.out hb
  have hok := Lib.hid (show waitOk zs m = true by simp [waitOk, h, h2])
  have H := Lib.hid h
  have c2 := inB_iff.1 h2
  rw [h]
  clear h
  go_wp2_with (go_at_call 43; refine (l00In_any _ _ _ _).mono ?_; rintro e w' ⟨rfl, rfl⟩)
  refine (l06Counted_any _ _ _ zs _ (hr.on hb) H.out).mono ?_
  rintro e w2 ⟨v, rfl, ho, hb2⟩
  replace hb := below_step hb hb2
  clear hb2 hr h2
  obtain ⟨A1, c1, rfl, _⟩ := own_form ho
  obtain ⟨g, rfl⟩ := own_head ho (by omega)
  obtain ⟨bs, hbs⟩ : ∃ bs, bs = monAll zs := ⟨_, rfl⟩
  have hlen : bs.length = 1500 := by rw [hbs]; exact monAll_length zs
  rw [← hbs] at ho
  have HB := Lib.hid hbs
  have HN := Lib.hid hlen
  clear hbs hlen
  go_wp2_with fail
  go_loop [7, 8] (fun mv i => ∃ k : Nat, k ≤ 1500 ∧ i = .int .i64 k ∧ mv = .int .i64 (m - cntT (bs.take k)) ∧ (∀ j, j < k → cntT (bs.take j) ≠ m) ∧ 0 ≤ m - cntT (bs.take k)) (fun _ i => 1500 - (intOf i).toNat)
  case atStart => exact ⟨0, Nat.zero_le _, rfl, by rw [cnt_zero]; simp, fun j hj => by omega, by rw [cnt_zero]; omega⟩
  case round =>
    obtain ⟨k, hk, rfl, rfl, hne, hge⟩ := hrel
    have HNE := Lib.hid hne
    clear hne
    have hbd := cntT_bd (bs.take k)
    have hl2 : (bs.take k).length ≤ k := List.length_take_le _ _
    obtain ⟨q, hq⟩ : ∃ q, q = cntT (bs.take k) := ⟨_, rfl⟩
    rw [← hq] at hbd hge ⊢
    have HQ := Lib.hid hq
    clear hq
    by_cases h9 : m - q = 0
    · have hyes := Lib.hid (wait_yes (zs := zs) (m := m) (k := k) hok.out (wait_some hk (fun j hj => by rw [← HB.out]; exact HNE.out j hj) (by rw [← HB.out, ← HQ.out]; omega)))
      have h9b : (m - q == 0) = true := by simpa using h9
      have h9c : ¬ 0 < m - q := by omega
      clear h9 ho
      by_cases hlt : k < 1500
      · go_wp2_with fail
        go_ret2
        exact wait_is hyes.out hb
      · obtain rfl : 1500 = k := by omega
        go_wp2_with fail
        go_ret2
        exact wait_is hyes.out hb
    · have h9b : (m - q == 0) = false := by simpa using h9
      by_cases hlt : k < 1500
      · have hcj := own_bool ho (k := k) hlt
        have hst := Lib.hid (cntT_snoc (bs := bs) (k := k) (by have := HN.out; omega))
        obtain ⟨b, hb2⟩ : ∃ b, b = bs[k]?.getD false := ⟨_, rfl⟩
        rw [← hb2] at hcj hst
        rw [← HQ.out] at hst
        clear ho hb2
        cases b
        · have hsame : cntT (bs.take (k + 1)) = q := by rw [hst.out]; simp
          have HS := Lib.hid hsame
          clear hsame
          go_wp2_with fail
          go_round
          case rel => exact ⟨k + 1, by omega, by go_num, by rw [HS.out], fun j hj => by
            by_cases hjk : j < k
            · exact HNE.out j hjk
            · obtain rfl : j = k := by omega
              rw [← HQ.out]; omega, by rw [HS.out]; omega⟩
          case measure => simp [intOf]; omega
        · have hsame : cntT (bs.take (k + 1)) = q + 1 := by rw [hst.out]; simp
          have HS := Lib.hid hsame
          clear hsame
          go_wp2_with fail
          go_round
          case rel => exact ⟨k + 1, by omega, by go_num, by rw [HS.out]; go_num, fun j hj => by
            by_cases hjk : j < k
            · exact HNE.out j hjk
            · obtain rfl : j = k := by omega
              rw [← HQ.out]; omega, by rw [HS.out]; omega⟩
          case measure => simp [intOf]; omega
      · obtain rfl : 1500 = k := by omega
        have hno := Lib.hid (wait_no (zs := zs) (m := m) (wait_none (fun j hj => by
          rw [← HB.out]
          by_cases hjk : j < 1500
          · exact HNE.out j hjk
          · obtain rfl : j = 1500 := by omega
            rw [← HQ.out]; omega)))
        have h9c : 0 < m - q := by omega
        go_wp2_with fail
        go_ret2
        exact wait_is hno.out hb
end Go.Proofs.Ytpealngmghcmdaa
