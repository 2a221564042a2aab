/-
  DrawsShared: the reference's.
-/
import Derived.Test.YtneclhkpgalnlaaShN
namespace Go.Proofs.Ytneclhkpgalnlaa
open Go.ChangeShapes Go.WideShapes Go.ChangeAt Go.RowKit
set_option linter.unusedVariables false
def DSIs (W : World) (zs rs : List Int) (k : Int) (E : Ending) (w' : World) : Prop :=
  ∃ v, E = .returned (.tuple #[v, .bool (shareOk zs rs k)]) ∧ w'.ownsRow W.heap.size 2 1 v (shareR zs rs k).length (ints (shareR zs rs k)) ∧ Below W.heap.size W w'
theorem dsis_no {W w' : World} {zs rs : List Int} {k : Int} (h : shareOk zs rs k = false) (hb : Below W.heap.size W w') : DSIs W zs rs k (.returned (.tuple #[.slice none 0 0, .bool false])) w' := by
  unfold DSIs shareR
  rw [h]
  exact ⟨_, rfl, World.ownsRow_nil _ _ _ _, hb⟩
theorem dsis_yes {W w' : World} {zs rs : List Int} {k : Int} {v : Value} (h : shareOk zs rs k = true) (ho : w'.ownsRow W.heap.size 2 1 v zs.length (ints (zs.map fun z => safeR z rs))) (hb : Below W.heap.size W w') : DSIs W zs rs k (.returned (.tuple #[v, .bool true])) w' := by
  unfold DSIs shareR
  rw [h]
  exact ⟨_, rfl, by simpa using ho, hb⟩
set_option maxHeartbeats 1600000 in
theorem spec_ds (A : Option Addr) (n c : Nat) (zs : List Int) (B : Option Addr) (m d : Nat) (rs : List Int) (k : Int) (w : World) (hr : Rd w w.heap.size 1 A n (ints zs)) (hn : n ≤ 1048576) (hs : Rd w w.heap.size 1 B m (ints rs)) (hm : m ≤ 1048576) (b1 : -9223372036854775808 ≤ k ∧ k ≤ 9223372036854775807) :
    Calls Try.prog 5 #[.slice A n c, .slice B m d, .int .i64 k] w (DSIs w zs rs k) := by
  have HL := Lib.hid hr.ilen
  have HM := Lib.hid hs.ilen
  have hB : Below w.heap.size w w := Below.refl _ _
  have c1 := Lib.hid (show ¬ (1 ≤ n) → cntIn zs 1 16 0 1000000000 = false by intro h; have := HL.out; simp [cntIn]; omega)
  have c2 := Lib.hid (show ¬ (n ≤ 16) → cntIn zs 1 16 0 1000000000 = false by intro h; have := HL.out; simp [cntIn]; omega)
  rcases Bool.eq_false_or_eq_true (cntIn rs 1 60 (-9999) 10000) with h1 | h1
  case inr =>
    have hno := Lib.hid (show shareOk zs rs k = false by simp [shareOk, h1])
    go_enter Try.func5, Try.ntmps5
    go_wp2_with (go_at_call 15; refine (l06Rates_any _ _ _ rs _ hs (by omega)).mono ?_; rintro e w' ⟨rfl, rfl⟩)
    go_ret2
    exact dsis_no hno.out hB
  by_cases h2 : 1 ≤ n
  case neg =>
    have hno := Lib.hid (show shareOk zs rs k = false by simp [shareOk, c1.out h2])
    go_enter Try.func5, Try.ntmps5
    go_wp2_with (go_at_call 15; refine (l06Rates_any _ _ _ rs _ hs (by omega)).mono ?_; rintro e w' ⟨rfl, rfl⟩)
    go_ret2
    exact dsis_no hno.out hB
  by_cases h3 : n ≤ 16
  case neg =>
    have hno := Lib.hid (show shareOk zs rs k = false by simp [shareOk, c2.out h3])
    go_enter Try.func5, Try.ntmps5
    go_wp2_with (go_at_call 15; refine (l06Rates_any _ _ _ rs _ hs (by omega)).mono ?_; rintro e w' ⟨rfl, rfl⟩)
    go_ret2
    exact dsis_no hno.out hB
  rcases Bool.eq_false_or_eq_true (inB k 1 8) with h4 | h4
  case inr =>
    have hno := Lib.hid (show shareOk zs rs k = false by simp [shareOk, h4])
    go_enter Try.func5, Try.ntmps5
    go_wp2_with (first | (go_at_call 15; refine (l06Rates_any _ _ _ rs _ hs (by omega)).mono ?_; rintro e w' ⟨rfl, rfl⟩) | (go_at_call 16; refine (l00In_any _ _ _ _).mono ?_; rintro e w' ⟨rfl, rfl⟩))
    go_ret2
    exact dsis_no hno.out hB
  have hrate := Lib.hid (rates_is h1)
  have hm60 : m ≤ 60 := by have := (cntIn_iff.1 h1).2.1; have := HM.out; omega
  have H1 := Lib.hid h1
  have H4 := Lib.hid h4
  go_enter Try.func5, Try.ntmps5
  go_wp2_with (first | (go_at_call 15; refine (l06Rates_any _ _ _ rs _ hs (by omega)).mono ?_; rintro e w' ⟨rfl, rfl⟩) | (go_at_call 16; refine (l00In_any _ _ _ _).mono ?_; rintro e w' ⟨rfl, rfl⟩))
  clear h1 h4
  go_loopw [8, 9] (fun v i wr => ∃ j : Nat, j ≤ n ∧ i = .int .i64 j ∧ allIn (zs.take j) 0 1000000000 = true ∧ wr.ownsRow w.heap.size 2 1 v j (ints ((zs.take j).map fun z => safeR z rs)) ∧ Below w.heap.size w wr) (fun _ i _ => n - (intOf i).toNat)
  case atStart => exact ⟨0, Nat.zero_le _, rfl, rfl, own_base (own_empty _ _) hB.size, hB.alloc hB.size _⟩
  case round =>
    obtain ⟨j, hj, rfl, hall, hown, hbw⟩ := hrel
    have HA := Lib.hid hall
    clear hall hB
    by_cases hlt : j < n
    · obtain ⟨ad, rfl, hc⟩ := (hr.below hbw).int hlt
      clear hr
      have ht := Lib.hid (take_snoc zs j 0 (by have := HL.out; omega))
      obtain ⟨y, hy⟩ : ∃ y, y = zs[j]?.getD 0 := ⟨_, rfl⟩
      have hmem := Lib.hid (getD_mem (zs := zs) (k := j) (by have := HL.out; omega))
      rw [← hy] at hc
      have HY := Lib.hid hy
      clear hy
      rcases Bool.eq_false_or_eq_true (inB y 0 1000000000) with h5 | h5
      · have b5 := inB_iff.1 h5
        go_wp2_with (first | (go_at_call 16; refine (l00In_any _ _ _ _).mono ?_; rintro e w' ⟨rfl, rfl⟩))
        refine (l06Safe_any _ _ _ _ rs _ b5 ((hs.below hbw).more hbw.size) hm60 hrate.out).mono ?_
        rintro e w3 ⟨rfl, hb⟩
        replace hown := own_on hown hb
        replace hbw := below_step hbw hb
        clear hb
        go_wp2_with (at_builtin; refine append_int rfl (.tmp 41) (.tmp 48) rfl w _ j ((zs.take j).map fun z => safeR z rs) rfl (hown.alloc _) (hbw.alloc hbw.size _) _ _ (safeR y rs) rfl (cell_new _ _ _) (by omega) ?_; intro v' w' ho2 hb2)
        go_roundw
        case rel => exact ⟨j + 1, by omega, by go_num, by rw [ht.out, ← HY.out]; simp [allIn] at *; exact ⟨HA.out, h5⟩, by rw [ht.out, ← HY.out, List.map_append]; exact ho2, hb2⟩
        case measure => simp [intOf]; omega
      · have hno := Lib.hid (show shareOk zs rs k = false by
          have : allIn zs 0 1000000000 = false := by
            cases ha : allIn zs 0 1000000000
            · rfl
            · have := allIn_at ha _ hmem.out
              rw [← HY.out] at this
              rw [inB_iff.2 this] at h5; cases h5
          simp [shareOk, cntIn, this])
        go_wp2_with (first | (go_at_call 16; refine (l00In_any _ _ _ _).mono ?_; rintro e w' ⟨rfl, rfl⟩))
        go_ret2
        exact dsis_no hno.out hbw
    · obtain rfl : n = j := by omega
      have hyes := Lib.hid (show shareOk zs rs k = true by
        have e := HL.out
        have ha := HA.out
        rw [← e, List.take_length] at ha
        have hc : cntIn zs 1 16 0 1000000000 = true := cntIn_iff.2 ⟨by omega, by omega, ha⟩
        unfold shareOk
        rw [hc, H1.out, H4.out]
        rfl)
      go_wp2_with fail
      go_ret2
      refine dsis_yes hyes.out ?_ hbw
      rw [HL.out]
      have e : zs.take n = zs := by rw [← HL.out, List.take_length]
      rw [e] at hown
      exact hown
end Go.Proofs.Ytneclhkpgalnlaa
