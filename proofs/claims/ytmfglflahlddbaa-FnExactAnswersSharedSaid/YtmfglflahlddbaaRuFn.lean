/-
  WORDS AND RULES: which are valid: what the program's and the reference's functions return.
-/
import Derived.Test.YtmfglflahlddbaaRuLaw2
import Derived.Test.YtmfglflahlddbaaApp
import Derived.Deep.QuietTactic
import Derived.BigQuiet
namespace Go.Proofs.Ytmfglflahlddbaa
open Go.ChangeShapes Go.WideShapes Go.ChangeAt Go.RowKit
set_option linter.unusedVariables false

theorem quietL {P : Program} {f : FuncId} {args : Array Value} {w : World} {n : Nat} {v : Value}
    (h : Calls P f args (w.drewN n) fun e w' => e = .returned v ∧ w.drewN n = w') : Calls P f args (w.drewN n) fun e w'' => e = .returned v ∧ ∃ m, w'' = w.drewN m :=
  h.mono fun _ _ ⟨he, hm⟩ => ⟨he, n, hm.symm⟩
theorem drewN_add {w w' : World} {n : Nat} (h : ∃ m, w' = (w.drewN n).drewN m) : ∃ m, w' = w.drewN m := by
  obtain ⟨m, rfl⟩ := h
  exact ⟨n + m, by rw [World.drewN_drewN]⟩
theorem drewN_more {w wr : World} (h : ∃ m, wr = w.drewN m) (n : Nat) : ∃ m, wr.drewN n = w.drewN m := by
  obtain ⟨m, rfl⟩ := h
  exact ⟨m + n, by rw [World.drewN_drewN]⟩
theorem add_zero_ (ad : Addr) : ad.add 0 = ad := by simp [Addr.add]
theorem below_of_drewN {w w' : World} {B : Nat} (h : ∃ m, w' = w.drewN m) : Below B w w' := by
  obtain ⟨m, rfl⟩ := h
  exact below_drewN (Below.refl _ _) m

def wordB (z : Int) : Bool := decide (z ≠ 0) && inB z (-16) 16
def atomI (z : Int) : Int := max z (-z)
theorem wordB_iff {z : Int} : wordB z = true ↔ z ≠ 0 ∧ -16 ≤ z ∧ z ≤ 16 := by simp [wordB, inB]
def stepOk (zs : List Int) (i : Nat) : Bool := wordB (zs[i]?.getD 0) && (decide (i = 0) || decide (atomI (zs[i - 1]?.getD 0) < atomI (zs[i]?.getD 0)))
def wordsTo (zs : List Int) (k : Nat) : Bool := (List.range k).all (stepOk zs)
def wordsB (zs : List Int) : Bool := wordsTo zs zs.length
theorem wordsTo_succ (zs : List Int) (k : Nat) : wordsTo zs (k + 1) = (wordsTo zs k && stepOk zs k) := by
  simp [wordsTo, List.range_succ, List.all_append]
theorem words_not {zs : List Int} {k : Nat} (hk : k < zs.length) (h : stepOk zs k = false) : wordsB zs = false := by
  unfold wordsB wordsTo
  rw [List.all_eq_false]
  exact ⟨k, List.mem_range.2 hk, by simp [h]⟩
theorem wordsTo_at {zs : List Int} {k i : Nat} (h : wordsTo zs k = true) (hi : i < k) : stepOk zs i = true := by
  unfold wordsTo at h
  exact List.all_eq_true.1 h i (List.mem_range.2 hi)
theorem wordsTo_word {zs : List Int} {k i : Nat} (h : wordsTo zs k = true) (hi : i < k) : wordB (zs[i]?.getD 0) = true := by
  have := wordsTo_at h hi
  simp only [stepOk, Bool.and_eq_true] at this
  exact this.1
theorem isWord_any (z : Int) (w : World) : Calls Try.prog 45 #[.int .i64 z] w fun e w' => e = .returned (.bool (wordB z)) ∧ w = w' := by
  by_cases h : z = 0
  · subst h
    go_enter Try.func45, Try.ntmps45
    go_wp2
    go_ret
    exact ⟨rfl, rfl⟩
  · have hne : (z != 0) = true := by simp [h]
    have hfin := Lib.hid (show wordB z = inB z (-16) 16 by simp [wordB, h])
    clear h
    go_enter Try.func45, Try.ntmps45
    go_wp2_with (go_at_call 43; refine (within_any _ _ _ _).mono ?_; rintro e w' ⟨rfl, rfl⟩)
    go_ret
    exact ⟨by rw [hfin.out]; rfl, rfl⟩
theorem l05Word_any (z : Int) (w : World) : Calls Try.prog 52 #[.int .i64 z] w fun e w' => e = .returned (.bool (wordB z)) ∧ w = w' := by
  by_cases h : z = 0
  · subst h
    go_enter Try.func52, Try.ntmps52
    go_wp2
    go_ret
    exact ⟨rfl, rfl⟩
  · have hne : (z != 0) = true := by simp [h]
    have hfin := Lib.hid (show wordB z = inB z (-16) 16 by simp [wordB, h])
    clear h
    go_enter Try.func52, Try.ntmps52
    go_wp2_with (go_at_call 21; refine (l00In_any _ _ _ _).mono ?_; rintro e w' ⟨rfl, rfl⟩)
    go_ret
    exact ⟨by rw [hfin.out]; rfl, rfl⟩
theorem atom_any (z : Int) (w : World) (h : -1000000 ≤ z ∧ z ≤ 1000000) : Calls Try.prog 46 #[.int .i64 z] w fun e w' => e = .returned (.int .i64 (atomI z)) ∧ w = w' := by
  by_cases h0 : z < -z
  · go_enter Try.func46, Try.ntmps46
    go_wp2
    go_ret
    exact ⟨ret_int (by unfold atomI; omega), rfl⟩
  · go_enter Try.func46, Try.ntmps46
    go_wp2
    go_ret
    exact ⟨ret_int (by unfold atomI; omega), rfl⟩
theorem l05Atom_any (z : Int) (w : World) (h : -1000000 ≤ z ∧ z ≤ 1000000) : Calls Try.prog 68 #[.int .i64 z] w fun e w' => e = .returned (.int .i64 (atomI z)) ∧ w = w' := by
  by_cases h0 : z < 0
  · go_enter Try.func68, Try.ntmps68
    go_wp2
    go_ret
    exact ⟨ret_int (by unfold atomI; omega), rfl⟩
  · go_enter Try.func68, Try.ntmps68
    go_wp2
    go_ret
    exact ⟨ret_int (by unfold atomI; omega), rfl⟩
set_option maxHeartbeats 1600000 in
theorem areWords_any (A : Option Addr) (n c : Nat) (zs : List Int) (mo : Int) (w : World) (hr : Rd w w.heap.size 1 A n (ints zs)) (hn : n ≤ 1048576) (hz : I64s zs) :
    Calls Try.prog 30 #[.slice A n c, .int .i64 mo] w fun e w' => e = .returned (.bool (wordsB zs && decide ((n : Int) ≤ mo))) ∧ w = w' := by
  have HL := Lib.hid hr.ilen
  go_enter Try.func30, Try.ntmps30
  go_wp2
  go_loop [5, 6, 9] (fun _ _ i => ∃ k : Nat, k ≤ n ∧ i = .int .i64 k ∧ wordsTo zs k = true) (fun _ _ i => n - (intOf i).toNat)
  case atStart => exact ⟨0, Nat.zero_le _, rfl, rfl⟩
  case round =>
    obtain ⟨k, hk, rfl, ha⟩ := hrel
    have HA := Lib.hid ha
    clear ha
    by_cases hlt : k < n
    · obtain ⟨ad, rfl, hc⟩ := hr.int hlt
      obtain ⟨x, hx⟩ : ∃ x, x = zs[k]?.getD 0 := ⟨_, rfl⟩
      rw [← hx] at hc
      have HX := Lib.hid hx
      clear hx
      cases hw : wordB x
      · have hfin := Lib.hid (words_not (zs := zs) (k := k) (by have := HL.out; omega) (by unfold stepOk; rw [← HX.out, hw]; rfl))
        clear hr
        go_wp2_with (go_at_call 45; refine (isWord_any _ _).mono ?_; rintro e w' ⟨rfl, rfl⟩)
        go_ret
        exact ⟨by rw [hfin.out]; rfl, rfl⟩
      · have bx := wordB_iff.1 hw
        by_cases h0 : k = 0
        · subst h0
          have hfin := Lib.hid (show wordsTo zs (0 + 1) = true by rw [wordsTo_succ, HA.out]; unfold stepOk; rw [← HX.out, hw]; rfl)
          rw [add_zero_] at hc
          clear hr
          go_wp2_with (go_at_call 45; refine (isWord_any _ _).mono ?_; rintro e w' ⟨rfl, rfl⟩)
          go_round
          case rel => exact ⟨1, by omega, by go_num, hfin.out⟩
          case measure => simp [intOf]; omega
        · obtain ⟨ad', e, hd⟩ := hr.int (k := k - 1) (by omega)
          cases e
          obtain ⟨y, hy⟩ : ∃ y, y = zs[k - 1]?.getD 0 := ⟨_, rfl⟩
          rw [← hy] at hd
          have HY := Lib.hid hy
          have wy := wordsTo_word HA.out (i := k - 1) (by omega)
          rw [← hy] at wy
          have byy := wordB_iff.1 wy
          have hk0 : 0 < k := by omega
          clear hy wy h0 hr
          by_cases ho : atomI y < atomI x
          · have hfin := Lib.hid (show wordsTo zs (k + 1) = true by rw [wordsTo_succ, HA.out]; unfold stepOk; rw [← HX.out, ← HY.out, hw]; simp [ho])
            go_wp2_with (first | (go_at_call 45; refine (isWord_any _ _).mono ?_; rintro e w' ⟨rfl, rfl⟩) | (go_at_call 46; refine (atom_any _ _ (by omega)).mono ?_; rintro e w' ⟨rfl, rfl⟩))
            go_round
            case rel => exact ⟨k + 1, by omega, by go_num, hfin.out⟩
            case measure => simp [intOf]; omega
          · have hfin := Lib.hid (words_not (zs := zs) (k := k) (by have := HL.out; omega) (by unfold stepOk; rw [← HX.out, ← HY.out, hw]; simp [ho]; omega))
            go_wp2_with (first | (go_at_call 45; refine (isWord_any _ _).mono ?_; rintro e w' ⟨rfl, rfl⟩) | (go_at_call 46; refine (atom_any _ _ (by omega)).mono ?_; rintro e w' ⟨rfl, rfl⟩))
            go_ret
            exact ⟨by rw [hfin.out]; rfl, rfl⟩
    · obtain rfl : n = k := by omega
      have hfin := Lib.hid (show wordsB zs = true by unfold wordsB; rw [HL.out]; exact HA.out)
      clear HA hr
      go_wp2
      go_ret
      exact ⟨by rw [hfin.out]; rfl, rfl⟩
theorem l05Word_is {z : Int} {b : Bool} (h : wordB z = b) (w : World) : Calls Try.prog 52 #[.int .i64 z] w fun e w' => e = .returned (.bool b) ∧ w = w' := by
  subst h; exact l05Word_any z w
set_option maxHeartbeats 3200000 in
theorem l05Words_any (A : Option Addr) (n c : Nat) (zs : List Int) (w : World) (hr : Rd w w.heap.size 1 A n (ints zs)) (hn : n ≤ 1048576) (hz : I64s zs) :
    Calls Try.prog 53 #[.slice A n c] w fun e w' => e = .returned (.bool (wordsB zs)) ∧ ∃ m, w' = w.drewN m := by
  have HL := Lib.hid hr.ilen
  go_enter Try.func53, Try.ntmps53
  go_wp2
  go_loopw [3, 6] (fun _ i wr => ∃ k : Nat, k ≤ n ∧ i = .int .i64 k ∧ wordsTo zs k = true ∧ ∃ m, wr = w.drewN m) (fun _ i _ => n - (intOf i).toNat)
  case atStart => exact ⟨0, Nat.zero_le _, rfl, rfl, 0, rfl⟩
  case round =>
    obtain ⟨k, hk, rfl, ha, hwr⟩ := hrel
    have hr2 : Rd wr w.heap.size 1 A n (ints zs) := by obtain ⟨m, rfl⟩ := hwr; exact hr.drewN m
    have HW := Lib.hid hwr
    clear hr hwr
    have HA := Lib.hid ha
    clear ha
    by_cases hlt : k < n
    · obtain ⟨ad, rfl, hc⟩ := hr2.int hlt
      have hk' : (0 : Int) ≤ k := by omega
      have hlt' : (k : Int) < n := by omega
      obtain ⟨x, hx⟩ : ∃ x, x = zs[k]?.getD 0 := ⟨_, rfl⟩
      rw [← hx] at hc
      have HX := Lib.hid hx
      clear hx
      cases hw : wordB x
      · have hfin := Lib.hid (words_not (zs := zs) (k := k) (by have := HL.out; omega) (by unfold stepOk; rw [← HX.out, hw]; rfl))
        clear hr2
        go_wp2
        go_quiet (first | (go_at_call_of 52 x; exact quietL (l05Word_is hw _)))
        go_wp2
        go_ret
        exact ⟨by rw [hfin.out]; rfl, drewN_more HW.out _⟩
      · have bx := wordB_iff.1 hw
        by_cases h0 : k = 0
        · subst h0
          have hfin := Lib.hid (show wordsTo zs (0 + 1) = true by rw [wordsTo_succ, HA.out]; unfold stepOk; rw [← HX.out, hw]; rfl)
          rw [add_zero_] at hc
          clear hr2
          go_wp2
          go_quiet (first | (go_at_call_of 52 x; exact quietL (l05Word_is hw _)))
          go_wp2
          go_roundw
          case rel => exact ⟨1, by omega, by go_num, hfin.out, drewN_more HW.out _⟩
          case measure => simp [intOf]; omega
        · obtain ⟨ad', e, hd⟩ := hr2.int (k := k - 1) (by omega)
          cases e
          obtain ⟨y, hy⟩ : ∃ y, y = zs[k - 1]?.getD 0 := ⟨_, rfl⟩
          rw [← hy] at hd
          have HY := Lib.hid hy
          have wy := wordsTo_word HA.out (i := k - 1) (by omega)
          rw [← hy] at wy
          have byy := wordB_iff.1 wy
          have hk0 : decide (0 < k) = true := by simp; omega
          have hk1 : (0 : Int) ≤ (k : Int) - 1 := by omega
          have hk2 : (k : Int) - 1 < n := by omega
          have hk3 : ((k : Int) - 1).toNat = k - 1 := by omega
          clear hy wy h0 hr2
          by_cases ho : atomI y < atomI x
          · have hfin := Lib.hid (show wordsTo zs (k + 1) = true by rw [wordsTo_succ, HA.out]; unfold stepOk; rw [← HX.out, ← HY.out, hw]; simp [ho])
            have hle : decide (atomI x ≤ atomI y) = false := by simp; omega
            go_wp2
            go_quiet (first | (go_at_call_of 52 x; exact quietL (l05Word_is hw _)) | (go_at_call_of 68 x; exact quietL (l05Atom_any x _ (by omega))) | (go_at_call_of 68 y; exact quietL (l05Atom_any y _ (by omega))))
            go_wp2
            go_roundw
            case rel => exact ⟨k + 1, by omega, by go_num, hfin.out, drewN_more HW.out _⟩
            case measure => simp [intOf]; omega
          · have hfin := Lib.hid (words_not (zs := zs) (k := k) (by have := HL.out; omega) (by unfold stepOk; rw [← HX.out, ← HY.out, hw]; simp [ho]; omega))
            have hle : decide (atomI x ≤ atomI y) = true := by simp; omega
            go_wp2
            go_quiet (first | (go_at_call_of 52 x; exact quietL (l05Word_is hw _)) | (go_at_call_of 68 x; exact quietL (l05Atom_any x _ (by omega))) | (go_at_call_of 68 y; exact quietL (l05Atom_any y _ (by omega))))
            go_wp2
            go_ret
            exact ⟨by rw [hfin.out]; rfl, drewN_more HW.out _⟩
    · obtain rfl : n = k := by omega
      have hfin := Lib.hid (show wordsB zs = true by unfold wordsB; rw [HL.out]; exact HA.out)
      clear HA hr2
      go_wp2
      go_ret
      exact ⟨by rw [hfin.out]; rfl, HW.out⟩
end Go.Proofs.Ytmfglflahlddbaa
