/-
  WHO IS ALIVE: the shares by a life table; AliveShares: what the program's and the reference's functions return.
-/
import Derived.Test.YtefoebaoejoamaaTab
import Derived.Test.YtefoebaoejoamaaFin
namespace Go.Proofs.Ytefoebaoejoamaa
open Fl
open Go.ChangeShapes Go.WideShapes Go.ChangeAt Go.RowKit
set_option linter.unusedVariables false

/-- a list of numbers from 0 to 1 -/
def In1s (bs : List Nat) : Prop := ∀ b ∈ bs, In1 b
theorem In1s.at {bs : List Nat} (h : In1s bs) {k : Nat} (hk : k < bs.length) : In1 (bs[k]?.getD 0) := h _ (getD_memN hk)
theorem tab_in1s {bs : List Nat} (hz : F32s bs) (h : tabOk bs = true) : In1s bs := fun b hb => by
  simp [tabOk] at h
  exact share_in1 (hz b hb) (h.1 b hb)
theorem tab_len {bs : List Nat} (h : tabOk bs = true) : 1 ≤ bs.length ∧ bs.length ≤ 120 := by
  simp [tabOk] at h
  exact ⟨by omega, h.2.2.1⟩
/-- the share that is alive after k years -/
def aliveAt (bs : List Nat) : Nat → Nat
  | 0 => 1065353216
  | k + 1 => fmul (aliveAt bs k) (fsub 1065353216 (bs[k]?.getD 0))
def aliveTo (bs : List Nat) (k : Nat) : List Nat := (List.range k).map (aliveAt bs)
theorem aliveTo_length (bs : List Nat) (k : Nat) : (aliveTo bs k).length = k := by simp [aliveTo]
theorem aliveTo_succ (bs : List Nat) (k : Nat) : aliveTo bs (k + 1) = aliveTo bs k ++ [aliveAt bs k] := by simp [aliveTo, List.range_succ]
theorem aliveTo_at (bs : List Nat) (n k : Nat) (h : k < n) : (aliveTo bs n)[k]?.getD 0 = aliveAt bs k := by simp [aliveTo, h]
theorem alive_in1 {bs : List Nat} (h : In1s bs) : ∀ k, k ≤ bs.length → In1 (aliveAt bs k)
  | 0, _ => In1_one
  | k + 1, hk => (mul_in1 (alive_in1 h k (by omega)) (one_sub (h.at (by omega))).2).2
theorem aliveTo_in1 {bs : List Nat} (h : In1s bs) : In1s (aliveTo bs bs.length) := fun b hb => by
  simp only [aliveTo, List.mem_map, List.mem_range] at hb
  obtain ⟨k, hk, rfl⟩ := hb
  exact alive_in1 h k (by omega)
def AliveIs (W : World) (bs : List Nat) (E : Ending) (w' : World) : Prop :=
  ∃ v, E = .returned v ∧ w'.ownsRow W.heap.size 26 1 v bs.length (flts (aliveTo bs bs.length)) ∧ Below W.heap.size W w'
set_option maxHeartbeats 800000 in
theorem alive_any (A : Option Addr) (n c : Nat) (bs : List Nat) (w : World) (hr : Rd w w.heap.size 1 A n (flts bs)) (hn : n ≤ 120) (hz : In1s bs) :
    Calls Try.prog 50 #[.slice A n c] w (AliveIs w bs) := by
  have HL := Lib.hid hr.flen
  have HZ := Lib.hid hz
  have hB : Below w.heap.size w w := Below.refl _ _
  clear hz
  go_enter Try.func50, Try.ntmps50
  go_wp2_with fail
  go_loopw [3, 4, 6, 10] (fun v x _ i wr => ∃ (k : Nat) (s : Nat), k ≤ n ∧ i = .int .i64 k ∧ s = aliveAt bs k ∧ x = .float .f32 s ∧ wr.ownsRow w.heap.size 26 1 v k (flts (aliveTo bs k)) ∧ Below w.heap.size w wr) (fun v x _ i _ => n - (intOf i).toNat)
  case atStart => exact ⟨0, 1065353216, Nat.zero_le _, rfl, rfl, rfl, own_base (own_empty _ _) hB.size, hB.alloc hB.size _⟩
  case round =>
    obtain ⟨k, s, hk, rfl, hs, rfl, hown, hbw⟩ := hrel
    have HS := Lib.hid hs
    clear hs hB
    by_cases hlt : k < n
    · obtain ⟨ad, rfl, hc⟩ := (hr.below hbw).flt hlt
      have HR := Lib.hid (show ∀ w', Below w.heap.size w w' → w'.cell? (ad.add k) = some (.float .f32 (bs[k]?.getD 0)) from fun w' h => by
        obtain ⟨ad', e, hc'⟩ := (hr.below h).flt hlt
        cases e; exact hc')
      clear hr
      have hst := Lib.hid (aliveTo_succ bs k)
      have hv := Lib.hid (show aliveAt bs (k + 1) = fmul (aliveAt bs k) (fsub 1065353216 (bs[k]?.getD 0)) from rfl)
      have hq := HZ.out.at (k := k) (by have := HL.out; omega)
      have hal := alive_in1 HZ.out k (by have := HL.out; omega)
      rw [← HS.out] at hal
      obtain ⟨b, hb⟩ : ∃ b, b = bs[k]?.getD 0 := ⟨_, rfl⟩
      rw [← hb] at hc hq HR
      have HB := Lib.hid hb
      clear hb
      obtain ⟨o1, i1⟩ := one_sub hq
      obtain ⟨o2, _⟩ := mul_in1 hal i1
      have e1 := fun (t : TypeId) (w : World) => run_fsub (P := Try.prog) t o1 w
      have e2 := fun (t : TypeId) (w : World) => run_fmul (P := Try.prog) t o2 w
      clear o1 o2 i1 hal hq
      have hn' : k + 1 ≤ 4194304 := by omega
      go_wp2_with (at_builtin; refine append_flt rfl (.tmp 14) (.tmp 16) rfl w _ k (aliveTo bs k) rfl (hown.alloc _) (hbw.alloc hbw.size _) _ _ s rfl (cell_new _ _ _) hn' ?_; intro v' w' ho2 hb2; have hc2 := HR.out _ hb2)
      go_roundw
      case rel => exact ⟨k + 1, fmul s (fsub 1065353216 b), by omega, by go_num, by rw [hv.out, ← HS.out, ← HB.out], rfl, by rw [hst.out, ← HS.out]; exact ho2, hb2⟩
      case measure => simp [intOf]; omega
    · obtain rfl : n = k := by omega
      go_wp2_with fail
      go_ret
      refine ⟨_, rfl, ?_, hbw⟩
      rw [HL.out]; exact hown
set_option maxHeartbeats 800000 in
theorem l06Alive_any (A : Option Addr) (n c : Nat) (bs : List Nat) (w : World) (hr : Rd w w.heap.size 1 A n (flts bs)) (hn : n ≤ 120) (hz : In1s bs) :
    Calls Try.prog 49 #[.slice A n c] w (AliveIs w bs) := by
  have HL := Lib.hid hr.flen
  have HZ := Lib.hid hz
  have hB : Below w.heap.size w w := Below.refl _ _
  clear hz
  go_enter Try.func49, Try.ntmps49
  go_wp2_with fail
  go_loopw [3, 4, 5] (fun v x i wr => ∃ (k : Nat) (s : Nat), k ≤ n ∧ i = .int .i64 k ∧ s = aliveAt bs k ∧ x = .float .f32 s ∧ wr.ownsRow w.heap.size 26 1 v k (flts (aliveTo bs k)) ∧ Below w.heap.size w wr) (fun v x i _ => n - (intOf i).toNat)
  case atStart => exact ⟨0, 1065353216, Nat.zero_le _, rfl, rfl, rfl, own_base (own_empty _ _) hB.size, hB.alloc hB.size _⟩
  case round =>
    obtain ⟨k, s, hk, rfl, hs, rfl, hown, hbw⟩ := hrel
    have HS := Lib.hid hs
    clear hs hB
    by_cases hlt : k < n
    · obtain ⟨ad, rfl, hc⟩ := (hr.below hbw).flt hlt
      have HR := Lib.hid (show ∀ w', Below w.heap.size w w' → w'.cell? (ad.add k) = some (.float .f32 (bs[k]?.getD 0)) from fun w' h => by
        obtain ⟨ad', e, hc'⟩ := (hr.below h).flt hlt
        cases e; exact hc')
      clear hr
      have hst := Lib.hid (aliveTo_succ bs k)
      have hv := Lib.hid (show aliveAt bs (k + 1) = fmul (aliveAt bs k) (fsub 1065353216 (bs[k]?.getD 0)) from rfl)
      have hq := HZ.out.at (k := k) (by have := HL.out; omega)
      have hal := alive_in1 HZ.out k (by have := HL.out; omega)
      rw [← HS.out] at hal
      obtain ⟨b, hb⟩ : ∃ b, b = bs[k]?.getD 0 := ⟨_, rfl⟩
      rw [← hb] at hc hq HR
      have HB := Lib.hid hb
      clear hb
      obtain ⟨o1, i1⟩ := one_sub hq
      obtain ⟨o2, _⟩ := mul_in1 hal i1
      have e1 := fun (t : TypeId) (w : World) => run_fsub (P := Try.prog) t o1 w
      have e2 := fun (t : TypeId) (w : World) => run_fmul (P := Try.prog) t o2 w
      clear o1 o2 i1 hal hq
      have hn' : k + 1 ≤ 4194304 := by omega
      go_wp2_with (at_builtin; refine append_flt rfl (.tmp 13) (.tmp 15) rfl w _ k (aliveTo bs k) rfl (hown.alloc _) (hbw.alloc hbw.size _) _ _ s rfl (cell_new _ _ _) hn' ?_; intro v' w' ho2 hb2; have hc2 := HR.out _ hb2)
      go_roundw
      case rel => exact ⟨k + 1, fmul s (fsub 1065353216 b), by omega, by go_num, by rw [hv.out, ← HS.out, ← HB.out], rfl, by rw [hst.out, ← HS.out]; exact ho2, hb2⟩
      case measure => simp [intOf]; omega
    · obtain rfl : n = k := by omega
      go_wp2_with fail
      go_ret
      refine ⟨_, rfl, ?_, hbw⟩
      rw [HL.out]; exact hown
def AliveShares_r0 (bs : List Nat) : List Nat := if tabOk bs then aliveTo bs bs.length else []
def AliveShares_r1 (bs : List Nat) : Bool := tabOk bs
theorem AliveShares_len (bs : List Nat) : (AliveShares_r0 bs).length ≤ 120 := by
  unfold AliveShares_r0
  by_cases h : tabOk bs = true
  · rw [if_pos h, aliveTo_length]; exact (tab_len h).2
  · rw [if_neg h]; simp
def SharesIs (W : World) (bs : List Nat) (E : Ending) (w' : World) : Prop :=
  ∃ v, E = .returned (.tuple #[v, .bool (AliveShares_r1 bs)]) ∧ w'.ownsRow W.heap.size 26 1 v (AliveShares_r0 bs).length (flts (AliveShares_r0 bs)) ∧ Below W.heap.size W w'
theorem shares_no {W : World} {bs : List Nat} (h : tabOk bs = false) : SharesIs W bs (.returned (.tuple #[.slice none 0 0, .bool false])) W := by
  unfold SharesIs AliveShares_r0 AliveShares_r1
  rw [h]
  exact ⟨_, rfl, ⟨by simp [flts], .inl ⟨rfl, rfl⟩⟩, Below.refl _ _⟩
theorem shares_yes {W w' : World} {bs : List Nat} {v : Value} (h : tabOk bs = true) (ho : w'.ownsRow W.heap.size 26 1 v bs.length (flts (aliveTo bs bs.length))) (hb : Below W.heap.size W w') : SharesIs W bs (.returned (.tuple #[v, .bool true])) w' := by
  unfold SharesIs AliveShares_r0 AliveShares_r1
  rw [h]
  exact ⟨_, rfl, by simpa [aliveTo_length] using ho, hb⟩
theorem impl_AliveShares (A : Option Addr) (n c : Nat) (bs : List Nat) (w : World) (hr : Rd w w.heap.size 1 A n (flts bs)) (hn : n ≤ 1048576) (hz : F32s bs) :
    Calls Try.prog 24 #[.slice A n c] w (SharesIs w bs) := by
  have HL := Lib.hid hr.flen
  cases h : tabOk bs
  · have hfin := Lib.hid (shares_no (W := w) h)
    go_enter Try.func24, Try.ntmps24
    go_wp2_with (go_at_call 17; refine (isLife_any _ _ _ bs _ hr hn).mono ?_; rintro e w' ⟨rfl, rfl⟩)
    go_ret2
    exact hfin.out
  · have hin := Lib.hid (tab_in1s hz h)
    have hl := (tab_len h).2
    have hn' : n ≤ 120 := by have := HL.out; omega
    have hfin := Lib.hid (fun v w' => shares_yes (W := w) (w' := w') (v := v) h)
    clear hl
    go_enter Try.func24, Try.ntmps24
    go_wp2_with (first | (go_at_call 17; refine (isLife_any _ _ _ bs _ hr hn).mono ?_; rintro e w' ⟨rfl, rfl⟩) | (go_at_call 50; refine (alive_any _ _ _ bs _ hr hn' hin.out).mono ?_; rintro e w' ⟨v, rfl, ho, hb⟩))
    go_ret2
    exact hfin.out _ _ ho hb
theorem spec_AliveShares (A : Option Addr) (n c : Nat) (bs : List Nat) (w : World) (hr : Rd w w.heap.size 1 A n (flts bs)) (hn : n ≤ 1048576) (hz : F32s bs) :
    Calls Try.prog 23 #[.slice A n c] w (SharesIs w bs) := by
  have HL := Lib.hid hr.flen
  cases h : tabOk bs
  · have hfin := Lib.hid (shares_no (W := w) h)
    go_enter Try.func23, Try.ntmps23
    go_wp2_with (go_at_call 46; refine (l06Table_any _ _ _ bs _ hr hn).mono ?_; rintro e w' ⟨rfl, rfl⟩)
    go_ret2
    exact hfin.out
  · have hin := Lib.hid (tab_in1s hz h)
    have hl := (tab_len h).2
    have hn' : n ≤ 120 := by have := HL.out; omega
    have hfin := Lib.hid (fun v w' => shares_yes (W := w) (w' := w') (v := v) h)
    clear hl
    go_enter Try.func23, Try.ntmps23
    go_wp2_with (first | (go_at_call 46; refine (l06Table_any _ _ _ bs _ hr hn).mono ?_; rintro e w' ⟨rfl, rfl⟩) | (go_at_call 49; refine (l06Alive_any _ _ _ bs _ hr hn' hin.out).mono ?_; rintro e w' ⟨v, rfl, ho, hb⟩))
    go_ret2
    exact hfin.out _ _ ho hb
end Go.Proofs.Ytefoebaoejoamaa
