/-
  ChangedRanks: what the program's and the reference's function return.
-/
import Derived.Test.YtjngepglbmjagaaList
namespace Go.Proofs.Ytjngepglbmjagaa
open Go.ChangeShapes Go.WideShapes Go.ChangeAt Go.RowKit
set_option linter.unusedVariables false

/-- one pair has changed its order -/
def crossed (a b c d : Int) : Bool := (decide (b < a) && decide (c < d)) || (decide (a < b) && decide (d < c))
def crossIn (zs ys : List Int) (i : Nat) : Nat → Int
  | 0 => 0
  | k + 1 => crossIn zs ys i k + if crossed (zs[k]?.getD 0) (zs[i]?.getD 0) (ys[k]?.getD 0) (ys[i]?.getD 0) then 1 else 0
def crossAll (zs ys : List Int) : Nat → Int
  | 0 => 0
  | i + 1 => crossAll zs ys i + crossIn zs ys i i
def ranksOk (zs ys : List Int) : Bool := cntIn zs 1 64 0 1000000000 && cntIn ys 1 64 0 1000000000 && decide (zs.length = ys.length)
def ChangedRanks_r0 (zs ys : List Int) : Int := if ranksOk zs ys then crossAll zs ys zs.length else 0
def ChangedRanks_r1 (zs ys : List Int) : Bool := ranksOk zs ys
def RanksIs (zs ys : List Int) (E : Ending) : Prop := E = .returned (.tuple #[.int .i64 (ChangedRanks_r0 zs ys), .bool (ChangedRanks_r1 zs ys)])
theorem ranks_no {zs ys : List Int} (h : ranksOk zs ys = false) : RanksIs zs ys (.returned (.tuple #[.int .i64 0, .bool false])) := by
  unfold RanksIs ChangedRanks_r0 ChangedRanks_r1; rw [h]; rfl
theorem ranks_yes {zs ys : List Int} {a : Int} (h : ranksOk zs ys = true) (ha : crossAll zs ys zs.length = a) : RanksIs zs ys (.returned (.tuple #[.int .i64 a, .bool true])) := by
  unfold RanksIs ChangedRanks_r0 ChangedRanks_r1; rw [h, ha]; rfl
set_option maxRecDepth 100000 in
set_option maxHeartbeats 3200000 in
theorem impl_ChangedRanks (A : Option Addr) (n c : Nat) (zs : List Int) (B : Option Addr) (m d : Nat) (ys : List Int) (w : World) (hr : Rd w w.heap.size 1 A n (ints zs)) (hn : n ≤ 1048576) (hz : I64s zs) (hs : Rd w w.heap.size 1 B m (ints ys)) (hm : m ≤ 1048576) (hy : I64s ys) :
    Calls Try.prog 21 #[.slice A n c, .slice B m d] w fun E w' => E = .returned (.tuple #[.int .i64 (ChangedRanks_r0 zs ys), .bool (ChangedRanks_r1 zs ys)]) ∧ Below w.heap.size w w' := by
  show Calls Try.prog _ _ w fun E w' => RanksIs zs ys E ∧ Below w.heap.size w w'
  have HL := Lib.hid hr.ilen
  have HM := Lib.hid hs.ilen
  have hB : Below w.heap.size w w := Below.refl _ _
  cases h1 : cntIn zs 1 64 0 1000000000
  · have hfin := Lib.hid (ranks_no (zs := zs) (ys := ys) (by simp [ranksOk, h1]))
    go_enter Try.func21, Try.ntmps21
    go_wp2_with fail
    refine (AreIncomes_any _ _ _ zs _ (hr.below hB |>.more hB.size) (by omega)).mono ?_; rintro e w1 ⟨rfl, hb⟩; replace hB := below_step hB hb; clear hb
    go_wp2_with fail
    go_ret2
    exact ⟨hfin.out, hB⟩
  cases h2 : cntIn ys 1 64 0 1000000000
  · have hfin := Lib.hid (ranks_no (zs := zs) (ys := ys) (by simp [ranksOk, h2]))
    go_enter Try.func21, Try.ntmps21
    go_wp2_with fail
    refine (AreIncomes_any _ _ _ zs _ (hr.below hB |>.more hB.size) (by omega)).mono ?_; rintro e w1 ⟨rfl, hb⟩; replace hB := below_step hB hb; clear hb
    go_wp2_with fail
    refine (AreIncomes_any _ _ _ ys _ (hs.below hB |>.more hB.size) (by omega)).mono ?_; rintro e w2 ⟨rfl, hb⟩; replace hB := below_step hB hb; clear hb
    go_wp2_with fail
    go_ret2
    exact ⟨hfin.out, hB⟩
  by_cases h3 : ¬ n = m
  · have hfin := Lib.hid (ranks_no (zs := zs) (ys := ys) (by simp [ranksOk, HL.out, HM.out, h3]))
    go_enter Try.func21, Try.ntmps21
    go_wp2_with fail
    refine (AreIncomes_any _ _ _ zs _ (hr.below hB |>.more hB.size) (by omega)).mono ?_; rintro e w1 ⟨rfl, hb⟩; replace hB := below_step hB hb; clear hb
    go_wp2_with fail
    refine (AreIncomes_any _ _ _ ys _ (hs.below hB |>.more hB.size) (by omega)).mono ?_; rintro e w2 ⟨rfl, hb⟩; replace hB := below_step hB hb; clear hb
    go_wp2_with fail
    go_ret2
    exact ⟨hfin.out, hB⟩
  replace h3 : n = m := by omega
  have hok := Lib.hid (show ranksOk zs ys = true by simp [ranksOk, HL.out, HM.out, h1, h2, h3])
  obtain ⟨_, h4, _⟩ := cntIn_iff.1 h1
  have hn64 : n ≤ 64 := by have := HL.out; omega
  subst h3
  go_enter Try.func21, Try.ntmps21
  go_wp2_with fail
  refine (AreIncomes_any _ _ _ zs _ (hr.below hB |>.more hB.size) (by omega)).mono ?_; rintro e w1 ⟨rfl, hb⟩; replace hB := below_step hB hb; clear hb
  rw [h1]
  go_wp2_with fail
  refine (AreIncomes_any _ _ _ ys _ (hs.below hB |>.more hB.size) (by omega)).mono ?_; rintro e w2 ⟨rfl, hb⟩; replace hB := below_step hB hb; clear hb
  rw [h2]
  go_wp2_with fail
  clear h1 h2 h4 hz hy hm
  go_loopw [6, 7, 8, 26, 29, 30] (fun s _ _ i _ _ wr => ∃ k : Nat, k ≤ n ∧ i = .int .i64 k ∧ s = .int .i64 (crossAll zs ys k) ∧ 0 ≤ crossAll zs ys k ∧ crossAll zs ys k ≤ 64 * k ∧ Below w.heap.size w wr) (fun _ _ _ i _ _ _ => n - (intOf i).toNat)
  case atStart => exact ⟨0, Nat.zero_le _, rfl, rfl, Int.le_refl _, by simp [crossAll], hB⟩
  case round =>
    obtain ⟨k, hk, rfl, rfl, g0, g1, hbw⟩ := hrel
    clear hB
    obtain ⟨g, hg⟩ : ∃ g, g = crossAll zs ys k := ⟨_, rfl⟩
    rw [← hg] at g0 g1 ⊢
    have HG := Lib.hid hg
    clear hg
    by_cases hlt : k < n
    · have hst := Lib.hid (show crossAll zs ys (k + 1) = crossAll zs ys k + crossIn zs ys k k from rfl)
      go_wp2_with fail
      obtain ⟨wo, rfl⟩ : ∃ wo : World, wo = wr := ⟨_, rfl⟩
      go_loopw [6, 8, 30] (fun s _ jv wi => ∃ j : Nat, j ≤ k ∧ jv = .int .i64 j ∧ s = .int .i64 (g + crossIn zs ys k j) ∧ 0 ≤ crossIn zs ys k j ∧ crossIn zs ys k j ≤ j ∧ Below w.heap.size w wi) (fun _ _ jv _ => k - (intOf jv).toNat)
      case atStart => exact ⟨0, Nat.zero_le _, rfl, by simp [crossIn], Int.le_refl _, by simp [crossIn], hbw⟩
      case round =>
        obtain ⟨j, hj, rfl, rfl, f0, f1, hbi⟩ := hrel
        by_cases hjl : j < k
        · obtain ⟨ad, rfl, hc1⟩ := (hr.below hbi).int hlt
          obtain ⟨af, hE, hc2⟩ := (hr.below hbi).int (by omega : j < n)
          cases hE
          obtain ⟨ae, rfl, hd1⟩ := (hs.below hbi).int hlt
          obtain ⟨af, hE, hd2⟩ := (hs.below hbi).int (by omega : j < n)
          cases hE
          have hs2 := Lib.hid (show crossIn zs ys k (j + 1) = crossIn zs ys k j + if crossed (zs[j]?.getD 0) (zs[k]?.getD 0) (ys[j]?.getD 0) (ys[k]?.getD 0) then 1 else 0 from rfl)
          obtain ⟨a, ha⟩ : ∃ a, a = zs[j]?.getD 0 := ⟨_, rfl⟩
          obtain ⟨b, hb⟩ : ∃ b, b = zs[k]?.getD 0 := ⟨_, rfl⟩
          obtain ⟨p, hp⟩ : ∃ p, p = ys[j]?.getD 0 := ⟨_, rfl⟩
          obtain ⟨q, hq⟩ : ∃ q, q = ys[k]?.getD 0 := ⟨_, rfl⟩
          obtain ⟨f, hf⟩ : ∃ f, f = crossIn zs ys k j := ⟨_, rfl⟩
          rw [← ha] at hc2
          rw [← hb] at hc1
          rw [← hp] at hd2
          rw [← hq] at hd1
          rw [← hf] at f0 f1 ⊢
          have hs3 := hs2.out
          rw [← ha, ← hb, ← hp, ← hq, ← hf] at hs3
          have HS := Lib.hid hs3
          have i1 : (0 : Int) ≤ k := by omega
          have i2 : (k : Int) < n := by omega
          have i3 : (0 : Int) ≤ j := by omega
          have i4 : (j : Int) < n := by omega
          clear ha hb hp hq hf hr hs hbw hs2 hs3
          rcases Bool.eq_false_or_eq_true (decide (b < a)) with t1 | t1
          · have t3 : decide (a < b) = false := by simp at t1 ⊢; omega
            rcases Bool.eq_false_or_eq_true (decide (p < q)) with t2 | t2
            · have hv := Lib.hid (show crossIn zs ys k (j + 1) = f + 1 by rw [HS.out]; unfold crossed; rw [t1, t3, t2]; simp)
              go_wp2_with fail
              go_quiet (fail)
              have hbq := below_drewN hbi nq
              clear hc1 hc2 hd1 hd2
              go_wp2_with fail
              go_roundw
              case rel => exact ⟨j + 1, by omega, by go_num, by first | (rw [hv.out]; done) | (rw [hv.out]; go_num), by rw [hv.out]; omega, by rw [hv.out]; omega, hbq⟩
              case measure => simp [intOf]; omega
            · have hv := Lib.hid (show crossIn zs ys k (j + 1) = f by rw [HS.out]; unfold crossed; rw [t1, t3, t2]; simp)
              go_wp2_with fail
              go_quiet (fail)
              have hbq := below_drewN hbi nq
              clear hc1 hc2 hd1 hd2
              go_wp2_with fail
              go_roundw
              case rel => exact ⟨j + 1, by omega, by go_num, by first | (rw [hv.out]; done) | (rw [hv.out]; go_num), by rw [hv.out]; omega, by rw [hv.out]; omega, hbq⟩
              case measure => simp [intOf]; omega
          · rcases Bool.eq_false_or_eq_true (decide (a < b)) with t3 | t3
            · rcases Bool.eq_false_or_eq_true (decide (q < p)) with t4 | t4
              · have hv := Lib.hid (show crossIn zs ys k (j + 1) = f + 1 by rw [HS.out]; unfold crossed; rw [t1, t3, t4]; simp)
                go_wp2_with fail
                go_quiet (fail)
                have hbq := below_drewN hbi nq
                clear hc1 hc2 hd1 hd2
                go_wp2_with fail
                go_roundw
                case rel => exact ⟨j + 1, by omega, by go_num, by first | (rw [hv.out]; done) | (rw [hv.out]; go_num), by rw [hv.out]; omega, by rw [hv.out]; omega, hbq⟩
                case measure => simp [intOf]; omega
              · have hv := Lib.hid (show crossIn zs ys k (j + 1) = f by rw [HS.out]; unfold crossed; rw [t1, t3, t4]; simp)
                go_wp2_with fail
                go_quiet (fail)
                have hbq := below_drewN hbi nq
                clear hc1 hc2 hd1 hd2
                go_wp2_with fail
                go_roundw
                case rel => exact ⟨j + 1, by omega, by go_num, by first | (rw [hv.out]; done) | (rw [hv.out]; go_num), by rw [hv.out]; omega, by rw [hv.out]; omega, hbq⟩
                case measure => simp [intOf]; omega
            · have hv := Lib.hid (show crossIn zs ys k (j + 1) = f by rw [HS.out]; unfold crossed; rw [t1, t3]; simp)
              go_wp2_with fail
              go_quiet (fail)
              have hbq := below_drewN hbi nq
              clear hc1 hc2 hd1 hd2
              go_wp2_with fail
              go_roundw
              case rel => exact ⟨j + 1, by omega, by go_num, by first | (rw [hv.out]; done) | (rw [hv.out]; go_num), by rw [hv.out]; omega, by rw [hv.out]; omega, hbq⟩
              case measure => simp [intOf]; omega
        · obtain rfl : k = j := by omega
          obtain ⟨f, hf⟩ : ∃ f, f = crossIn zs ys k k := ⟨_, rfl⟩
          rw [← hf] at f0 f1 ⊢
          have HF := Lib.hid hf
          clear hf hr hs hbw
          go_wp2_with fail
          go_roundw
          case rel => exact ⟨k + 1, by omega, by go_num, by rw [hst.out, ← HG.out, ← HF.out], by rw [hst.out, ← HG.out, ← HF.out]; omega, by rw [hst.out, ← HG.out, ← HF.out]; omega, hbi⟩
          case measure => simp [intOf]; omega
    · obtain rfl : n = k := by omega
      have hfin := Lib.hid (ranks_yes (zs := zs) (ys := ys) (a := g) hok.out (by rw [HL.out, ← HG.out]))
      go_wp2_with fail
      go_ret2
      exact ⟨hfin.out, hbw⟩
set_option maxRecDepth 100000 in
set_option maxHeartbeats 3200000 in
theorem spec_ChangedRanks (A : Option Addr) (n c : Nat) (zs : List Int) (B : Option Addr) (m d : Nat) (ys : List Int) (w : World) (hr : Rd w w.heap.size 1 A n (ints zs)) (hn : n ≤ 1048576) (hz : I64s zs) (hs : Rd w w.heap.size 1 B m (ints ys)) (hm : m ≤ 1048576) (hy : I64s ys) :
    Calls Try.prog 20 #[.slice A n c, .slice B m d] w fun E w' => E = .returned (.tuple #[.int .i64 (ChangedRanks_r0 zs ys), .bool (ChangedRanks_r1 zs ys)]) ∧ Below w.heap.size w w' := by
  show Calls Try.prog _ _ w fun E w' => RanksIs zs ys E ∧ Below w.heap.size w w'
  have HL := Lib.hid hr.ilen
  have HM := Lib.hid hs.ilen
  have hB : Below w.heap.size w w := Below.refl _ _
  cases h1 : cntIn zs 1 64 0 1000000000
  · have hfin := Lib.hid (ranks_no (zs := zs) (ys := ys) (by simp [ranksOk, h1]))
    go_enter Try.func20, Try.ntmps20
    go_wp2_with fail
    refine (l07Incomes_any _ _ _ zs _ hr (by omega)).mono ?_; rintro e w1 ⟨rfl, rfl⟩
    go_wp2_with fail
    go_ret2
    exact ⟨hfin.out, hB⟩
  cases h2 : cntIn ys 1 64 0 1000000000
  · have hfin := Lib.hid (ranks_no (zs := zs) (ys := ys) (by simp [ranksOk, h2]))
    go_enter Try.func20, Try.ntmps20
    go_wp2_with fail
    refine (l07Incomes_any _ _ _ zs _ hr (by omega)).mono ?_; rintro e w1 ⟨rfl, rfl⟩
    go_wp2_with fail
    refine (l07Incomes_any _ _ _ ys _ hs (by omega)).mono ?_; rintro e w2 ⟨rfl, rfl⟩
    go_wp2_with fail
    go_ret2
    exact ⟨hfin.out, hB⟩
  by_cases h3 : ¬ n = m
  · have hfin := Lib.hid (ranks_no (zs := zs) (ys := ys) (by simp [ranksOk, HL.out, HM.out, h3]))
    go_enter Try.func20, Try.ntmps20
    go_wp2_with fail
    refine (l07Incomes_any _ _ _ zs _ hr (by omega)).mono ?_; rintro e w1 ⟨rfl, rfl⟩
    go_wp2_with fail
    refine (l07Incomes_any _ _ _ ys _ hs (by omega)).mono ?_; rintro e w2 ⟨rfl, rfl⟩
    go_wp2_with fail
    go_ret2
    exact ⟨hfin.out, hB⟩
  replace h3 : n = m := by omega
  have hok := Lib.hid (show ranksOk zs ys = true by simp [ranksOk, HL.out, HM.out, h1, h2, h3])
  obtain ⟨_, h4, _⟩ := cntIn_iff.1 h1
  have hn64 : n ≤ 64 := by have := HL.out; omega
  subst h3
  go_enter Try.func20, Try.ntmps20
  go_wp2_with fail
  refine (l07Incomes_any _ _ _ zs _ hr (by omega)).mono ?_; rintro e w1 ⟨rfl, rfl⟩
  rw [h1]
  go_wp2_with fail
  refine (l07Incomes_any _ _ _ ys _ hs (by omega)).mono ?_; rintro e w2 ⟨rfl, rfl⟩
  rw [h2]
  go_wp2_with fail
  clear h1 h2 h4 hz hy hm
  go_loopw [6, 7, 8, 26] (fun s _ _ i wr => ∃ k : Nat, k ≤ n ∧ i = .int .i64 k ∧ s = .int .i64 (crossAll zs ys k) ∧ 0 ≤ crossAll zs ys k ∧ crossAll zs ys k ≤ 64 * k ∧ Below w.heap.size w wr) (fun _ _ _ i _ => n - (intOf i).toNat)
  case atStart => exact ⟨0, Nat.zero_le _, rfl, rfl, Int.le_refl _, by simp [crossAll], hB⟩
  case round =>
    obtain ⟨k, hk, rfl, rfl, g0, g1, hbw⟩ := hrel
    clear hB
    obtain ⟨g, hg⟩ : ∃ g, g = crossAll zs ys k := ⟨_, rfl⟩
    rw [← hg] at g0 g1 ⊢
    have HG := Lib.hid hg
    clear hg
    by_cases hlt : k < n
    · have hst := Lib.hid (show crossAll zs ys (k + 1) = crossAll zs ys k + crossIn zs ys k k from rfl)
      go_wp2_with fail
      obtain ⟨wo, rfl⟩ : ∃ wo : World, wo = wr := ⟨_, rfl⟩
      go_loopw [6, 8] (fun s jv wi => ∃ j : Nat, j ≤ k ∧ jv = .int .i64 j ∧ s = .int .i64 (g + crossIn zs ys k j) ∧ 0 ≤ crossIn zs ys k j ∧ crossIn zs ys k j ≤ j ∧ Below w.heap.size w wi) (fun _ jv _ => k - (intOf jv).toNat)
      case atStart => exact ⟨0, Nat.zero_le _, rfl, by simp [crossIn], Int.le_refl _, by simp [crossIn], hbw⟩
      case round =>
        obtain ⟨j, hj, rfl, rfl, f0, f1, hbi⟩ := hrel
        by_cases hjl : j < k
        · obtain ⟨ad, rfl, hc1⟩ := (hr.below hbi).int hlt
          obtain ⟨af, hE, hc2⟩ := (hr.below hbi).int (by omega : j < n)
          cases hE
          obtain ⟨ae, rfl, hd1⟩ := (hs.below hbi).int hlt
          obtain ⟨af, hE, hd2⟩ := (hs.below hbi).int (by omega : j < n)
          cases hE
          have hs2 := Lib.hid (show crossIn zs ys k (j + 1) = crossIn zs ys k j + if crossed (zs[j]?.getD 0) (zs[k]?.getD 0) (ys[j]?.getD 0) (ys[k]?.getD 0) then 1 else 0 from rfl)
          obtain ⟨a, ha⟩ : ∃ a, a = zs[j]?.getD 0 := ⟨_, rfl⟩
          obtain ⟨b, hb⟩ : ∃ b, b = zs[k]?.getD 0 := ⟨_, rfl⟩
          obtain ⟨p, hp⟩ : ∃ p, p = ys[j]?.getD 0 := ⟨_, rfl⟩
          obtain ⟨q, hq⟩ : ∃ q, q = ys[k]?.getD 0 := ⟨_, rfl⟩
          obtain ⟨f, hf⟩ : ∃ f, f = crossIn zs ys k j := ⟨_, rfl⟩
          rw [← ha] at hc2
          rw [← hb] at hc1
          rw [← hp] at hd2
          rw [← hq] at hd1
          rw [← hf] at f0 f1 ⊢
          have hs3 := hs2.out
          rw [← ha, ← hb, ← hp, ← hq, ← hf] at hs3
          have HS := Lib.hid hs3
          have i1 : (0 : Int) ≤ k := by omega
          have i2 : (k : Int) < n := by omega
          have i3 : (0 : Int) ≤ j := by omega
          have i4 : (j : Int) < n := by omega
          clear ha hb hp hq hf hr hs hbw hs2 hs3
          rcases Bool.eq_false_or_eq_true (decide (b < a)) with t1 | t1
          · have t3 : decide (a < b) = false := by simp at t1 ⊢; omega
            rcases Bool.eq_false_or_eq_true (decide (p < q)) with t2 | t2
            · have hv := Lib.hid (show crossIn zs ys k (j + 1) = f + 1 by rw [HS.out]; unfold crossed; rw [t1, t3, t2]; simp)
              go_wp2_with fail
              go_quiet (fail)
              have hbq := below_drewN hbi nq
              clear hc1 hc2 hd1 hd2
              go_wp2_with fail
              go_roundw
              case rel => exact ⟨j + 1, by omega, by go_num, by first | (rw [hv.out]; done) | (rw [hv.out]; go_num), by rw [hv.out]; omega, by rw [hv.out]; omega, hbq⟩
              case measure => simp [intOf]; omega
            · have hv := Lib.hid (show crossIn zs ys k (j + 1) = f by rw [HS.out]; unfold crossed; rw [t1, t3, t2]; simp)
              go_wp2_with fail
              go_quiet (fail)
              have hbq := below_drewN hbi nq
              clear hc1 hc2 hd1 hd2
              go_wp2_with fail
              go_roundw
              case rel => exact ⟨j + 1, by omega, by go_num, by first | (rw [hv.out]; done) | (rw [hv.out]; go_num), by rw [hv.out]; omega, by rw [hv.out]; omega, hbq⟩
              case measure => simp [intOf]; omega
          · rcases Bool.eq_false_or_eq_true (decide (a < b)) with t3 | t3
            · rcases Bool.eq_false_or_eq_true (decide (q < p)) with t4 | t4
              · have hv := Lib.hid (show crossIn zs ys k (j + 1) = f + 1 by rw [HS.out]; unfold crossed; rw [t1, t3, t4]; simp)
                go_wp2_with fail
                go_quiet (fail)
                have hbq := below_drewN hbi nq
                clear hc1 hc2 hd1 hd2
                go_wp2_with fail
                go_roundw
                case rel => exact ⟨j + 1, by omega, by go_num, by first | (rw [hv.out]; done) | (rw [hv.out]; go_num), by rw [hv.out]; omega, by rw [hv.out]; omega, hbq⟩
                case measure => simp [intOf]; omega
              · have hv := Lib.hid (show crossIn zs ys k (j + 1) = f by rw [HS.out]; unfold crossed; rw [t1, t3, t4]; simp)
                go_wp2_with fail
                go_quiet (fail)
                have hbq := below_drewN hbi nq
                clear hc1 hc2 hd1 hd2
                go_wp2_with fail
                go_roundw
                case rel => exact ⟨j + 1, by omega, by go_num, by first | (rw [hv.out]; done) | (rw [hv.out]; go_num), by rw [hv.out]; omega, by rw [hv.out]; omega, hbq⟩
                case measure => simp [intOf]; omega
            · have hv := Lib.hid (show crossIn zs ys k (j + 1) = f by rw [HS.out]; unfold crossed; rw [t1, t3]; simp)
              go_wp2_with fail
              go_quiet (fail)
              have hbq := below_drewN hbi nq
              clear hc1 hc2 hd1 hd2
              go_wp2_with fail
              go_roundw
              case rel => exact ⟨j + 1, by omega, by go_num, by first | (rw [hv.out]; done) | (rw [hv.out]; go_num), by rw [hv.out]; omega, by rw [hv.out]; omega, hbq⟩
              case measure => simp [intOf]; omega
        · obtain rfl : k = j := by omega
          obtain ⟨f, hf⟩ : ∃ f, f = crossIn zs ys k k := ⟨_, rfl⟩
          rw [← hf] at f0 f1 ⊢
          have HF := Lib.hid hf
          clear hf hr hs hbw
          go_wp2_with fail
          go_roundw
          case rel => exact ⟨k + 1, by omega, by go_num, by rw [hst.out, ← HG.out, ← HF.out], by rw [hst.out, ← HG.out, ← HF.out]; omega, by rw [hst.out, ← HG.out, ← HF.out]; omega, hbi⟩
          case measure => simp [intOf]; omega
    · obtain rfl : n = k := by omega
      have hfin := Lib.hid (ranks_yes (zs := zs) (ys := ys) (a := g) hok.out (by rw [HL.out, ← HG.out]))
      go_wp2_with fail
      go_ret2
      exact ⟨hfin.out, hbw⟩
end Go.Proofs.Ytjngepglbmjagaa
