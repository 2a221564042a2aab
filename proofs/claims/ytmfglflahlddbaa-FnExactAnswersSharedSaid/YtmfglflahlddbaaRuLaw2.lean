/-
  CONTRACTS OF THE LAWS' OWN HELPERS ON RULES, second part: the sizes and the comparison.
-/
import Derived.Test.YtmfglflahlddbaaRuLaw
namespace Go.Proofs.Ytmfglflahlddbaa
open Go.ChangeShapes Go.WideShapes Go.ChangeAt Go.RowKit
set_option linter.unusedVariables false

/-! ### sizes -/
def ifsSum (rs : List Ru) : Nat := (rs.map Ru.n).sum
theorem ifsSum_take {rs : List Ru} {k : Nat} {r : Ru} (h : rs[k]? = some r) : ifsSum (rs.take (k + 1)) = ifsSum (rs.take k) + r.n := by
  unfold ifsSum
  rw [List.take_add_one, h, List.map_append, List.sum_append]; simp
theorem ifsSum_le (rs : List Ru) (k : Nat) : ifsSum (rs.take k) ≤ ifsSum rs := by
  have h : ifsSum rs = ifsSum (rs.take k) + ifsSum (rs.drop k) := by
    unfold ifsSum
    rw [← List.sum_append, ← List.map_append, List.take_append_drop]
  omega
theorem ifsSum_mem {rs : List Ru} {r : Ru} (h : r ∈ rs) : r.n ≤ ifsSum rs := by
  unfold ifsSum
  induction rs with
  | nil => cases h
  | cons a rs ih =>
    rw [List.map_cons, List.sum_cons]
    rcases List.mem_cons.1 h with rfl | h
    · omega
    · have := ih h; omega
theorem szRule_any (hd fr tt rk : Int) (A : Option Addr) (n c : Nat) (k : Int) (w : World) (hk : 0 ≤ k ∧ k ≤ 1048576) (hn : n ≤ 9223372036854775807) :
    Calls Try.prog 17 #[.agg #[.int .i64 hd, .slice A n c, .int .i64 fr, .int .i64 tt, .int .i64 rk], .int .i64 k] w fun e w' => e = .returned (.int .i64 (if k < n then -1 else k - n)) ∧ Below w.heap.size w w' := by
  by_cases h : k < n
  · have HZ := Lib.hid (fun w => szInt64S_any A n c k w hk hn)
    rw [if_pos h] at HZ ⊢
    go_enter Try.func17, Try.ntmps17
    go_wp2_with (go_at_call 18; refine (HZ.out _).mono ?_; rintro e w' ⟨rfl, rfl⟩)
    go_ret
    exact ⟨rfl, (Below.refl _ _).alloc (Nat.le_refl _) _⟩
  · have HZ := Lib.hid (fun w => szInt64S_any A n c k w hk hn)
    rw [if_neg h] at HZ ⊢
    go_enter Try.func17, Try.ntmps17
    go_wp2_with (go_at_call 18; refine (HZ.out _).mono ?_; rintro e w' ⟨rfl, rfl⟩)
    go_ret
    exact ⟨rfl, (Below.refl _ _).alloc (Nat.le_refl _) _⟩
/-- what is left behind a list of rules; below 0: too great -/
def leftOf (k : Int) (rs : List Ru) : Int := if k < rs.length + ifsSum rs then -1 else k - rs.length - ifsSum rs
set_option maxHeartbeats 800000 in
theorem szRuleS_any (A : Option Addr) (m c : Nat) (rs : List Ru) (k0 : Int) (w : World) (hr : RRd w w.heap.size A m rs) (hk : 0 ≤ k0 ∧ k0 ≤ 1048576) (hm : m ≤ 9223372036854775807) (hn : ∀ r ∈ rs, r.n ≤ 9223372036854775807) :
    Calls Try.prog 4 #[.slice A m c, .int .i64 k0] w fun e w' => e = .returned (.int .i64 (leftOf k0 rs)) ∧ Below w.heap.size w w' := by
  have HL := Lib.hid hr.len
  have HN := Lib.hid hn
  clear hn
  by_cases h0 : k0 < m
  · have hfin := Lib.hid (show leftOf k0 rs = -1 by unfold leftOf; rw [if_pos (by have := HL.out; omega)])
    go_enter Try.func4, Try.ntmps4
    go_wp2
    go_ret
    exact ⟨by rw [hfin.out]; rfl, Below.refl _ _⟩
  · go_enter Try.func4, Try.ntmps4
    go_wp2
    go_loopw [1, 5] (fun q i wr => ∃ k : Nat, k ≤ m ∧ i = .int .i64 k ∧ q = .int .i64 (k0 - m - ifsSum (rs.take k)) ∧ (ifsSum (rs.take k) : Int) ≤ k0 - m ∧ Below w.heap.size w wr) (fun _ i _ => m - (intOf i).toNat)
    case atStart => exact ⟨0, Nat.zero_le _, rfl, by simp [ifsSum], by simp [ifsSum]; omega, Below.refl _ _⟩
    case round =>
      obtain ⟨k, hk', rfl, rfl, hle, hb⟩ := hrel
      by_cases hlt : k < m
      · obtain ⟨ad, r, rfl, _, hr', hc0, hc1, hc2, hc3, hc4, _⟩ := (hr.below hb).row hlt
        have hrn := HN.out r (List.mem_of_getElem? hr')
        have hs := ifsSum_take hr'
        have hl2 := ifsSum_le rs (k + 1)
        obtain ⟨s, hs2⟩ : ∃ s, s = ifsSum (rs.take k) := ⟨_, rfl⟩
        rw [← hs2] at hs hle ⊢
        have HS := Lib.hid hs
        obtain ⟨q, hq⟩ : ∃ q : Int, q = k0 - m - s := ⟨_, rfl⟩
        have hq0 : 0 ≤ q ∧ q ≤ 1048576 := by omega
        rw [← hq]
        have HQ := Lib.hid hq
        obtain ⟨hd, fr, tt, rk, Ai, ni, ci, ifs⟩ := r
        dsimp only at hc0 hc1 hc2 hc3 hc4 hrn HS hr'
        by_cases hlt2 : q < ni
        · have hz : (fun w => szRule_any hd fr tt rk Ai ni ci q w hq0 hrn) = (fun w => szRule_any hd fr tt rk Ai ni ci q w hq0 hrn) := rfl
          have HZ := Lib.hid (fun w => szRule_any hd fr tt rk Ai ni ci q w hq0 hrn)
          rw [if_pos hlt2] at HZ
          have hfin := Lib.hid (show leftOf k0 rs = -1 by
            unfold leftOf
            rw [if_pos (by have := HL.out; have := HS.out; have := HQ.out; omega)])
          clear hr hr' hs hl2 hs2 hq hle hz
          go_wp2_with (go_at_call 17; refine (HZ.out _).mono ?_; rintro e w2 ⟨rfl, hb2⟩)
          go_ret
          exact ⟨by rw [hfin.out]; rfl, below_step hb hb2⟩
        · have HZ := Lib.hid (fun w => szRule_any hd fr tt rk Ai ni ci q w hq0 hrn)
          rw [if_neg hlt2] at HZ
          clear hr hr' hs hl2 hs2 hq hle
          go_wp2_with (go_at_call 17; refine (HZ.out _).mono ?_; rintro e w2 ⟨rfl, hb2⟩)
          go_roundw
          case rel => exact ⟨k + 1, by omega, by go_num, int_eq (by have := HS.out; have := HQ.out; omega), by have := HS.out; have := HQ.out; omega, below_step hb hb2⟩
          case measure => simp [intOf]; omega
      · obtain rfl : m = k := by omega
        have ht := Lib.hid (show rs.take m = rs from List.take_of_length_le (by have := HL.out; omega))
        have hfin := Lib.hid (show leftOf k0 rs = k0 - m - ifsSum (rs.take m) by
          unfold leftOf
          rw [ht.out] at hle ⊢
          rw [if_neg (by have := HL.out; omega), HL.out])
        clear hr
        go_wp2
        go_ret
        exact ⟨by rw [hfin.out]; rfl, hb⟩

/-! ### equal rules -/
set_option maxHeartbeats 800000 in
theorem eqRule_yes (hd fr tt rk : Int) (A B : Option Addr) (n c d : Nat) (ifs : List Int) (w : World) (hr : Rd w w.heap.size 1 A n (ints ifs)) (hs : Rd w w.heap.size 1 B n (ints ifs)) (hn : n ≤ 2097152) :
    Calls Try.prog 34 #[.agg #[.int .i64 hd, .slice A n c, .int .i64 fr, .int .i64 tt, .int .i64 rk], .agg #[.int .i64 hd, .slice B n d, .int .i64 fr, .int .i64 tt, .int .i64 rk]] w fun e w' => e = .returned (.bool true) ∧ Below w.heap.size w w' := by
  go_enter Try.func34, Try.ntmps34
  go_wp2_with fail
  refine (eqInt64S_yes _ _ _ _ _ ifs _ (((hr.alloc (Nat.le_refl _) _).alloc (by simp) _).more (by simp; omega)) (((hs.alloc (Nat.le_refl _) _).alloc (by simp) _).more (by simp; omega)) hn).mono ?_
  rintro e w1 ⟨rfl, hb⟩
  obtain ⟨hc, hf⟩ := bcell hb
  have hz : w.heap.size + 1 < w1.heap.size := by have := hb.size; simp at this; omega
  have HB := Lib.hid hb
  clear hb hr hs
  go_wp2_with fail
  go_ret
  exact ⟨rfl, (((Below.refl _ _).alloc (Nat.le_refl _) _).alloc (by simp) _).trans (HB.out.mono (by simp; omega))⟩
set_option maxHeartbeats 1600000 in
theorem eqRuleS_yes (A B : Option Addr) (m c d : Nat) (rs ss : List Ru) (w : World) (hr : RRd w w.heap.size A m rs) (hs : RRd w w.heap.size B m ss) (hd : rs.map Ru.dat = ss.map Ru.dat) (hm : m ≤ 2097152) (hn : ∀ r ∈ rs, r.n ≤ 2097152) :
    Calls Try.prog 11 #[.slice A m c, .slice B m d] w fun e w' => e = .returned (.bool true) ∧ Below w.heap.size w w' := by
  have HN := Lib.hid hn
  have HD := Lib.hid hd
  clear hn hd
  go_enter Try.func11, Try.ntmps11
  go_wp2
  go_loopw [5] (fun i wr => ∃ k : Nat, k ≤ m ∧ i = .int .i64 k ∧ Below w.heap.size w wr) (fun i _ => m - (intOf i).toNat)
  case atStart => exact ⟨0, Nat.zero_le _, rfl, Below.refl _ _⟩
  case round =>
    obtain ⟨k, hk, rfl, hb⟩ := hrel
    by_cases hlt : k < m
    · obtain ⟨ad, r, rfl, ka, hr', hc0, hc1, hc2, hc3, hc4, hri⟩ := (hr.below hb).row hlt
      obtain ⟨ae, s, rfl, kb, hs', hd0, hd1, hd2, hd3, hd4, hsi⟩ := (hs.below hb).row hlt
      have hrn := HN.out r (List.mem_of_getElem? hr')
      have hdat : r.dat = s.dat := by
        have h1 : (rs.map Ru.dat)[k]? = some r.dat := by rw [List.getElem?_map, hr']; rfl
        have h2 : (ss.map Ru.dat)[k]? = some s.dat := by rw [List.getElem?_map, hs']; rfl
        rw [HD.out, h2] at h1
        exact (Option.some.inj h1).symm
      obtain ⟨hd, fr, tt, rk, Ai, ni, ci, ifs⟩ := r
      obtain ⟨hd', fr', tt', rk', Bi, mi, di, jfs⟩ := s
      simp only [Ru.dat, Rl.mk.injEq] at hdat
      obtain ⟨rfl, rfl, rfl, rfl, rfl⟩ := hdat
      dsimp only at hc0 hc1 hc2 hc3 hc4 hd0 hd1 hd2 hd3 hd4 hri hsi hrn
      obtain rfl : ni = mi := by have := hri.ilen; have := hsi.ilen; omega
      have hsz := hb.size
      have q1 : (ad.add (k * 5)).block < wr.heap.size := by rw [add_block]; omega
      have q2 : (ae.add (k * 5)).block < wr.heap.size := by rw [add_block]; omega
      have HRI := Lib.hid (hri.more hsz)
      have HSI := Lib.hid (hsi.more hsz)
      have hz : (0 : Int) ≤ k := by omega
      have hlt' : (k : Int) < m := by omega
      have KEEP := Lib.hid (fun (w' : World) (h : Below wr.heap.size wr w') => show (fun w' => w'.cell? (ad.add (k * 5)) = some (.int .i64 hd) ∧ w'.cell? { block := (ad.add (k * 5)).block, off := (ad.add (k * 5)).off + 1 } = some (.slice Ai ni ci) ∧ w'.cell? { block := (ad.add (k * 5)).block, off := (ad.add (k * 5)).off + 2 } = some (.int .i64 fr) ∧ w'.cell? { block := (ad.add (k * 5)).block, off := (ad.add (k * 5)).off + 3 } = some (.int .i64 tt) ∧ w'.cell? { block := (ad.add (k * 5)).block, off := (ad.add (k * 5)).off + 4 } = some (.int .i64 rk) ∧ w'.cell? (ae.add (k * 5)) = some (.int .i64 hd) ∧ w'.cell? { block := (ae.add (k * 5)).block, off := (ae.add (k * 5)).off + 1 } = some (.slice Bi ni di) ∧ w'.cell? { block := (ae.add (k * 5)).block, off := (ae.add (k * 5)).off + 2 } = some (.int .i64 fr) ∧ w'.cell? { block := (ae.add (k * 5)).block, off := (ae.add (k * 5)).off + 3 } = some (.int .i64 tt) ∧ w'.cell? { block := (ae.add (k * 5)).block, off := (ae.add (k * 5)).off + 4 } = some (.int .i64 rk)) w' from
        ⟨(h.cell q1).trans hc0, (h.cell (p := { block := (ad.add (k * 5)).block, off := (ad.add (k * 5)).off + 1 }) q1).trans hc1, (h.cell (p := { block := (ad.add (k * 5)).block, off := (ad.add (k * 5)).off + 2 }) q1).trans hc2, (h.cell (p := { block := (ad.add (k * 5)).block, off := (ad.add (k * 5)).off + 3 }) q1).trans hc3, (h.cell (p := { block := (ad.add (k * 5)).block, off := (ad.add (k * 5)).off + 4 }) q1).trans hc4,
         (h.cell q2).trans hd0, (h.cell (p := { block := (ae.add (k * 5)).block, off := (ae.add (k * 5)).off + 1 }) q2).trans hd1, (h.cell (p := { block := (ae.add (k * 5)).block, off := (ae.add (k * 5)).off + 2 }) q2).trans hd2, (h.cell (p := { block := (ae.add (k * 5)).block, off := (ae.add (k * 5)).off + 3 }) q2).trans hd3, (h.cell (p := { block := (ae.add (k * 5)).block, off := (ae.add (k * 5)).off + 4 }) q2).trans hd4⟩)
      clear hr hs hr' hs' hri hsi q1 q2 ka kb hsz
      go_wp2
      go_region_held3 (fun w' => w'.cell? (ad.add (k * 5)) = some (.int .i64 hd) ∧ w'.cell? { block := (ad.add (k * 5)).block, off := (ad.add (k * 5)).off + 1 } = some (.slice Ai ni ci) ∧ w'.cell? { block := (ad.add (k * 5)).block, off := (ad.add (k * 5)).off + 2 } = some (.int .i64 fr) ∧ w'.cell? { block := (ad.add (k * 5)).block, off := (ad.add (k * 5)).off + 3 } = some (.int .i64 tt) ∧ w'.cell? { block := (ad.add (k * 5)).block, off := (ad.add (k * 5)).off + 4 } = some (.int .i64 rk) ∧ w'.cell? (ae.add (k * 5)) = some (.int .i64 hd) ∧ w'.cell? { block := (ae.add (k * 5)).block, off := (ae.add (k * 5)).off + 1 } = some (.slice Bi ni di) ∧ w'.cell? { block := (ae.add (k * 5)).block, off := (ae.add (k * 5)).off + 2 } = some (.int .i64 fr) ∧ w'.cell? { block := (ae.add (k * 5)).block, off := (ae.add (k * 5)).off + 3 } = some (.int .i64 tt) ∧ w'.cell? { block := (ae.add (k * 5)).block, off := (ae.add (k * 5)).off + 4 } = some (.int .i64 rk))
        (first | go_keep | exact KEEP.out _ ⟨hb2.os, hb2.tape, hb2.output, hb2.size, hb2.block⟩)
        (first | (go_at_call 34; refine (eqRule_yes _ _ _ _ _ _ _ _ _ ifs _ HRI.out.drew HSI.out.drew hrn).mono ?_; rintro e w' ⟨rfl, hb2⟩))
      go_wp2_with fail
      exact ⟨⟨k + 1, by omega, by go_num, below_step (below_drewN hb 1) hb2⟩, by simp [intOf]; omega⟩
    · go_wp2
      go_ret
      exact ⟨rfl, hb⟩
end Go.Proofs.Ytmfglflahlddbaa
