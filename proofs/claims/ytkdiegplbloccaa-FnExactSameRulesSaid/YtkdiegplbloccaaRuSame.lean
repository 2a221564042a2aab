/-
  SameRules: what the program's and the reference's functions return.
-/
import Derived.Test.YtkdiegplbloccaaRuAre
namespace Go.Proofs.Ytkdiegplbloccaa
open Go.ChangeShapes Go.WideShapes Go.ChangeAt Go.RowKit
set_option linter.unusedVariables false
set_option linter.unusedSimpArgs false

theorem take_eq_more {zs ys : List Int} {k : Nat} (h : zs.take k = ys.take k) (h1 : k < zs.length) (h2 : k < ys.length) (he : zs[k]?.getD 0 = ys[k]?.getD 0) : zs.take (k + 1) = ys.take (k + 1) := by
  rw [List.take_add_one, List.take_add_one, h]
  rw [List.getElem?_eq_getElem h1, List.getElem?_eq_getElem h2] at he ⊢
  simp at he
  rw [he]
set_option maxHeartbeats 1600000 in
theorem equalI_any (A B : Option Addr) (n m c d : Nat) (zs ys : List Int) (w : World) (hr : Rd w w.heap.size 1 A n (ints zs)) (hs : Rd w w.heap.size 1 B m (ints ys)) (hn : n ≤ 1048576) (hm : m ≤ 1048576) :
    Calls Try.prog 113 #[.slice A n c, .slice B m d] w fun e w' => e = .returned (.bool (zs == ys)) ∧ ∃ k, w' = w.drewN k := by
  have HL := Lib.hid hr.ilen
  have HM := Lib.hid hs.ilen
  by_cases hnm : n = m
  case neg =>
    have hfin := Lib.hid (show (zs == ys) = false by
      rw [beq_eq_false_iff_ne]; rintro rfl; exact hnm (HL.out.symm.trans HM.out))
    go_enter Try.func113, Try.ntmps113
    go_wp2
    go_ret
    exact ⟨by rw [hfin.out]; rfl, 0, rfl⟩
  subst hnm
  go_enter Try.func113, Try.ntmps113
  go_wp2
  go_loopw [5, 13] (fun _ i wr => ∃ k : Nat, k ≤ n ∧ i = .int .i64 k ∧ zs.take k = ys.take k ∧ ∃ j, wr = w.drewN j) (fun _ i _ => n - (intOf i).toNat)
  case atStart => exact ⟨0, Nat.zero_le _, rfl, rfl, 0, rfl⟩
  case round =>
    obtain ⟨k, hk, rfl, ha, j, rfl⟩ := hrel
    have HA := Lib.hid ha
    clear ha
    by_cases hlt : k < n
    · obtain ⟨ad, rfl, hc⟩ := hr.int hlt
      obtain ⟨ae, rfl, hd⟩ := hs.int hlt
      have hk' : (0 : Int) ≤ k := by omega
      have hlt' : (k : Int) < n := by omega
      obtain ⟨x, hx⟩ : ∃ x, x = zs[k]?.getD 0 := ⟨_, rfl⟩
      obtain ⟨y, hy⟩ : ∃ y, y = ys[k]?.getD 0 := ⟨_, rfl⟩
      rw [← hx] at hc
      rw [← hy] at hd
      have HX := Lib.hid hx
      have HY := Lib.hid hy
      clear hx hy hr hs
      by_cases he : x = y
      · subst he
        have hfin := Lib.hid (take_eq_more HA.out (by have := HL.out; omega) (by have := HM.out; omega) (HX.out.symm.trans HY.out))
        go_wp2
        go_quiet (fail)
        go_wp2
        go_roundw
        case rel => exact ⟨k + 1, by omega, by go_num, hfin.out, _, rfl⟩
        case measure => simp [intOf]; omega
      · have hfin := Lib.hid (show (zs == ys) = false by
          rw [beq_eq_false_iff_ne]; rintro rfl; exact he (HX.out.trans HY.out.symm))
        go_wp2
        go_quiet (fail)
        go_wp2
        go_ret
        exact ⟨by rw [hfin.out]; rfl, drewN_more ⟨j, rfl⟩ _⟩
    · obtain rfl : n = k := by omega
      have hfin := Lib.hid (show (zs == ys) = true by
        have h1 := HA.out
        rw [List.take_of_length_le (by have := HL.out; omega), List.take_of_length_le (by have := HM.out; omega)] at h1
        rw [h1]; simp)
      clear hr hs
      go_wp2
      go_ret
      exact ⟨by rw [hfin.out]; rfl, j, rfl⟩
set_option maxHeartbeats 1600000 in
theorem l00Same_any (A B : Option Addr) (n m c d : Nat) (zs ys : List Int) (w : World) (hr : Rd w w.heap.size 1 A n (ints zs)) (hs : Rd w w.heap.size 1 B m (ints ys)) (hn : n ≤ 1048576) (hm : m ≤ 1048576) :
    Calls Try.prog 74 #[.slice A n c, .slice B m d] w fun e w' => e = .returned (.bool (zs == ys)) ∧ ∃ k, w' = w.drewN k := by
  have HL := Lib.hid hr.ilen
  have HM := Lib.hid hs.ilen
  by_cases hnm : n = m
  case neg =>
    have hfin := Lib.hid (show (zs == ys) = false by
      rw [beq_eq_false_iff_ne]; rintro rfl; exact hnm (HL.out.symm.trans HM.out))
    go_enter Try.func74, Try.ntmps74
    go_wp2
    go_ret
    exact ⟨by rw [hfin.out]; rfl, 0, rfl⟩
  subst hnm
  go_enter Try.func74, Try.ntmps74
  go_wp2
  go_loopw [5] (fun i wr => ∃ k : Nat, k ≤ n ∧ i = .int .i64 k ∧ zs.take k = ys.take k ∧ ∃ j, wr = w.drewN j) (fun i _ => n - (intOf i).toNat)
  case atStart => exact ⟨0, Nat.zero_le _, rfl, rfl, 0, rfl⟩
  case round =>
    obtain ⟨k, hk, rfl, ha, j, rfl⟩ := hrel
    have HA := Lib.hid ha
    clear ha
    by_cases hlt : k < n
    · obtain ⟨ad, rfl, hc⟩ := hr.int hlt
      obtain ⟨ae, rfl, hd⟩ := hs.int hlt
      have hk' : (0 : Int) ≤ k := by omega
      have hlt' : (k : Int) < n := by omega
      obtain ⟨x, hx⟩ : ∃ x, x = zs[k]?.getD 0 := ⟨_, rfl⟩
      obtain ⟨y, hy⟩ : ∃ y, y = ys[k]?.getD 0 := ⟨_, rfl⟩
      rw [← hx] at hc
      rw [← hy] at hd
      have HX := Lib.hid hx
      have HY := Lib.hid hy
      clear hx hy hr hs
      by_cases he : x = y
      · subst he
        have hfin := Lib.hid (take_eq_more HA.out (by have := HL.out; omega) (by have := HM.out; omega) (HX.out.symm.trans HY.out))
        go_wp2
        go_quiet (fail)
        go_wp2
        go_roundw
        case rel => exact ⟨k + 1, by omega, by go_num, hfin.out, _, rfl⟩
        case measure => simp [intOf]; omega
      · have hfin := Lib.hid (show (zs == ys) = false by
          rw [beq_eq_false_iff_ne]; rintro rfl; exact he (HX.out.trans HY.out.symm))
        go_wp2
        go_quiet (fail)
        go_wp2
        go_ret
        exact ⟨by rw [hfin.out]; rfl, drewN_more ⟨j, rfl⟩ _⟩
    · obtain rfl : n = k := by omega
      have hfin := Lib.hid (show (zs == ys) = true by
        have h1 := HA.out
        rw [List.take_of_length_le (by have := HL.out; omega), List.take_of_length_le (by have := HM.out; omega)] at h1
        rw [h1]; simp)
      clear hr hs
      go_wp2
      go_ret
      exact ⟨by rw [hfin.out]; rfl, j, rfl⟩
theorem below_two (w : World) (a b : Go.Obj) : Below w.heap.size w ((w.alloc a).alloc b) := ((Below.refl _ _).alloc (Nat.le_refl _) _).alloc (by simp) _
theorem below_two_drew (w : World) (a b : Go.Obj) (j : Nat) : Below w.heap.size w (((w.alloc a).alloc b).drewN j) := below_drewN (below_two w a b) j
def sameD (a b : Rl) : Bool := (a.hd == b.hd) && ((a.ifs == b.ifs) && ((a.fr == b.fr) && ((a.tt == b.tt) && (a.rk == b.rk))))
theorem sameD_iff {a b : Rl} : sameD a b = true ↔ a = b := by
  obtain ⟨h, i, f, t, k⟩ := a
  obtain ⟨h', i', f', t', k'⟩ := b
  simp [sameD]
noncomputable def SameRules_r0 (xs ys : List Rl) : Bool := @decide (xs = ys) (Classical.propDecidable _)
theorem same_no {xs ys : List Rl} (h : xs ≠ ys) : SameRules_r0 xs ys = false := by unfold SameRules_r0; simpa using h
theorem same_at {rs ss : List Ru} {k : Nat} {r s : Ru} (h1 : rs[k]? = some r) (h2 : ss[k]? = some s) (h : sameD r.dat s.dat = false) : SameRules_r0 (rs.map Ru.dat) (ss.map Ru.dat) = false := by
  refine same_no fun e => ?_
  have e1 : (rs.map Ru.dat)[k]? = some r.dat := by rw [List.getElem?_map, h1]; rfl
  have e2 : (ss.map Ru.dat)[k]? = some s.dat := by rw [List.getElem?_map, h2]; rfl
  rw [e, e2] at e1
  rw [sameD_iff.2 (Option.some.inj e1).symm] at h
  cases h
theorem same_more {rs ss : List Ru} {k : Nat} {r s : Ru} (h : (rs.take k).map Ru.dat = (ss.take k).map Ru.dat) (h1 : rs[k]? = some r) (h2 : ss[k]? = some s) (he : sameD r.dat s.dat = true) : (rs.take (k + 1)).map Ru.dat = (ss.take (k + 1)).map Ru.dat := by
  rw [take_more h1, take_more h2, List.map_append, List.map_append, h, List.map_cons, List.map_cons, sameD_iff.1 he]
theorem same_end {rs ss : List Ru} {k : Nat} (h : (rs.take k).map Ru.dat = (ss.take k).map Ru.dat) (h1 : rs.length = k) (h2 : ss.length = k) : SameRules_r0 (rs.map Ru.dat) (ss.map Ru.dat) = true := by
  rw [List.take_of_length_le (by omega), List.take_of_length_le (by omega)] at h
  unfold SameRules_r0; simp [h]
theorem equalI_is {b : Bool} (A B : Option Addr) (n m c d : Nat) (zs ys : List Int) (w : World) (hr : Rd w w.heap.size 1 A n (ints zs)) (hs : Rd w w.heap.size 1 B m (ints ys)) (hn : n ≤ 1048576) (hm : m ≤ 1048576) (h : (zs == ys) = b) :
    Calls Try.prog 113 #[.slice A n c, .slice B m d] w fun e w' => e = .returned (.bool b) ∧ ∃ k, w' = w.drewN k := by
  subst h; exact equalI_any A B n m c d zs ys w hr hs hn hm
theorem l00Same_is {b : Bool} (A B : Option Addr) (n m c d : Nat) (zs ys : List Int) (w : World) (hr : Rd w w.heap.size 1 A n (ints zs)) (hs : Rd w w.heap.size 1 B m (ints ys)) (hn : n ≤ 1048576) (hm : m ≤ 1048576) (h : (zs == ys) = b) :
    Calls Try.prog 74 #[.slice A n c, .slice B m d] w fun e w' => e = .returned (.bool b) ∧ ∃ k, w' = w.drewN k := by
  subst h; exact l00Same_any A B n m c d zs ys w hr hs hn hm
set_option maxHeartbeats 3200000 in
theorem sameRule_any (hd fr tt rk hd' fr' tt' rk' : Int) (A B : Option Addr) (n c m d : Nat) (ifs jfs : List Int) (w : World) (hr : Rd w w.heap.size 1 A n (ints ifs)) (hs : Rd w w.heap.size 1 B m (ints jfs)) (hn : n ≤ 1048576) (hm : m ≤ 1048576) :
    Calls Try.prog 76 #[.agg #[.int .i64 hd, .slice A n c, .int .i64 fr, .int .i64 tt, .int .i64 rk], .agg #[.int .i64 hd', .slice B m d, .int .i64 fr', .int .i64 tt', .int .i64 rk']] w fun e w' =>
      e = .returned (.bool (sameD ⟨hd, ifs, fr, tt, rk⟩ ⟨hd', jfs, fr', tt', rk'⟩)) ∧ Below w.heap.size w w' := by
  have HR := Lib.hid hr
  have HS := Lib.hid hs
  clear hr hs
  have HB := Lib.hid (fun (v1 v2 : List Value) (k : Nat) => show True from trivial)
  cases h2 : (ifs == jfs)
  · have hfin := Lib.hid (show sameD ⟨hd, ifs, fr, tt, rk⟩ ⟨hd', jfs, fr', tt', rk'⟩ = false by simp [sameD, h2])
    by_cases h1 : hd = hd'
    case neg =>
      go_enter Try.func76, Try.ntmps76
      go_wp2
      go_ret
      exact ⟨by rw [hfin.out]; rfl, below_two _ _ _⟩
    subst h1
    go_enter Try.func76, Try.ntmps76
    go_wp2_with (go_at_call 113; refine (equalI_is _ _ _ _ _ _ ifs jfs _ (((HR.out.alloc (Nat.le_refl _) _).alloc (by simp) _).more (by simp; omega)) (((HS.out.alloc (Nat.le_refl _) _).alloc (by simp) _).more (by simp; omega)) hn hm h2).mono ?_; rintro e w' ⟨rfl, j, rfl⟩)
    go_ret
    exact ⟨by rw [hfin.out]; rfl, (below_two_drew _ _ _ _)⟩
  by_cases h1 : hd = hd'
  case neg =>
    have hfin := Lib.hid (show sameD ⟨hd, ifs, fr, tt, rk⟩ ⟨hd', jfs, fr', tt', rk'⟩ = false by simp [sameD, h1])
    go_enter Try.func76, Try.ntmps76
    go_wp2
    go_ret
    exact ⟨by rw [hfin.out]; rfl, below_two _ _ _⟩
  subst h1
  by_cases h3 : fr = fr'
  case neg =>
    have hfin := Lib.hid (show sameD ⟨hd, ifs, fr, tt, rk⟩ ⟨hd, jfs, fr', tt', rk'⟩ = false by simp [sameD, h3])
    go_enter Try.func76, Try.ntmps76
    go_wp2_with (go_at_call 113; refine (equalI_is _ _ _ _ _ _ ifs jfs _ (((HR.out.alloc (Nat.le_refl _) _).alloc (by simp) _).more (by simp; omega)) (((HS.out.alloc (Nat.le_refl _) _).alloc (by simp) _).more (by simp; omega)) hn hm h2).mono ?_; rintro e w' ⟨rfl, j, rfl⟩)
    go_ret
    exact ⟨by rw [hfin.out]; rfl, (below_two_drew _ _ _ _)⟩
  subst h3
  by_cases h4 : tt = tt'
  case neg =>
    have hfin := Lib.hid (show sameD ⟨hd, ifs, fr, tt, rk⟩ ⟨hd, jfs, fr, tt', rk'⟩ = false by simp [sameD, h4])
    go_enter Try.func76, Try.ntmps76
    go_wp2_with (go_at_call 113; refine (equalI_is _ _ _ _ _ _ ifs jfs _ (((HR.out.alloc (Nat.le_refl _) _).alloc (by simp) _).more (by simp; omega)) (((HS.out.alloc (Nat.le_refl _) _).alloc (by simp) _).more (by simp; omega)) hn hm h2).mono ?_; rintro e w' ⟨rfl, j, rfl⟩)
    go_ret
    exact ⟨by rw [hfin.out]; rfl, (below_two_drew _ _ _ _)⟩
  subst h4
  have hfin := Lib.hid (show sameD ⟨hd, ifs, fr, tt, rk⟩ ⟨hd, jfs, fr, tt, rk'⟩ = (rk == rk') by simp only [sameD, h2]; simp)
  by_cases h5 : True
  case neg => exact absurd trivial h5
  case pos =>
    go_enter Try.func76, Try.ntmps76
    go_wp2_with (go_at_call 113; refine (equalI_is _ _ _ _ _ _ ifs jfs _ (((HR.out.alloc (Nat.le_refl _) _).alloc (by simp) _).more (by simp; omega)) (((HS.out.alloc (Nat.le_refl _) _).alloc (by simp) _).more (by simp; omega)) hn hm h2).mono ?_; rintro e w' ⟨rfl, j, rfl⟩)
    go_ret
    exact ⟨by rw [hfin.out]; rfl, (below_two_drew _ _ _ _)⟩
set_option maxHeartbeats 1600000 in
theorem equalRs_any (A B : Option Addr) (n m c d : Nat) (rs ss : List Ru) (w : World) (hr : RRd w w.heap.size A n rs) (hs : RRd w w.heap.size B m ss) (hn : n ≤ 1048576) (hm : m ≤ 1048576) (hB : RuN rs) (hC : RuN ss) :
    Calls Try.prog 75 #[.slice A n c, .slice B m d, .func (.func 76) #[] #[]] w fun e w' => e = .returned (.bool (SameRules_r0 (rs.map Ru.dat) (ss.map Ru.dat))) ∧ Below w.heap.size w w' := by
  have HL := Lib.hid hr.len
  have HM := Lib.hid hs.len
  have HN := Lib.hid hB
  have HC := Lib.hid hC
  clear hB hC
  by_cases hnm : n = m
  case neg =>
    have hfin := Lib.hid (show SameRules_r0 (rs.map Ru.dat) (ss.map Ru.dat) = false from same_no fun e => hnm (by
      have := congrArg List.length e
      rw [List.length_map, List.length_map] at this
      rw [← HL.out, ← HM.out, this]))
    go_enter Try.func75, Try.ntmps75
    go_wp2
    go_ret
    exact ⟨by rw [hfin.out]; rfl, Below.refl _ _⟩
  subst hnm
  go_enter Try.func75, Try.ntmps75
  go_wp2
  go_loopw [7, 8, 9, 17] (fun _ _ _ i wr => ∃ k : Nat, k ≤ n ∧ i = .int .i64 k ∧ (rs.take k).map Ru.dat = (ss.take k).map Ru.dat ∧ Below w.heap.size w wr) (fun _ _ _ i _ => n - (intOf i).toNat)
  case atStart => exact ⟨0, Nat.zero_le _, rfl, rfl, Below.refl _ _⟩
  case round =>
    obtain ⟨k, hk, rfl, ha, hb⟩ := hrel
    have HA := Lib.hid ha
    clear ha
    by_cases hlt : k < n
    · obtain ⟨ad, r, rfl, ka, hr', hc0, hc1, hc2, hc3, hc4, hri⟩ := (hr.below hb).row hlt
      obtain ⟨ae, s, rfl, kb, hs', hd0, hd1, hd2, hd3, hd4, hsi⟩ := (hs.below hb).row hlt
      have q1 := (HN.out r (List.mem_of_getElem? hr')).1
      have q2 := (HC.out s (List.mem_of_getElem? hs')).1
      have HK := Lib.hid hr'
      have HJ := Lib.hid hs'
      have HRI := Lib.hid (hri.more hb.size)
      have HSI := Lib.hid (hsi.more hb.size)
      have HB := Lib.hid hb
      have ka' : (ad.add (k * 5)).block < wr.heap.size := by rw [add_block]; exact Nat.lt_of_lt_of_le ka hb.size
      have kb' : (ae.add (k * 5)).block < wr.heap.size := by rw [add_block]; exact Nat.lt_of_lt_of_le kb hb.size
      clear hr' hs' hri hsi hr hs hb ka kb
      cases hv : sameD r.dat s.dat
      · have hfin := Lib.hid (same_at HK.out HJ.out hv)
        obtain ⟨hd, fr, tt, rk, Ai, ni, ci, ifs⟩ := r
        obtain ⟨hd', fr', tt', rk', Bi, mi, di, jfs⟩ := s
        dsimp only at hc0 hc1 hc2 hc3 hc4 hd0 hd1 hd2 hd3 hd4 q1 q2 HRI HSI
        have hv' : sameD ⟨hd, ifs, fr, tt, rk⟩ ⟨hd', jfs, fr', tt', rk'⟩ = false := hv
        clear HK HJ hv
        go_wp2_with (go_at_call 76; refine (sameRule_any _ _ _ _ _ _ _ _ _ _ _ _ _ _ ifs jfs _ (((HRI.out.alloc (Nat.le_refl _) _).alloc (by simp) _).more (by simp; omega)) (((HSI.out.alloc (Nat.le_refl _) _).alloc (by simp) _).more (by simp; omega)) q1 q2).mono ?_; rintro e w' ⟨rfl, hb2⟩)
        go_ret
        exact ⟨by rw [hfin.out]; rfl, below_step (below_step HB.out (below_two _ _ _)) hb2⟩
      · have hfin := Lib.hid (same_more HA.out HK.out HJ.out hv)
        obtain ⟨hd, fr, tt, rk, Ai, ni, ci, ifs⟩ := r
        obtain ⟨hd', fr', tt', rk', Bi, mi, di, jfs⟩ := s
        dsimp only at hc0 hc1 hc2 hc3 hc4 hd0 hd1 hd2 hd3 hd4 q1 q2 HRI HSI
        have hv' : sameD ⟨hd, ifs, fr, tt, rk⟩ ⟨hd', jfs, fr', tt', rk'⟩ = true := hv
        clear HK HJ hv
        go_wp2_with (go_at_call 76; refine (sameRule_any _ _ _ _ _ _ _ _ _ _ _ _ _ _ ifs jfs _ (((HRI.out.alloc (Nat.le_refl _) _).alloc (by simp) _).more (by simp; omega)) (((HSI.out.alloc (Nat.le_refl _) _).alloc (by simp) _).more (by simp; omega)) q1 q2).mono ?_; rintro e w' ⟨rfl, hb2⟩)
        go_roundw
        case rel => exact ⟨k + 1, by omega, by go_num, hfin.out, below_step (below_step HB.out (below_two _ _ _)) hb2⟩
        case measure => simp [intOf]; omega
    · obtain rfl : n = k := by omega
      have hfin := Lib.hid (same_end HA.out HL.out HM.out)
      clear hr hs
      go_wp2
      go_ret
      exact ⟨by rw [hfin.out]; rfl, hb⟩
set_option maxHeartbeats 6400000 in
set_option maxRecDepth 100000 in
theorem spec_same_any (A B : Option Addr) (n m c d : Nat) (rs ss : List Ru) (w : World) (hr : RRd w w.heap.size A n rs) (hs : RRd w w.heap.size B m ss) (hn : n ≤ 1048576) (hm : m ≤ 1048576) (hB : RuN rs) (hC : RuN ss) :
    Calls Try.prog 32 #[.slice A n c, .slice B m d] w fun e w' => e = .returned (.bool (SameRules_r0 (rs.map Ru.dat) (ss.map Ru.dat))) ∧ ∃ j, w' = w.drewN j := by
  have HL := Lib.hid hr.len
  have HM := Lib.hid hs.len
  have HN := Lib.hid hB
  have HC := Lib.hid hC
  clear hB hC
  by_cases hnm : n = m
  case neg =>
    have hfin := Lib.hid (show SameRules_r0 (rs.map Ru.dat) (ss.map Ru.dat) = false from same_no fun e => hnm (by
      have := congrArg List.length e
      rw [List.length_map, List.length_map] at this
      rw [← HL.out, ← HM.out, this]))
    go_enter Try.func32, Try.ntmps32
    go_wp2
    go_ret
    exact ⟨by rw [hfin.out]; rfl, 0, rfl⟩
  subst hnm
  go_enter Try.func32, Try.ntmps32
  go_wp2
  go_loopw [5, 13] (fun _ i wr => ∃ k : Nat, k ≤ n ∧ i = .int .i64 k ∧ (rs.take k).map Ru.dat = (ss.take k).map Ru.dat ∧ ∃ j, wr = w.drewN j) (fun _ i _ => n - (intOf i).toNat)
  case atStart => exact ⟨0, Nat.zero_le _, rfl, rfl, 0, rfl⟩
  case round =>
    obtain ⟨k, hk, rfl, ha, hwr⟩ := hrel
    have HA := Lib.hid ha
    have hr2 : RRd wr wr.heap.size A n rs := by obtain ⟨j, rfl⟩ := hwr; exact hr.drewN j
    have hs2 : RRd wr wr.heap.size B n ss := by obtain ⟨j, rfl⟩ := hwr; exact hs.drewN j
    have HW := Lib.hid hwr
    clear ha hr hs hwr
    by_cases hlt : k < n
    · obtain ⟨ad, r, rfl, ka, hr', hc0, hc1, hc2, hc3, hc4, hri⟩ := hr2.row hlt
      obtain ⟨ae, s, rfl, kb, hs', hd0, hd1, hd2, hd3, hd4, hsi⟩ := hs2.row hlt
      have q1 := (HN.out r (List.mem_of_getElem? hr')).1
      have q2 := (HC.out s (List.mem_of_getElem? hs')).1
      have hk' : (0 : Int) ≤ k := by omega
      have hlt' : (k : Int) < n := by omega
      have HK := Lib.hid hr'
      have HJ := Lib.hid hs'
      have HRI := Lib.hid hri
      have HSI := Lib.hid hsi
      clear hr' hs' hri hsi hr2 hs2 ka kb
      obtain ⟨hd, fr, tt, rk, Ai, ni, ci, ifs⟩ := r
      obtain ⟨hd', fr', tt', rk', Bi, mi, di, jfs⟩ := s
      dsimp only at hc0 hc1 hc2 hc3 hc4 hd0 hd1 hd2 hd3 hd4 q1 q2 HRI HSI
      by_cases h1 : hd = hd'
      case neg =>
        have d1 : (hd != hd') = true := by simpa using h1
        have hfin := Lib.hid (same_at HK.out HJ.out (by simp [sameD, Ru.dat, h1]))
        clear HK HJ
        go_wp2
        go_quiet (first | fail)
        go_wp2
        go_ret
        exact ⟨by rw [hfin.out]; rfl, drewN_more HW.out _⟩
      subst h1
      by_cases h2 : fr = fr'
      case neg =>
        have d2 : (fr != fr') = true := by simpa using h2
        have hfin := Lib.hid (same_at HK.out HJ.out (by simp [sameD, Ru.dat, h2]))
        clear HK HJ
        go_wp2
        go_quiet (first | fail)
        go_wp2
        go_ret
        exact ⟨by rw [hfin.out]; rfl, drewN_more HW.out _⟩
      subst h2
      by_cases h3 : tt = tt'
      case neg =>
        have d3 : (tt != tt') = true := by simpa using h3
        have hfin := Lib.hid (same_at HK.out HJ.out (by simp [sameD, Ru.dat, h3]))
        clear HK HJ
        go_wp2
        go_quiet (first | fail)
        go_wp2
        go_ret
        exact ⟨by rw [hfin.out]; rfl, drewN_more HW.out _⟩
      subst h3
      by_cases h4 : rk = rk'
      case neg =>
        have d4 : (rk != rk') = true := by simpa using h4
        have hfin := Lib.hid (same_at HK.out HJ.out (by simp [sameD, Ru.dat, h4]))
        clear HK HJ
        go_wp2
        go_quiet (first | fail)
        go_wp2
        go_ret
        exact ⟨by rw [hfin.out]; rfl, drewN_more HW.out _⟩
      subst h4
      cases h5 : (ifs == jfs)
      case false =>
        have hfin := Lib.hid (same_at HK.out HJ.out (by simp [sameD, Ru.dat, h5]))
        clear HK HJ
        go_wp2
        go_quiet (first | (go_at_call 74; exact quietD (l00Same_is _ _ _ _ _ _ ifs jfs _ (HRI.out.drewN _) (HSI.out.drewN _) q1 q2 h5)))
        go_wp2
        go_ret
        exact ⟨by rw [hfin.out]; rfl, drewN_more HW.out _⟩
      case true =>
        have hfin := Lib.hid (same_more HA.out HK.out HJ.out (show sameD ⟨hd, ifs, fr, tt, rk⟩ ⟨hd, jfs, fr, tt, rk⟩ = true by simp only [sameD, h5]; simp))
        clear HK HJ
        go_wp2
        go_quiet (first | (go_at_call 74; exact quietD (l00Same_is _ _ _ _ _ _ ifs jfs _ (HRI.out.drewN _) (HSI.out.drewN _) q1 q2 h5)))
        go_wp2
        go_roundw
        case rel => exact ⟨k + 1, by omega, by go_num, hfin.out, drewN_more HW.out _⟩
        case measure => simp [intOf]; omega
    · obtain rfl : n = k := by omega
      have hfin := Lib.hid (same_end HA.out HL.out HM.out)
      clear hr2 hs2
      go_wp2
      go_ret
      exact ⟨by rw [hfin.out]; rfl, HW.out⟩
theorem impl_SameRules (A : Option Addr) (m c : Nat) (ds : List Rl) (B : Option Addr) (n d : Nat) (es : List Rl) (w : World) (hr : RsRd w w.heap.size A m ds) (hz : szD ds ≤ 1048576) (hb : ∀ d ∈ ds, RlB d) (hs : RsRd w w.heap.size B n es) (hy : szD es ≤ 1048576) (hc : ∀ d ∈ es, RlB d) :
    Calls Try.prog 34 #[.slice A m c, .slice B n d] w fun e w' => e = .returned (.bool (SameRules_r0 ds es)) ∧ Below w.heap.size w w' := by
  have hl := sz_len hz hr.len
  have hl2 := sz_len hy hs.len
  obtain ⟨rs, hr, rfl⟩ := hr
  obtain ⟨ss, hs, rfl⟩ := hs
  have HN := Lib.hid (ruN_of hr.nlen hz hb)
  have HC := Lib.hid (ruN_of hs.nlen hy hc)
  clear hb hc
  go_enter Try.func34, Try.ntmps34
  go_wp2_with (go_at_call 75; refine (equalRs_any _ _ _ _ _ _ rs ss _ hr hs hl hl2 HN.out HC.out).mono ?_; rintro e w' ⟨rfl, hb2⟩)
  go_ret
  exact ⟨rfl, hb2⟩
theorem spec_SameRules (A : Option Addr) (m c : Nat) (ds : List Rl) (B : Option Addr) (n d : Nat) (es : List Rl) (w : World) (hr : RsRd w w.heap.size A m ds) (hz : szD ds ≤ 1048576) (hb : ∀ d ∈ ds, RlB d) (hs : RsRd w w.heap.size B n es) (hy : szD es ≤ 1048576) (hc : ∀ d ∈ es, RlB d) :
    Calls Try.prog 32 #[.slice A m c, .slice B n d] w fun e w' => e = .returned (.bool (SameRules_r0 ds es)) ∧ Below w.heap.size w w' := by
  have hl := sz_len hz hr.len
  have hl2 := sz_len hy hs.len
  obtain ⟨rs, hr, rfl⟩ := hr
  obtain ⟨ss, hs, rfl⟩ := hs
  exact (spec_same_any A B m n c d rs ss w hr hs hl hl2 (ruN_of hr.nlen hz hb) (ruN_of hs.nlen hy hc)).mono fun e w' ⟨he, hw⟩ => ⟨he, below_of_drewN hw⟩
end Go.Proofs.Ytkdiegplbloccaa
