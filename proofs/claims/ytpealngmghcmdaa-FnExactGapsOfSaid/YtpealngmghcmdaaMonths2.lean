/-
  THE MONTHS OF SPANS: the reference's l06Counted; CountMonths and WaitEnd of both.
-/
import Derived.Test.YtpealngmghcmdaaMonths
namespace Go.Proofs.Ytpealngmghcmdaa
open Go.ChangeShapes Go.WideShapes Go.ChangeAt Go.RowKit
set_option linter.unusedVariables false

set_option maxRecDepth 100000 in
set_option maxHeartbeats 1600000 in
theorem l06Counted_any (A : Option Addr) (n c : Nat) (zs : List Int) (w : World) (hr : Rd w w.heap.size 1 A n (ints zs)) (hsp : spOk zs = true) :
    Calls Try.prog 57 #[.slice A n c] w fun e w' => ∃ v, e = .returned v ∧ w'.ownsRow w.heap.size 4 1 v 1500 (bools (monAll zs)) ∧ Below w.heap.size w w' := by
  have HL := Lib.hid hr.ilen
  simp only [spOk, Bool.and_eq_true, decide_eq_true_eq] at hsp
  obtain ⟨⟨h1, h2⟩, h3⟩ := hsp
  obtain ⟨l0, l1, l2⟩ := cntIn_iff.1 h1
  have hn48 : 2 ≤ n ∧ n ≤ 48 := by have := HL.out; omega
  have H2 := Lib.hid l2
  obtain ⟨h, hh⟩ : ∃ h, n = 2 * h := ⟨n / 2, by have := HL.out; omega⟩
  have HH := Lib.hid hh
  have H3 : ∀ k, k < h → zs[2 * k]?.getD 0 < zs[2 * k + 1]?.getD 0 := fun k hk => by
    have := List.all_eq_true.1 h3 k (List.mem_range.2 (by have := HL.out; omega))
    simpa [pairOk] using this
  have HP := Lib.hid H3
  clear l0 l1 l2 hh h1 h2 h3 H3
  obtain ⟨i0, hi, hz0, hz1, hz2⟩ := info_parts info_bool
  go_enter Try.func57, Try.ntmps57
  go_wp2_with (at_make; refine wpList_make_full _ rfl _ _ 55 rfl w.heap.size 4 i0 (.bool false) 1 Try.underlying55 hi hz0 hz1 .i64 .i64 _ _ 1500 rfl rfl rfl rfl (by rw [hz2]; omega) (by unfold maxLen; omega) (Nat.le_refl _) ?_; intro w2 hown hg; rw [mon_start zs] at hown; have hB := (Below.refl w.heap.size w).grown hg (Nat.le_refl _) (by simp); clear hg)
  obtain ⟨g, hg⟩ : ∃ g, g = w.heap.size := ⟨_, rfl⟩
  have HG := Lib.hid hg
  have hown' : w2.ownsRow w.heap.size 4 1 (.slice (some ⟨g, 0, none⟩) 1500 1500) 1500 (bools (monTo zs 0)) := by rw [hg]; exact hown
  rw [← hg]
  clear hg hown
  go_loopw [4, 5] (fun iv _ wr => ∃ k i : Nat, k ≤ h ∧ i = 2 * k ∧ iv = .int .i64 i ∧ wr.ownsRow w.heap.size 4 1 (.slice (some ⟨g, 0, none⟩) 1500 1500) 1500 (bools (monTo zs k)) ∧ Below w.heap.size w wr) (fun iv _ _ => n - (intOf iv).toNat)
  case atStart => exact ⟨0, 0, Nat.zero_le _, rfl, rfl, hown', hB⟩
  case round =>
    obtain ⟨k, i, hk, hik, rfl, ho, hbw⟩ := hrel
    have HI := Lib.hid hik
    clear hown' hB hik
    have hn2 : n ≤ 48 := hn48.2
    by_cases hlt : k < h
    · have hi1 : i < n := by have := HH.out; have := HI.out; omega
      have hi2 : i + 1 < n := by have := HH.out; have := HI.out; omega
      obtain ⟨ad, rfl, hc⟩ := (hr.below hbw).int hi1
      obtain ⟨ae, hE, hd⟩ := (hr.below hbw).int hi2
      cases hE
      have k1 : (ad.add i).block < w.heap.size := by
        obtain ⟨ad', hE, h1, _⟩ := hr.intB hi1
        cases hE
        exact h1
      have bx := allIn_at H2.out _ (getD_mem (zs := zs) (k := i) (by have := HL.out; omega))
      have bY := allIn_at H2.out _ (getD_mem (zs := zs) (k := i + 1) (by have := HL.out; omega))
      obtain ⟨x, hx⟩ := Int.eq_ofNat_of_zero_le bx.1
      obtain ⟨y, hy⟩ := Int.eq_ofNat_of_zero_le bY.1
      rw [hx] at hc bx
      rw [hy] at hd bY
      have hd' : wr.cell? { block := ad.block, off := ad.off + (i + 1) } = some (.int .i64 y) := by simpa [Addr.add] using hd
      have k2 : ad.block < w.heap.size := by rwa [add_block] at k1
      have hx2 : zs[2 * k]?.getD 0 = (x : Int) := by rw [← hx, HI.out]
      have hy2 : zs[2 * k + 1]?.getD 0 = (y : Int) := by rw [← hy, HI.out]
      have hxy : x < y := by have := HP.out k hlt; rw [hx2, hy2] at this; omega
      have HX := Lib.hid hx2
      have HY := Lib.hid hy2
      clear hx hy hx2 hy2 hr
      have i3 : (0 : Int) ≤ (i : Int) + 1 := by omega
      have i4 : (i : Int) + 1 < n := by omega
      have i6 : ((i : Int) + 1).toNat = i + 1 := by omega
      have ho2 := ho
      rw [← monMid_start, HX.out] at ho2
      go_wp2_with fail
      clear ho hc
      obtain ⟨wo, hwo⟩ : ∃ wo : World, wo = wr := ⟨_, rfl⟩
      rw [← hwo] at ho2 hbw hd' ⊢
      clear hwo hd
      go_loopw [5] (fun mv wi => ∃ j : Nat, x ≤ j ∧ j ≤ y ∧ mv = .int .i64 j ∧ wi.ownsRow w.heap.size 4 1 (.slice (some ⟨g, 0, none⟩) 1500 1500) 1500 (bools (monMid zs k j)) ∧ Below w.heap.size w wi) (fun mv _ => y - (intOf mv).toNat)
      case atStart => exact ⟨x, by omega, by omega, rfl, ho2, hbw⟩
      case round =>
        obtain ⟨j, hj1, hj2, rfl, ho3, hb3⟩ := hrel
        have hdj := (hb3.cell (p := { block := ad.block, off := ad.off + (i + 1) }) k2).trans ((hbw.cell (p := { block := ad.block, off := ad.off + (i + 1) }) k2).symm.trans hd')
        clear ho2 hbw hd'
        by_cases hjy : j < y
        · have hcj := own_bool ho3 (k := j) (by omega)
          have hfz := ho3.frozenAt j
          have hst := Lib.hid (mon_round (k := k) (x := j) ho3 (by rw [HX.out]; omega) hb3)
          clear ho3
          go_wp2_with fail
          go_roundw
          case rel => exact ⟨j + 1, by omega, by omega, by go_num, hst.out.1, hst.out.2⟩
          case measure => simp [intOf]; omega
        · obtain rfl : y = j := by omega
          go_wp2_with fail
          go_roundw
          case rel => exact ⟨k + 1, i + 2, by omega, by have := HI.out; omega, by go_num, by rw [← monMid_end, HY.out]; exact ho3, hb3⟩
          case measure => simp [intOf]; omega
    · obtain rfl : h = k := by omega
      have hd : zs.length / 2 = h := by have := HL.out; have := HH.out; omega
      have hall := Lib.hid (show monAll zs = monTo zs h by unfold monAll; rw [hd])
      clear hd
      have hni : n ≤ i := by have := HI.out; have := HH.out; omega
      go_wp2_with fail
      go_ret
      exact ⟨_, rfl, by rw [hall.out]; exact ho, hbw⟩

/-! ### how many months, and the month with which so many are there -/
def cntT (bs : List Bool) : Int := ((bs.filter id).length : Int)
theorem cntT_bd (bs : List Bool) : 0 ≤ cntT bs ∧ cntT bs ≤ bs.length := by
  have := List.length_filter_le id bs
  unfold cntT; omega
theorem cntT_snoc {bs : List Bool} {k : Nat} (h : k < bs.length) : cntT (bs.take (k + 1)) = cntT (bs.take k) + if bs[k]?.getD false then 1 else 0 := by
  rw [take_snoc bs k false h]
  unfold cntT
  rw [List.filter_append]
  cases bs[k]?.getD false <;> simp
def CountMonths_r0 (zs : List Int) : Int := if spOk zs then cntT (monAll zs) else 0
def CountMonths_r1 (zs : List Int) : Bool := spOk zs
theorem count_no {zs : List Int} (h : spOk zs = false) : CountMonths_r0 zs = 0 ∧ CountMonths_r1 zs = false := by
  unfold CountMonths_r0 CountMonths_r1; rw [h]; exact ⟨rfl, rfl⟩
theorem count_yes {zs : List Int} (h : spOk zs = true) : CountMonths_r0 zs = cntT (monAll zs) ∧ CountMonths_r1 zs = true := by
  unfold CountMonths_r0 CountMonths_r1; rw [h]; exact ⟨rfl, rfl⟩
def CntIs (W : World) (zs : List Int) (E : Ending) (w' : World) : Prop := E = .returned (.tuple #[.int .i64 (CountMonths_r0 zs), .bool (CountMonths_r1 zs)]) ∧ Below W.heap.size W w'
theorem cnt_is {W w' : World} {zs : List Int} {x : Int} {b : Bool} (h : CountMonths_r0 zs = x ∧ CountMonths_r1 zs = b) (hb : Below W.heap.size W w') : CntIs W zs (.returned (.tuple #[.int .i64 x, .bool b])) w' := by
  rw [← h.1, ← h.2]; exact ⟨rfl, hb⟩
set_option maxRecDepth 100000 in
set_option maxHeartbeats 800000 in
theorem impl_CountMonths (A : Option Addr) (n c : Nat) (zs : List Int) (w : World) (hr : Rd w w.heap.size 1 A n (ints zs)) (hn : n ≤ 1048576) (hz : I64s zs) :
    Calls Try.prog 24 #[.slice A n c] w (CntIs w zs) := by
  go_enter Try.func24, Try.ntmps24
  go_wp2_with fail
  refine (monthsOf_any _ _ _ zs _ hr hn).mono ?_
  rintro e w1 ⟨v, rfl, hb, ho⟩
  rcases Bool.eq_false_or_eq_true (spOk zs) with h | h
  · have ho := ho h
    have hyes := Lib.hid (count_yes h)
    rw [h]
    clear h
    obtain ⟨A1, c1, rfl, _⟩ := own_form ho
    obtain ⟨g, rfl⟩ := own_head ho (by omega)
    obtain ⟨bs, hbs⟩ : ∃ bs, bs = monAll zs := ⟨_, rfl⟩
    have hlen : bs.length = 1500 := by rw [hbs]; exact monAll_length zs
    rw [← hbs] at ho hyes
    have HN := Lib.hid hlen
    clear hbs hlen
    go_wp2_with fail
    go_loop [6, 8, 18] (fun s _ i => ∃ k : Nat, k ≤ 1500 ∧ i = .int .i64 k ∧ s = .int .i64 (cntT (bs.take k))) (fun _ _ i => 1500 - (intOf i).toNat)
    case atStart => exact ⟨0, Nat.zero_le _, rfl, rfl⟩
    case round =>
      obtain ⟨k, hk, rfl, rfl⟩ := hrel
      by_cases hlt : k < 1500
      · have hcj := own_bool ho (k := k) hlt
        have hst := Lib.hid (cntT_snoc (bs := bs) (k := k) (by have := HN.out; omega))
        have hbd := cntT_bd (bs.take k)
        have hl2 : (bs.take k).length ≤ k := List.length_take_le _ _
        obtain ⟨b, hb2⟩ : ∃ b, b = bs[k]?.getD false := ⟨_, rfl⟩
        rw [← hb2] at hcj hst
        clear ho hb2
        cases b
        · go_wp2_with fail
          go_round
          case rel => exact ⟨k + 1, by omega, by go_num, by rw [hst.out]; simp⟩
          case measure => simp [intOf]; omega
        · go_wp2_with fail
          go_round
          case rel => exact ⟨k + 1, by omega, by go_num, by rw [hst.out]; simp⟩
          case measure => simp [intOf]; omega
      · obtain rfl : 1500 = k := by omega
        have hfin := Lib.hid (show bs.take 1500 = bs from List.take_of_length_le (by have := HN.out; omega))
        go_wp2_with fail
        go_ret2
        rw [hfin.out]
        exact cnt_is hyes.out hb
  · have hno := Lib.hid (count_no h)
    rw [h]
    clear h ho
    go_wp2_with fail
    go_ret2
    exact cnt_is hno.out hb
set_option maxRecDepth 100000 in
set_option maxHeartbeats 800000 in
theorem spec_CountMonths (A : Option Addr) (n c : Nat) (zs : List Int) (w : World) (hr : Rd w w.heap.size 1 A n (ints zs)) (hn : n ≤ 1048576) (hz : I64s zs) :
    Calls Try.prog 23 #[.slice A n c] w (CntIs w zs) := by
  go_enter Try.func23, Try.ntmps23
  go_wp2_with fail
  refine (l06Spans_any _ _ _ zs _ hr hn).mono ?_
  rintro e w1 ⟨rfl, hb⟩
  rcases Bool.eq_false_or_eq_true (spOk zs) with h | h
  · have hyes := Lib.hid (count_yes h)
    have H := Lib.hid h
    rw [h]
    clear h
    go_wp2_with fail
    refine (l06Counted_any _ _ _ zs _ (hr.on hb) H.out).mono ?_
    rintro e w2 ⟨v, rfl, ho, hb2⟩
    replace hb := below_step hb hb2
    clear hb2 hr
    obtain ⟨A1, c1, rfl, _⟩ := own_form ho
    obtain ⟨g, rfl⟩ := own_head ho (by omega)
    obtain ⟨bs, hbs⟩ : ∃ bs, bs = monAll zs := ⟨_, rfl⟩
    have hlen : bs.length = 1500 := by rw [hbs]; exact monAll_length zs
    rw [← hbs] at ho hyes
    have HN := Lib.hid hlen
    clear hbs hlen
    go_wp2_with fail
    go_loop [5, 6] (fun s i => ∃ k : Nat, k ≤ 1500 ∧ i = .int .i64 k ∧ s = .int .i64 (cntT (bs.take k))) (fun _ i => 1500 - (intOf i).toNat)
    case atStart => exact ⟨0, Nat.zero_le _, rfl, rfl⟩
    case round =>
      obtain ⟨k, hk, rfl, rfl⟩ := hrel
      by_cases hlt : k < 1500
      · have hcj := own_bool ho (k := k) hlt
        have hst := Lib.hid (cntT_snoc (bs := bs) (k := k) (by have := HN.out; omega))
        have hbd := cntT_bd (bs.take k)
        have hl2 : (bs.take k).length ≤ k := List.length_take_le _ _
        obtain ⟨b, hb2⟩ : ∃ b, b = bs[k]?.getD false := ⟨_, rfl⟩
        rw [← hb2] at hcj hst
        clear ho hb2
        cases b
        · go_wp2_with fail
          go_round
          case rel => exact ⟨k + 1, by omega, by go_num, by rw [hst.out]; simp⟩
          case measure => simp [intOf]; omega
        · go_wp2_with fail
          go_round
          case rel => exact ⟨k + 1, by omega, by go_num, by rw [hst.out]; simp⟩
          case measure => simp [intOf]; omega
      · obtain rfl : 1500 = k := by omega
        have hfin := Lib.hid (show bs.take 1500 = bs from List.take_of_length_le (by have := HN.out; omega))
        go_wp2_with fail
        go_ret2
        rw [hfin.out]
        exact cnt_is hyes.out hb
  · have hno := Lib.hid (count_no h)
    rw [h]
    clear h
    go_wp2_with fail
    go_ret2
    exact cnt_is hno.out hb
end Go.Proofs.Ytpealngmghcmdaa
