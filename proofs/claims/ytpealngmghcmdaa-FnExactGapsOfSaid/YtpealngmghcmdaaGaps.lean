/-
  GapsOf: what the program's and the reference's function return.
-/
import Derived.Test.YtpealngmghcmdaaMonths2
import Derived.Test.YtpealngmghcmdaaCopy
import Derived.Test.YtpealngmghcmdaaPoints
namespace Go.Proofs.Ytpealngmghcmdaa
open Go.ChangeShapes Go.WideShapes Go.ChangeAt Go.RowKit
set_option linter.unusedVariables false

/-! ### plain words -/
/-- behind k months: where the last month that is there ended (-1: none was), and the gaps -/
def gapTo (bs : List Bool) : Nat → Int × List Int
  | 0 => (-1, [])
  | k + 1 => if bs[k]?.getD false then ((k : Int) + 1, if 0 ≤ (gapTo bs k).1 ∧ (gapTo bs k).1 < (k : Int) then (gapTo bs k).2 ++ [(gapTo bs k).1, (k : Int)] else (gapTo bs k).2) else gapTo bs k
theorem gap_len (bs : List Bool) (k : Nat) : (gapTo bs k).2.length ≤ 2 * k := by
  induction k with
  | zero => simp [gapTo]
  | succ k ih =>
    simp only [gapTo]
    split
    · split
      · simp; omega
      · simp; omega
    · omega
theorem gap_bd (bs : List Bool) (k : Nat) : -1 ≤ (gapTo bs k).1 ∧ (gapTo bs k).1 ≤ k := by
  induction k with
  | zero => simp [gapTo]
  | succ k ih =>
    simp only [gapTo]
    split
    · simp; omega
    · omega
theorem gap_off {bs : List Bool} {k : Nat} (h : bs[k]?.getD false = false) : gapTo bs (k + 1) = gapTo bs k := by simp [gapTo, h]
theorem gap_on {bs : List Bool} {k : Nat} (h : bs[k]?.getD false = true) : gapTo bs (k + 1) = ((k : Int) + 1, if 0 ≤ (gapTo bs k).1 ∧ (gapTo bs k).1 < (k : Int) then (gapTo bs k).2 ++ [(gapTo bs k).1, (k : Int)] else (gapTo bs k).2) := by simp [gapTo, h]
theorem gap_skip {bs : List Bool} {j : Nat} (d : Nat) (h : ∀ i, i < d → bs[j + i]?.getD false = false) : gapTo bs (j + d) = gapTo bs j := by
  induction d with
  | zero => rfl
  | succ d ih =>
    rw [← Nat.add_assoc, gap_off (h d (by omega))]
    exact ih fun i hi => h i (by omega)
theorem findB {bs : List Bool} : (findI id bs = -1 ∧ ∀ i, i < bs.length → bs[i]?.getD false = false) ∨ ∃ t : Nat, t < bs.length ∧ findI id bs = t ∧ bs[t]?.getD false = true ∧ ∀ i, i < t → bs[i]?.getD false = false := by
  unfold findI
  cases h : bs.findIdx? id with
  | none =>
    refine .inl ⟨rfl, fun i hi => ?_⟩
    rw [List.findIdx?_eq_none_iff] at h
    rw [List.getElem?_eq_getElem hi]
    have := h bs[i] (List.getElem_mem hi)
    simpa using this
  | some t =>
    rw [List.findIdx?_eq_some_iff_getElem] at h
    obtain ⟨h1, h2, h3⟩ := h
    refine .inr ⟨t, h1, rfl, by rw [List.getElem?_eq_getElem h1]; simpa using h2, fun i hi => ?_⟩
    have := h3 i hi
    rw [List.getElem?_eq_getElem (by omega)]
    simpa using this
def GapsOf_r0 (zs : List Int) : List Int := if spOk zs then (gapTo (monAll zs) 1500).2 else []
def GapsOf_r1 (zs : List Int) : Bool := spOk zs
theorem GapsOf_len (zs : List Int) : (GapsOf_r0 zs).length ≤ 3000 := by
  unfold GapsOf_r0
  split
  · have := gap_len (monAll zs) 1500; omega
  · simp
theorem gaps_no {zs : List Int} (h : spOk zs = false) : GapsOf_r0 zs = [] ∧ GapsOf_r1 zs = false := by
  unfold GapsOf_r0 GapsOf_r1; rw [h]; exact ⟨rfl, rfl⟩
theorem gaps_yes {zs : List Int} (h : spOk zs = true) : GapsOf_r0 zs = (gapTo (monAll zs) 1500).2 ∧ GapsOf_r1 zs = true := by
  unfold GapsOf_r0 GapsOf_r1; rw [h]; exact ⟨rfl, rfl⟩
theorem rd_two (w : World) (a b : Int) (t : TypeId) : Rd (w.alloc (.cells #[.int .i64 a, .int .i64 b] t)) (w.heap.size + 1) 1 (some ⟨w.heap.size, 0, none⟩) 2 (ints [a, b]) := by
  refine ⟨rfl, fun _ => ⟨_, rfl, by simp, fun j u hu => ?_⟩⟩
  match j, hu with
  | 0, hu => simp [ints] at hu; subst hu; rw [show (Addr.add ⟨w.heap.size, 0, none⟩ 0) = ⟨w.heap.size, 0, none⟩ from rfl, World.cell?_alloc_at _ _ _ _ rfl]; rfl
  | 1, hu => simp [ints] at hu; subst hu; rw [show (Addr.add ⟨w.heap.size, 0, none⟩ 1) = ⟨w.heap.size, 1, none⟩ from rfl, World.cell?_alloc_at _ _ _ _ rfl]; rfl
theorem Rd.boolat {w : World} {B n : Nat} {A : Option Addr} {bs : List Bool} {k : Nat} (h : Rd w B 1 A n (bools bs)) (hk : k < n) : ∃ ad, A = some ad ∧ w.cell? (ad.add k) = some (.bool (bs[k]?.getD false)) := by
  obtain ⟨ad, u, e, _, hx, hc⟩ := h.at_ hk
  rw [bools_getD (by have := h.len; rw [bools_length] at this; omega)] at hx
  cases hx
  exact ⟨ad, e, hc⟩
theorem bools_drop (bs : List Bool) (k : Nat) : (bools bs).drop k = bools (bs.drop k) := by simp [bools, List.map_drop]
theorem bools_take (bs : List Bool) (k : Nat) : (bools bs).take k = bools (bs.take k) := by simp [bools, List.map_take]

theorem rd_bools {w : World} {B g j n : Nat} {bs : List Bool} (hb : g < B) (hl : bs.length = n) (h : ∀ k, k < n → w.cell? ⟨g, k, none⟩ = some (.bool (bs[k]?.getD false))) (hj : j ≤ n) : Rd w B 1 (some ⟨g, j, none⟩) (n - j) (bools (bs.drop j)) := by
  refine ⟨by rw [bools_length, List.length_drop]; omega, fun _ => ⟨_, rfl, hb, fun i u hu => ?_⟩⟩
  have hi : i < n - j := by
    rcases Nat.lt_or_ge i (n - j) with h1 | h1
    · exact h1
    · rw [List.getElem?_eq_none (by rw [bools_length, List.length_drop]; omega)] at hu; cases hu
  rw [bools_getD (by rw [List.length_drop]; omega), List.getElem?_drop] at hu
  cases hu
  have : (Addr.add ⟨g, j, none⟩ i) = ⟨g, j + i, none⟩ := by
    by_cases e : i = 0
    · subst e; rfl
    · simp [Addr.add, e]
  rw [this]
  exact h (j + i) (by omega)
/-! ### slices.Index for a list of bools and true -/
theorem indexB_any (A : Option Addr) (n c : Nat) (bs : List Bool) (w : World) {B : Nat} (hr : Rd w B 1 A n (bools bs)) (hn : n ≤ 2097152) :
    Calls Try.prog 67 #[.slice A n c, .bool true] w fun e w' => e = .returned (.int .i64 (findI id bs)) ∧ w = w' := by
  have hlen : bs.length = n := by have := hr.len; rwa [bools_length] at this
  have HL := Lib.hid hlen
  clear hlen
  go_enter Try.func67, Try.ntmps67
  go_wp2
  go_loop [5, 8] (fun _ i => ∃ k : Nat, k ≤ n ∧ i = .int .i64 k ∧ (bs.take k).any id = false) (fun _ i => n - (intOf i).toNat)
  case atStart => exact ⟨0, Nat.zero_le _, rfl, rfl⟩
  case round =>
    obtain ⟨k, hk, rfl, ha⟩ := hrel
    have HA := Lib.hid ha
    clear ha
    by_cases hlt : k < n
    · obtain ⟨ad, rfl, hc⟩ := hr.boolat hlt
      clear hr
      obtain ⟨z, hz⟩ : ∃ z, z = bs[k]?.getD false := ⟨_, rfl⟩
      rw [← hz] at hc
      have HZ := Lib.hid hz
      clear hz
      cases z
      · go_wp2
        go_round
        case rel => exact ⟨k + 1, by omega, by go_num, any_snoc false HA.out (by have := HL.out; omega) (by rw [← HZ.out]; rfl)⟩
        case measure => simp [intOf]; omega
      · have hfin := Lib.hid (findI_hit (p := id) false HA.out (by have := HL.out; omega) (by rw [← HZ.out]; rfl))
        go_wp2
        go_ret
        exact ⟨by rw [hfin.out]; rfl, rfl⟩
    · obtain rfl : n = k := by omega
      have hfin := Lib.hid (findI_miss (p := id) (zs := bs) (by have := HA.out; rwa [List.take_of_length_le (by have := HL.out; omega)] at this))
      clear HA
      go_wp2
      go_ret
      exact ⟨by rw [hfin.out]; rfl, rfl⟩

set_option maxRecDepth 100000 in
set_option maxHeartbeats 1600000 in
theorem spec_GapsOf (A : Option Addr) (n c : Nat) (zs : List Int) (w : World) (hr : Rd w w.heap.size 1 A n (ints zs)) (hn : n ≤ 1048576) (hz : I64s zs) :
    Calls Try.prog 37 #[.slice A n c] w (SlEnds w (GapsOf_r0 zs) (GapsOf_r1 zs)) := by
  go_enter Try.func37, Try.ntmps37
  go_wp2_with fail
  refine (l06Spans_any _ _ _ zs _ hr hn).mono ?_
  rintro e w1 ⟨rfl, hb⟩
  rcases Bool.eq_false_or_eq_true (spOk zs) with h | h
  case inr =>
    have hno := Lib.hid (gaps_no h)
    rw [h]
    clear h
    go_wp2_with fail
    go_ret2
    rw [hno.out.1, hno.out.2]
    exact sl_no hb
  have hyes := Lib.hid (gaps_yes h)
  have H := Lib.hid h
  rw [h]
  clear h
  go_wp2_with fail
  refine (l06Counted_any _ _ _ zs _ (hr.on hb) H.out).mono ?_
  rintro e w2 ⟨v, rfl, ho, hb2⟩
  replace ho := own_base ho hb.size
  replace hb := below_step hb hb2
  clear hb2 hr
  obtain ⟨A1, c1, rfl, _⟩ := own_form ho
  obtain ⟨g, rfl⟩ := own_head ho (by omega)
  obtain ⟨bs, hbs⟩ : ∃ bs, bs = monAll zs := ⟨_, rfl⟩
  rw [← hbs] at ho hyes
  clear hbs
  go_wp2_with fail
  have hgl := (ho.lt g rfl)
  have hbg : ∀ k, k < 1500 → w2.cell? ⟨g, k, none⟩ = some (.bool (bs[k]?.getD false)) := fun k hk => own_bool ho hk
  have HBG := Lib.hid hbg
  clear hbg
  go_loopw [5, 6, 7] (fun v ev i wr => ∃ k : Nat, k ≤ 1500 ∧ i = .int .i64 k ∧ ev = .int .i64 (gapTo bs k).1 ∧ wr.ownsRow w2.heap.size 2 1 v (gapTo bs k).2.length (ints (gapTo bs k).2) ∧ Below w2.heap.size w2 wr) (fun _ _ i _ => 1500 - (intOf i).toNat)
  case atStart => exact ⟨0, Nat.zero_le _, rfl, rfl, own_empty _ _, (Below.refl _ _).alloc (Nat.le_refl _) _⟩
  case round =>
    obtain ⟨k, hk, rfl, rfl, hown, hbw⟩ := hrel
    have hgb := gap_bd bs k
    have hgn := gap_len bs k
    obtain ⟨p, hp⟩ : ∃ p, p = gapTo bs k := ⟨_, rfl⟩
    rw [← hp] at hown hgb hgn ⊢
    have HP := Lib.hid hp
    clear hp
    by_cases hlt : k < 1500
    · have hc := (hbw.cell (p := ⟨g, k, none⟩) hgl.2).trans (HBG.out k hlt)
      obtain ⟨b, hb3⟩ : ∃ b, b = bs[k]?.getD false := ⟨_, rfl⟩
      rw [← hb3] at hc
      have HB := Lib.hid hb3
      clear hb3 ho
      cases b
      · have hst := Lib.hid (gap_off (bs := bs) (k := k) HB.out.symm)
        go_wp2_with fail
        go_roundw
        case rel => exact ⟨k + 1, by omega, by go_num, by rw [hst.out, HP.out], by rw [hst.out, ← HP.out]; exact hown, hbw⟩
        case measure => simp [intOf]; omega
      · by_cases hg : 0 ≤ p.1 ∧ p.1 < k
        · have hst := Lib.hid (show gapTo bs (k + 1) = ((k : Int) + 1, p.2 ++ [p.1, (k : Int)]) by rw [gap_on HB.out.symm, ← HP.out, if_pos hg])
          obtain ⟨hg1, hg2⟩ := hg
          go_wp2_with (at_builtin; refine append_ints rfl (.tmp 32) (.tmp 35) rfl w2 _ p.2.length p.2 rfl (hown.alloc _) (hbw.alloc hbw.size _) _ 2 2 [p.1, (k : Int)] rfl (rd_two _ _ _ _) (by omega) ?_; intro v' w' ho2 hb2 _)
          go_roundw
          case rel => exact ⟨k + 1, by omega, by go_num, by rw [hst.out], by rw [hst.out]; simpa using ho2, hb2⟩
          case measure => simp [intOf]; omega
        · have hst := Lib.hid (show gapTo bs (k + 1) = ((k : Int) + 1, p.2) by rw [gap_on HB.out.symm, ← HP.out, if_neg hg])
          by_cases hg1 : 0 ≤ p.1
          · have hg2 : ¬ p.1 < k := by omega
            clear hg
            go_wp2_with fail
            go_roundw
            case rel => exact ⟨k + 1, by omega, by go_num, by rw [hst.out], by rw [hst.out]; exact hown, hbw⟩
            case measure => simp [intOf]; omega
          · clear hg
            go_wp2_with fail
            go_roundw
            case rel => exact ⟨k + 1, by omega, by go_num, by rw [hst.out], by rw [hst.out]; exact hown, hbw⟩
            case measure => simp [intOf]; omega
    · obtain rfl : 1500 = k := by omega
      go_wp2_with fail
      go_ret2
      rw [hyes.out.1, hyes.out.2, ← HP.out]
      exact sl_yes rfl (own_base hown hb.size) (below_step hb hbw)
set_option maxRecDepth 100000 in
set_option maxHeartbeats 3200000 in
theorem impl_GapsOf (A : Option Addr) (n c : Nat) (zs : List Int) (w : World) (hr : Rd w w.heap.size 1 A n (ints zs)) (hn : n ≤ 1048576) (hz : I64s zs) :
    Calls Try.prog 38 #[.slice A n c] w (SlEnds w (GapsOf_r0 zs) (GapsOf_r1 zs)) := by
  go_enter Try.func38, Try.ntmps38
  go_wp2_with fail
  refine (monthsOf_any _ _ _ zs _ hr hn).mono ?_
  rintro e w2 ⟨v, rfl, hb, ho⟩
  rcases Bool.eq_false_or_eq_true (spOk zs) with h | h
  case inr =>
    have hno := Lib.hid (gaps_no h)
    rw [h]
    clear h ho
    go_wp2_with fail
    go_ret2
    rw [hno.out.1, hno.out.2]
    exact sl_no hb
  have ho := ho h
  have hyes := Lib.hid (gaps_yes h)
  rw [h]
  clear h hr
  obtain ⟨A1, c1, rfl, hc1, _⟩ := own_form ho
  obtain ⟨g, rfl⟩ := own_head ho (by omega)
  obtain ⟨bs, hbs⟩ : ∃ bs, bs = monAll zs := ⟨_, rfl⟩
  have hlen : bs.length = 1500 := by rw [hbs]; exact monAll_length zs
  rw [← hbs] at ho hyes
  have HN := Lib.hid hlen
  clear hbs hlen
  have hrd := Rd.of_own ho
  have hgl := (ho.lt g rfl)
  have hbg : ∀ k, k < 1500 → w2.cell? ⟨g, k, none⟩ = some (.bool (bs[k]?.getD false)) := fun k hk => own_bool ho hk
  have HBG := Lib.hid hbg
  clear hbg ho
  go_wp2_with fail
  refine (indexB_any _ _ _ bs _ (hrd.alloc (Nat.le_refl _) _) (by omega)).mono ?_
  rintro e w' ⟨rfl, rfl⟩
  go_wp2_with fail
  go_loopw [6, 7, 8, 9] (fun v mv _ _ wr => ∃ (k : Int) (j : Nat), mv = .int .i64 k ∧ wr.ownsRow w2.heap.size 2 1 v (gapTo bs j).2.length (ints (gapTo bs j).2) ∧ Below w2.heap.size w2 wr ∧ j ≤ 1500 ∧ ((k = -1 ∧ j = 1500) ∨ (k + 1 = j ∧ 1 ≤ j ∧ bs[j - 1]?.getD false = true))) (fun _ mv _ _ _ => if intOf mv < 0 then 0 else 1501 - (intOf mv).toNat)
  case atStart =>
    have hs := (Below.refl w2.heap.size w2).alloc (Nat.le_refl _) (.cells #[] 2)
    rcases findB (bs := bs) with ⟨h1, h2⟩ | ⟨t, h1, h2, h3, h4⟩
    · have e : gapTo bs 1500 = (-1, []) := by
        have := gap_skip (bs := bs) (j := 0) 1500 (fun i hi => by rw [Nat.zero_add]; exact h2 i (by have := HN.out; omega))
        rw [Nat.zero_add] at this
        exact this
      exact ⟨-1, 1500, by rw [h1], by rw [e]; exact own_empty _ _, hs, by omega, .inl ⟨rfl, rfl⟩⟩
    · have e0 : gapTo bs t = (-1, []) := by
        have := gap_skip (bs := bs) (j := 0) t (fun i hi => by rw [Nat.zero_add]; exact h4 i hi)
        rw [Nat.zero_add] at this
        exact this
      have e : gapTo bs (t + 1) = ((t : Int) + 1, []) := by rw [gap_on h3, e0]; rfl
      exact ⟨t, t + 1, by rw [h2], by rw [e]; exact own_empty _ _, hs, by have := HN.out; omega, .inr ⟨by omega, by omega, by simpa using h3⟩⟩
  case round =>
    obtain ⟨k, j, rfl, hown, hbw, hj, hcase⟩ := hrel
    have HC := Lib.hid hcase
    clear hcase
    by_cases hneg : k < 0
    · have hj2 : j = 1500 := by rcases HC.out with h1 | h1 <;> omega
      subst hj2
      clear hrd
      go_wp2_with fail
      go_ret2
      rw [hyes.out.1, hyes.out.2]
      exact sl_yes rfl (own_base hown hb.size) (below_step hb hbw)
    · obtain ⟨m, rfl⟩ := Int.eq_ofNat_of_zero_le (by omega : 0 ≤ k)
      have hjm : j = m + 1 := by rcases HC.out with h1 | h1 <;> omega
      have hbm : bs[m]?.getD false = true := by
        rcases HC.out with h1 | h1
        · omega
        · have := h1.2.2
          rwa [show j - 1 = m by omega] at this
      subst hjm
      have HBM := Lib.hid hbm
      clear hbm HC
      have hgn := gap_len bs (m + 1)
      obtain ⟨ol, hol⟩ : ∃ ol, ol = (gapTo bs (m + 1)).2 := ⟨_, rfl⟩
      have he1 : gapTo bs (m + 1) = ((m : Int) + 1, ol) := by rw [hol, gap_on HBM.out]
      rw [← hol] at hown hgn
      have HE := Lib.hid he1
      clear hol he1
      go_wp2_with fail
      go_loop [8] (fun fv => ∃ j : Nat, m ≤ j ∧ j ≤ 1500 ∧ fv = .int .i64 j ∧ gapTo bs (max j (m + 1)) = (((max j (m + 1) : Nat) : Int), ol)) (fun fv => 1500 - (intOf fv).toNat)
      case atStart => exact ⟨m, by omega, by omega, rfl, by rw [show max m (m + 1) = m + 1 by omega, HE.out]; rfl⟩
      case round =>
        obtain ⟨j, hj1, hj2, rfl, hgj⟩ := hrel
        have HG := Lib.hid hgj
        clear hgj
        by_cases hlt : j < 1500
        · have hc := (hbw.cell (p := ⟨g, j, none⟩) hgl.2).trans (HBG.out j hlt)
          obtain ⟨b, hb3⟩ : ∃ b, b = bs[j]?.getD false := ⟨_, rfl⟩
          rw [← hb3] at hc
          have HB := Lib.hid hb3
          clear hb3
          cases b
          · -- the run ends here: the next month that is there
            have hjm : m + 1 ≤ j := by
              by_cases e : j = m
              · subst e; have h1 := HB.out; rw [HBM.out] at h1; cases h1
              · omega
            have hgj := HG.out
            rw [show max j (m + 1) = j by omega] at hgj
            have HGJ := Lib.hid hgj
            clear hgj
            have hsub := rd_bools (B := w2.heap.size) (j := j) hgl.2 HN.out (fun k hk => (hbw.cell (p := ⟨g, k, none⟩) hgl.2).trans (HBG.out k hk)) hj2
            clear hrd
            go_wp2_with fail
            refine (indexB_any _ _ _ (bs.drop j) _ hsub (by omega)).mono ?_
            rintro e w' ⟨rfl, rfl⟩
            clear hsub
            have hdl : (bs.drop j).length = 1500 - j := by rw [List.length_drop, HN.out]
            have HDL := Lib.hid hdl
            clear hdl
            rcases findB (bs := bs.drop j) with ⟨h1, h2⟩ | ⟨t, h1, h2, h3, h4⟩
            · have hfin := Lib.hid (show gapTo bs 1500 = ((j : Int), ol) by
                have h5 := gap_skip (bs := bs) (j := j) (1500 - j) (fun i hi => by
                  have := h2 i (by rw [HDL.out]; exact hi)
                  rwa [List.getElem?_drop] at this)
                rw [show j + (1500 - j) = 1500 by omega, HGJ.out] at h5
                exact h5)
              rw [h1]
              clear h1 h2
              go_wp2_with fail
              go_ret2
              rw [hyes.out.1, hyes.out.2, hfin.out]
              exact sl_yes rfl (own_base hown hb.size) (below_step hb hbw)
            · rw [List.getElem?_drop] at h3
              have ht1 : 1 ≤ t := by
                by_cases e : t = 0
                · subst e
                  rw [Nat.add_zero, ← HB.out] at h3; cases h3
                · omega
              have ht2 : j + t < 1500 := by rw [HDL.out] at h1; omega
              have hfin := Lib.hid (show gapTo bs (j + t + 1) = (((j + t : Nat) : Int) + 1, ol ++ [(j : Int), ((j + t : Nat) : Int)]) by
                have h5 := gap_skip (bs := bs) (j := j) t (fun i hi => by
                  have := h4 i hi
                  rwa [List.getElem?_drop] at this)
                rw [gap_on h3, h5, HGJ.out, if_pos ⟨by simp, by simp; omega⟩])
              have H3 := Lib.hid h3
              rw [h2]
              clear h1 h2 h3 h4
              go_wp2_with (at_builtin; refine append_ints rfl (.tmp 42) (.tmp 45) rfl w2 _ ol.length ol rfl (hown.alloc _) (hbw.alloc hbw.size _) _ 2 2 [(j : Int), (j : Int) + (t : Int)] rfl (rd_two _ _ _ _) (by omega) ?_; intro v' w' ho2 hb2 _)
              go_roundw
              case rel =>
                refine ⟨(j : Int) + t, j + t + 1, rfl, ?_, hb2, by omega, .inr ⟨by omega, by omega, by simpa using H3.out⟩⟩
                rw [hfin.out]
                simpa using ho2
              case measure =>
                have e1 : ¬ ((j : Int) + t < 0) := by omega
                have e2 : ¬ ((m : Int) < 0) := by omega
                simp only [intOf]
                simp [e1, e2]
                omega
          · go_wp2_with fail
            go_round
            case rel =>
              refine ⟨j + 1, by omega, by omega, by go_num, ?_⟩
              by_cases e : j = m
              · subst e
                rw [show max (j + 1) (j + 1) = j + 1 by omega, HE.out]; rfl
              · have h1 := HG.out
                rw [show max j (m + 1) = j by omega] at h1
                rw [show max (j + 1) (m + 1) = j + 1 by omega, gap_on HB.out.symm, h1, if_neg (by simp)]
                rfl
            case measure => simp [intOf]; omega
        · obtain rfl : 1500 = j := by omega
          have hgj := HG.out
          rw [show max 1500 (m + 1) = 1500 by omega] at hgj
          have HGJ := Lib.hid hgj
          clear hgj hrd
          have hnil : findI id ([] : List Bool) = -1 := rfl
          have HNIL := Lib.hid hnil
          clear hnil
          by_cases hcc : c1 = 1500
          · subst hcc
            go_wp2_with fail
            refine (indexB_any (B := 0) _ 0 _ [] _ Rd.nil_ (by omega)).mono ?_
            rintro e w' ⟨rfl, rfl⟩
            rw [HNIL.out]
            go_wp2_with fail
            go_ret2
            rw [hyes.out.1, hyes.out.2, HGJ.out]
            exact sl_yes rfl (own_base hown hb.size) (below_step hb hbw)
          · go_wp2_with fail
            refine (indexB_any (B := 0) _ 0 _ [] _ Rd.nil_ (by omega)).mono ?_
            rintro e w' ⟨rfl, rfl⟩
            rw [HNIL.out]
            go_wp2_with fail
            go_ret2
            rw [hyes.out.1, hyes.out.2, HGJ.out]
            exact sl_yes rfl (own_base hown hb.size) (below_step hb hbw)
end Go.Proofs.Ytpealngmghcmdaa
