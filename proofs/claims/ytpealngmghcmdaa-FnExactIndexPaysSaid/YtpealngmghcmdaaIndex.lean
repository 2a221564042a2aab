/-
  IndexPays: what the program's and the reference's function return.
-/
import Derived.Test.YtpealngmghcmdaaPoints
namespace Go.Proofs.Ytpealngmghcmdaa
open Go.ChangeShapes Go.WideShapes Go.ChangeAt Go.RowKit
set_option linter.unusedVariables false

def idxOk (zs gs : List Int) : Bool := cntIn zs 1 60 0 1000000000000 && decide (gs.length + 1 = zs.length) && allIn gs 0 10000
/-- pay i behind j growths -/
def idxAt (zs gs : List Int) (i : Nat) : Nat → Int
  | 0 => zs[i]?.getD 0
  | j + 1 => rnd (idxAt zs gs i j * (10000 + gs[i + j]?.getD 0)) 10000 1
def idxFine (zs gs : List Int) (i k : Nat) : Bool := (List.range k).all fun j => inB (idxAt zs gs i (j + 1)) 0 1000000000000
def idxTo (zs gs : List Int) (k : Nat) : List Int := (List.range k).map fun i => idxAt zs gs i (gs.length - i)
theorem idxTo_succ (zs gs : List Int) (k : Nat) : idxTo zs gs (k + 1) = idxTo zs gs k ++ [idxAt zs gs k (gs.length - k)] := by simp [idxTo, List.range_succ]
theorem idxTo_length (zs gs : List Int) (k : Nat) : (idxTo zs gs k).length = k := by simp [idxTo]
def idxAll (zs gs : List Int) (k : Nat) : Bool := (List.range k).all fun i => idxFine zs gs i (gs.length - i)
theorem idxAll_succ {zs gs : List Int} {k : Nat} (h : idxAll zs gs k = true) (h2 : idxFine zs gs k (gs.length - k) = true) : idxAll zs gs (k + 1) = true := by
  unfold idxAll at h ⊢
  rw [List.range_succ, List.all_append, h]; simp [h2]
theorem idxFine_succ {zs gs : List Int} {i k : Nat} (h : idxFine zs gs i k = true) (h2 : inB (idxAt zs gs i (k + 1)) 0 1000000000000 = true) : idxFine zs gs i (k + 1) = true := by
  unfold idxFine at h ⊢
  rw [List.range_succ, List.all_append, h]; simp [h2]
def idxFull (zs gs : List Int) : Bool := idxOk zs gs && idxAll zs gs zs.length
def IndexPays_r0 (zs gs : List Int) : List Int := if idxFull zs gs then idxTo zs gs zs.length else []
def IndexPays_r1 (zs gs : List Int) : Bool := idxFull zs gs
theorem IndexPays_len (zs gs : List Int) : (IndexPays_r0 zs gs).length ≤ 60 := by
  unfold IndexPays_r0
  split
  · rename_i h
    simp only [idxFull, idxOk, Bool.and_eq_true] at h
    rw [idxTo_length]
    have := (cntIn_iff.1 h.1.1.1).2.1
    omega
  · simp
theorem idx_no {zs gs : List Int} (h : idxFull zs gs = false) : IndexPays_r0 zs gs = [] ∧ IndexPays_r1 zs gs = false := by
  unfold IndexPays_r0 IndexPays_r1; rw [h]; exact ⟨rfl, rfl⟩
theorem idx_yes {zs gs : List Int} (h : idxFull zs gs = true) : IndexPays_r0 zs gs = idxTo zs gs zs.length ∧ IndexPays_r1 zs gs = true := by
  unfold IndexPays_r0 IndexPays_r1; rw [h]; exact ⟨rfl, rfl⟩
theorem idx_stop {zs gs : List Int} {i j : Nat} (hi : i < zs.length) (hj : j < gs.length - i) (h : inB (idxAt zs gs i (j + 1)) 0 1000000000000 = false) : IndexPays_r0 zs gs = [] ∧ IndexPays_r1 zs gs = false := by
  refine idx_no ?_
  have h1 : idxFine zs gs i (gs.length - i) = false := by
    unfold idxFine
    rw [List.all_eq_false]
    exact ⟨j, List.mem_range.2 hj, by simp [h]⟩
  have h2 : idxAll zs gs zs.length = false := by
    unfold idxAll
    rw [List.all_eq_false]
    exact ⟨i, List.mem_range.2 hi, by simp [h1]⟩
  simp [idxFull, h2]
theorem idx_bd {p g : Int} (c1 : 0 ≤ p ∧ p ≤ 1000000000000) (c2 : 0 ≤ g ∧ g ≤ 10000) : (0 ≤ p * (10000 + g) ∧ p * (10000 + g) ≤ 20000000000000000) := by
  have a := mul_bd 1000000000000 20000 (a := p) (b := 10000 + g) (by omega) (by omega) (by omega) (by omega)
  omega
set_option maxRecDepth 100000 in
set_option maxHeartbeats 1600000 in
theorem impl_IndexPays (A : Option Addr) (n : Nat) (zs : List Int) (B : Option Addr) (m : Nat) (gs : List Int) (w : World) (hr : Rd w w.heap.size 1 A n (ints zs)) (hn : n ≤ 1048576) (hz : I64s zs) (hs : Rd w w.heap.size 1 B m (ints gs)) (hm : m ≤ 1048576) (hy : I64s gs) :
    Calls Try.prog 36 #[.slice A n n, .slice B m m] w (SlEnds w (IndexPays_r0 zs gs) (IndexPays_r1 zs gs)) := by
  have HL := Lib.hid hr.ilen
  have HM := Lib.hid hs.ilen
  have hB : Below w.heap.size w w := Below.refl _ _
  rcases Bool.eq_false_or_eq_true (cntIn zs 1 60 0 1000000000000) with h1 | h1
  case inr =>
    have hno := Lib.hid (idx_no (zs := zs) (gs := gs) (by simp [idxFull, idxOk, h1]))
    go_enter Try.func36, Try.ntmps36
    go_wp2_with fail
    refine (areYears_any _ _ _ zs _ hr (by omega)).mono ?_
    rintro e w1 ⟨rfl, hb⟩
    go_wp2_with fail
    go_ret2
    rw [hno.out.1, hno.out.2]; exact sl_no hb
  obtain ⟨l1, l2, l3⟩ := cntIn_iff.1 h1
  have H3 := Lib.hid l3
  have hn60 : 1 ≤ n ∧ n ≤ 60 := by have := HL.out; omega
  clear l1 l2 l3
  by_cases h2 : m + 1 = n
  case neg =>
    have hno := Lib.hid (idx_no (zs := zs) (gs := gs) (by have := HL.out; have := HM.out; simp [idxFull, idxOk, *]))
    go_enter Try.func36, Try.ntmps36
    go_wp2_with fail
    refine (areYears_any _ _ _ zs _ hr (by omega)).mono ?_
    rintro e w1 ⟨rfl, hb⟩
    go_wp2_with fail
    go_ret2
    rw [hno.out.1, hno.out.2]; exact sl_no hb
  subst h2
  rcases Bool.eq_false_or_eq_true (allIn gs 0 10000) with h3 | h3
  case inr =>
    have hno := Lib.hid (idx_no (zs := zs) (gs := gs) (by simp [idxFull, idxOk, h3]))
    go_enter Try.func36, Try.ntmps36
    go_wp2_with fail
    refine (areYears_any _ _ _ zs _ hr (by omega)).mono ?_
    rintro e w1 ⟨rfl, hb⟩
    replace hB := below_step hB hb
    clear hb
    go_wp2_with fail
    refine (areWithin_any _ _ _ gs _ _ _ ((hs.below hB).more hB.size) (by omega)).mono ?_
    rintro e w2 ⟨rfl, hb⟩
    replace hB := below_step hB hb
    go_wp2_with fail
    go_ret2
    rw [hno.out.1, hno.out.2]; exact sl_no hB
  have hok := Lib.hid (show idxOk zs gs = true by have := HL.out; have := HM.out; simp [idxOk, *])
  have H4 := Lib.hid h3
  go_enter Try.func36, Try.ntmps36
  go_wp2_with fail
  refine (areYears_any _ _ _ zs _ hr (by omega)).mono ?_
  rintro e w1 ⟨rfl, hb⟩
  replace hB := below_step hB hb
  clear hb
  go_wp2_with fail
  refine (areWithin_any _ _ _ gs _ _ _ ((hs.below hB).more hB.size) (by omega)).mono ?_
  rintro e w2 ⟨rfl, hb⟩
  replace hB := below_step hB hb
  clear hb
  go_wp2_with fail
  clear h1 h3 hz hy hm
  go_loopw [6, 7, 8, 10, 30, 37, 38, 39] (fun v _ _ _ i _ _ _ wr => ∃ k : Nat, k ≤ m + 1 ∧ i = .int .i64 k ∧ wr.ownsRow w.heap.size 2 1 v k (ints (idxTo zs gs k)) ∧ Below w.heap.size w wr ∧ idxAll zs gs k = true) (fun _ _ _ _ i _ _ _ _ => m + 1 - (intOf i).toNat)
  case atStart => exact ⟨0, Nat.zero_le _, rfl, own_base (own_empty _ _) hB.size, hB.alloc hB.size _, rfl⟩
  case round =>
    obtain ⟨k, hk, rfl, hown, hbw, hall⟩ := hrel
    have HALL := Lib.hid hall
    clear hall hB
    by_cases hlt : k < m + 1
    · obtain ⟨ad, rfl, hc⟩ := (hr.below hbw).int hlt
      clear hr
      have bp := allIn_at H3.out _ (getD_mem (zs := zs) (k := k) (by have := HL.out; omega))
      have hst := Lib.hid (idxTo_succ zs gs k)
      have hall2 := fun h => idxAll_succ (zs := zs) (gs := gs) (k := k) HALL.out h
      have HALL2 := Lib.hid hall2
      clear hall2
      have hd0 : decide ((k : Int) < (m : Int) + 1) = true := by simp; omega
      by_cases hkm : k < m
      · obtain ⟨ae, _, rfl, _⟩ := hs.at_ (k := 0) (by omega)
        have hsub := (hs.below hbw).sub (j := k) (k := m - k) (by omega)
        rw [ints_drop, ints_take] at hsub
        have hln : ((gs.drop k).take (m - k)).length = m - k := by have := HM.out; rw [List.length_take, List.length_drop]; omega
        have hat : ∀ j, j < m - k → ((gs.drop k).take (m - k))[j]?.getD 0 = gs[k + j]?.getD 0 := fun j hj => by
          rw [List.getElem?_take, if_pos hj, List.getElem?_drop]
        have HAT := Lib.hid hat
        have HLN := Lib.hid hln
        clear hat hln hs
        go_wp2_with fail
        obtain ⟨wo, rfl⟩ : ∃ wo : World, wo = wr := ⟨_, rfl⟩
        go_loopw [8, 10, 39] (fun p _ jv wi => ∃ j q : Nat, j ≤ m - k ∧ jv = .int .i64 j ∧ p = .int .i64 (idxAt zs gs k j) ∧ idxFine zs gs k j = true ∧ inB (idxAt zs gs k j) 0 1000000000000 = true ∧ wo.drewN q = wi) (fun _ _ jv _ => m - (intOf jv).toNat)
        case atStart => exact ⟨0, 0, Nat.zero_le _, rfl, rfl, rfl, inB_iff.2 bp, rfl⟩
        case round =>
          obtain ⟨j, q, hj, rfl, rfl, hfine, hin, rfl⟩ := hrel
          have HF := Lib.hid hfine
          have HIN := Lib.hid hin
          clear hfine hin
          by_cases hjl : j < m - k
          · obtain ⟨af, hE, hd⟩ := (hsub.drewN q).int hjl
            cases hE
            rw [HAT.out j hjl] at hd
            have bg := allIn_at H4.out _ (getD_mem (zs := gs) (k := k + j) (by have := HM.out; omega))
            have bu := inB_iff.1 HIN.out
            obtain ⟨x, hx⟩ : ∃ x, x = idxAt zs gs k j := ⟨_, rfl⟩
            obtain ⟨y, hy⟩ : ∃ y, y = gs[k + j]?.getD 0 := ⟨_, rfl⟩
            have hv : idxAt zs gs k (j + 1) = rnd (x * (10000 + y)) 10000 1 := by rw [hx, hy]; rfl
            rw [← hx] at bu ⊢
            rw [← hy] at bg hd
            have HV := Lib.hid hv
            clear hx hy hv
            have bm := idx_bd bu bg
            go_wp2_with fail
            refine (rounded_any _ _ _ _ (by omega) (by omega) (by omega) (by omega)).mono ?_
            rintro e w3 ⟨rfl, q2, rfl⟩
            obtain ⟨z, hz⟩ : ∃ z, z = rnd (x * (10000 + y)) 10000 1 := ⟨_, rfl⟩
            rw [← hz]
            have HZ := Lib.hid hz
            clear hz
            rcases Bool.eq_false_or_eq_true (inB z 0 1000000000000) with h6 | h6
            · have hF2 := Lib.hid (idxFine_succ HF.out (by rw [HV.out, ← HZ.out, h6]))
              go_wp2_with (go_at_call 48; refine (isAmount_any _ _).mono ?_; rintro e w' ⟨rfl, rfl⟩)
              go_roundw
              case rel => exact ⟨j + 1, q + q2, by omega, by go_num, by rw [HV.out, HZ.out], hF2.out, by rw [HV.out, ← HZ.out, h6], rfl⟩
              case measure => simp [intOf]; omega
            · have hno := Lib.hid (idx_stop (zs := zs) (gs := gs) (i := k) (j := j) (by have := HL.out; omega) (by have := HM.out; omega) (by rw [HV.out, ← HZ.out, h6]))
              go_wp2_with (go_at_call 48; refine (isAmount_any _ _).mono ?_; rintro e w' ⟨rfl, rfl⟩)
              go_ret2
              rw [hno.out.1, hno.out.2]
              exact sl_no (below_drewN hbw _)
          · obtain rfl : m - k = j := by omega
            have hq := own_drewN hown q
            have hbq := below_drewN hbw q
            have hgl : gs.length - k = m - k := by have := HM.out; omega
            have HGL := Lib.hid hgl
            clear hgl
            obtain ⟨x, hx⟩ : ∃ x, x = idxAt zs gs k (m - k) := ⟨_, rfl⟩
            rw [← hx]
            have HX := Lib.hid hx
            clear hx
            go_wp2_with (at_builtin; refine append_int rfl (.tmp 52) (.tmp 54) rfl w _ k (idxTo zs gs k) rfl (hq.alloc _) (hbq.alloc hbq.size _) _ _ x rfl (cell_new _ _ _) (by omega) ?_; intro v' w' ho2 hb2)
            go_roundw
            case rel => exact ⟨k + 1, by omega, by go_num, by rw [hst.out, HGL.out, ← HX.out]; exact ho2, hb2, HALL2.out (by rw [HGL.out]; exact HF.out)⟩
            case measure => simp [intOf]; omega
      · obtain rfl : m = k := by omega
        clear hs
        have hgl : gs.length - m = 0 := by have := HM.out; omega
        have HGL := Lib.hid hgl
        clear hgl
        obtain ⟨x, hx⟩ : ∃ x, x = zs[m]?.getD 0 := ⟨_, rfl⟩
        rw [← hx] at hc
        have HX := Lib.hid hx
        clear hx
        go_wp2_with fail
        refine wp_loop_rounds 1 ?_
        rw [rounds_succ]
        go_wp2_with (at_builtin; refine append_int rfl (.tmp 52) (.tmp 54) rfl w _ m (idxTo zs gs m) rfl (hown.alloc _) (hbw.alloc hbw.size _) _ _ x rfl (cell_new _ _ _) (by omega) ?_; intro v' w' ho2 hb2)
        go_roundw
        case rel => exact ⟨m + 1, by omega, by go_num, by rw [hst.out, HGL.out]; show World.ownsRow _ _ _ _ _ _ (ints (idxTo zs gs m ++ [zs[m]?.getD 0])); rw [← HX.out]; exact ho2, hb2, HALL2.out (by rw [HGL.out]; rfl)⟩
        case measure => first | (simp [intOf]; done) | (simp [intOf]; omega)
    · obtain rfl : m + 1 = k := by omega
      have hyes := Lib.hid (idx_yes (zs := zs) (gs := gs) (by have h1 := hok.out; have h2 := HALL.out; simp [idxFull, h1, HL.out, h2]))
      go_wp2_with fail
      go_ret2
      rw [hyes.out.1, hyes.out.2, HL.out]
      exact sl_yes (idxTo_length _ _ _) hown hbw
set_option maxRecDepth 100000 in
set_option maxHeartbeats 1600000 in
theorem spec_IndexPays (A : Option Addr) (n : Nat) (zs : List Int) (B : Option Addr) (m : Nat) (gs : List Int) (w : World) (hr : Rd w w.heap.size 1 A n (ints zs)) (hn : n ≤ 1048576) (hz : I64s zs) (hs : Rd w w.heap.size 1 B m (ints gs)) (hm : m ≤ 1048576) (hy : I64s gs) :
    Calls Try.prog 35 #[.slice A n n, .slice B m m] w (SlEnds w (IndexPays_r0 zs gs) (IndexPays_r1 zs gs)) := by
  have HL := Lib.hid hr.ilen
  have HM := Lib.hid hs.ilen
  have hB : Below w.heap.size w w := Below.refl _ _
  rcases Bool.eq_false_or_eq_true (cntIn zs 1 60 0 1000000000000) with h1 | h1
  case inr =>
    have hno := Lib.hid (idx_no (zs := zs) (gs := gs) (by simp [idxFull, idxOk, h1]))
    go_enter Try.func35, Try.ntmps35
    go_wp2_with (go_at_call 59; refine (l06Pays_any _ _ _ zs _ hr (by omega)).mono ?_; rintro e w' ⟨rfl, rfl⟩)
    go_ret2
    rw [hno.out.1, hno.out.2]; exact sl_no hB
  obtain ⟨l1, l2, l3⟩ := cntIn_iff.1 h1
  have H3 := Lib.hid l3
  have hn60 : 1 ≤ n ∧ n ≤ 60 := by have := HL.out; omega
  clear l1 l2 l3
  by_cases h2 : m + 1 = n
  case neg =>
    have hno := Lib.hid (idx_no (zs := zs) (gs := gs) (by have := HL.out; have := HM.out; simp [idxFull, idxOk, *]))
    go_enter Try.func35, Try.ntmps35
    go_wp2_with (go_at_call 59; refine (l06Pays_any _ _ _ zs _ hr (by omega)).mono ?_; rintro e w' ⟨rfl, rfl⟩)
    go_ret2
    rw [hno.out.1, hno.out.2]; exact sl_no hB
  subst h2
  have H1 := Lib.hid h1
  go_enter Try.func35, Try.ntmps35
  go_wp2_with (go_at_call 59; refine (l06Pays_any _ _ _ zs _ hr (by omega)).mono ?_; rintro e w' ⟨rfl, rfl⟩)
  clear h1 hz hy hm
  go_loop [6] (fun i => ∃ k : Nat, k ≤ m ∧ i = .int .i64 k ∧ allIn (gs.take k) 0 10000 = true) (fun i => m - (intOf i).toNat)
  case atStart => exact ⟨0, Nat.zero_le _, rfl, rfl⟩
  case round =>
    obtain ⟨k, hk, rfl, ha⟩ := hrel
    have HA := Lib.hid ha
    clear ha
    by_cases hlt : k < m
    · obtain ⟨ad, rfl, hc⟩ := hs.int hlt
      clear hr hs
      obtain ⟨z, hz⟩ : ∃ z, z = gs[k]?.getD 0 := ⟨_, rfl⟩
      rw [← hz] at hc
      have HZ := Lib.hid hz
      clear hz
      rcases Bool.eq_false_or_eq_true (inB z 0 10000) with hb | hb
      · go_wp2_with (go_at_call 47; refine (l02Rate_any _ _).mono ?_; rintro e w' ⟨rfl, rfl⟩)
        go_round
        case rel => exact ⟨k + 1, by omega, by go_num, allIn_snoc HA.out (by have := HM.out; omega) (by rw [← HZ.out, hb])⟩
        case measure => simp [intOf]; omega
      · have hno := Lib.hid (idx_no (zs := zs) (gs := gs) (by
          have := allIn_not (zs := gs) (k := k) (lo := 0) (hi := 10000) (by have := HM.out; omega) (by rw [← HZ.out, hb])
          simp [idxFull, idxOk, this]))
        go_wp2_with (go_at_call 47; refine (l02Rate_any _ _).mono ?_; rintro e w' ⟨rfl, rfl⟩)
        go_ret2
        rw [hno.out.1, hno.out.2]; exact sl_no hB
    · obtain rfl : m = k := by omega
      have H4 := Lib.hid (show allIn gs 0 10000 = true by have := HA.out; rwa [List.take_of_length_le (by have := HM.out; omega)] at this)
      have hok := Lib.hid (show idxOk zs gs = true by have := HL.out; have := HM.out; have h1 := H1.out; have h4 := H4.out; simp [idxOk, *])
      clear HA
      go_wp2_with fail
      go_loopw [7, 8, 9, 10] (fun v i _ _ wr => ∃ k : Nat, k ≤ m + 1 ∧ i = .int .i64 k ∧ wr.ownsRow w.heap.size 2 1 v k (ints (idxTo zs gs k)) ∧ Below w.heap.size w wr ∧ idxAll zs gs k = true) (fun _ i _ _ _ => m + 1 - (intOf i).toNat)
      case atStart => exact ⟨0, Nat.zero_le _, rfl, own_base (own_empty _ _) hB.size, hB.alloc hB.size _, rfl⟩
      case round =>
        obtain ⟨k, hk, rfl, hown, hbw, hall⟩ := hrel
        have HALL := Lib.hid hall
        clear hall hB
        by_cases hlt : k < m + 1
        · obtain ⟨ad, rfl, hc⟩ := (hr.below hbw).int hlt
          clear hr
          have bp := allIn_at H3.out _ (getD_mem (zs := zs) (k := k) (by have := HL.out; omega))
          have hst := Lib.hid (idxTo_succ zs gs k)
          have hall2 := fun h => idxAll_succ (zs := zs) (gs := gs) (k := k) HALL.out h
          have HALL2 := Lib.hid hall2
          clear hall2
          have hd0 : decide ((k : Int) < (m : Int) + 1) = true := by simp; omega
          go_wp2_with fail
          obtain ⟨wo, rfl⟩ : ∃ wo : World, wo = wr := ⟨_, rfl⟩
          go_loopw [9, 10] (fun p jv wi => ∃ j : Nat, k + j ≤ max m k ∧ jv = .int .i64 ((k + j : Nat) : Int) ∧ p = .int .i64 (idxAt zs gs k j) ∧ idxFine zs gs k j = true ∧ inB (idxAt zs gs k j) 0 1000000000000 = true ∧ wo = wi) (fun _ jv _ => m - (intOf jv).toNat)
          case atStart => exact ⟨0, by omega, rfl, rfl, rfl, inB_iff.2 bp, rfl⟩
          case round =>
            obtain ⟨j, hj, rfl, rfl, hfine, hin, rfl⟩ := hrel
            have HF := Lib.hid hfine
            have HIN := Lib.hid hin
            clear hfine hin
            by_cases hjl : k + j < m
            · obtain ⟨ae, rfl, hd⟩ := (hs.below hbw).int hjl
              clear hs
              have bg := allIn_at H4.out _ (getD_mem (zs := gs) (k := k + j) (by have := HM.out; omega))
              have bu := inB_iff.1 HIN.out
              obtain ⟨x, hx⟩ : ∃ x, x = idxAt zs gs k j := ⟨_, rfl⟩
              obtain ⟨y, hy⟩ : ∃ y, y = gs[k + j]?.getD 0 := ⟨_, rfl⟩
              have hv : idxAt zs gs k (j + 1) = rnd (x * (10000 + y)) 10000 1 := by rw [hx, hy]; rfl
              rw [← hx] at bu ⊢
              rw [← hy] at bg hd
              have HV := Lib.hid hv
              clear hx hy hv
              have bm := idx_bd bu bg
              go_wp2_with fail
              refine (l02Round_any _ _ _ _ (by omega) (by omega) (by omega) (by omega)).mono ?_
              rintro e w3 ⟨rfl, rfl⟩
              obtain ⟨z, hz⟩ : ∃ z, z = rnd (x * (10000 + y)) 10000 1 := ⟨_, rfl⟩
              rw [← hz]
              have HZ := Lib.hid hz
              clear hz
              rcases Bool.eq_false_or_eq_true (inB z 0 1000000000000) with h6 | h6
              · have hF2 := Lib.hid (idxFine_succ HF.out (by rw [HV.out, ← HZ.out, h6]))
                go_wp2_with (go_at_call 46; refine (l02Cents_any _ _).mono ?_; rintro e w' ⟨rfl, rfl⟩)
                go_roundw
                case rel => exact ⟨j + 1, by omega, by go_num, by rw [HV.out, HZ.out], hF2.out, by rw [HV.out, ← HZ.out, h6], trivial⟩
                case measure => simp [intOf]; omega
              · have hno := Lib.hid (idx_stop (zs := zs) (gs := gs) (i := k) (j := j) (by have := HL.out; omega) (by have := HM.out; omega) (by rw [HV.out, ← HZ.out, h6]))
                go_wp2_with (go_at_call 46; refine (l02Cents_any _ _).mono ?_; rintro e w' ⟨rfl, rfl⟩)
                go_ret2
                rw [hno.out.1, hno.out.2]
                exact sl_no hbw
            · have hgl : gs.length - k = j := by have := HM.out; omega
              have HGL := Lib.hid hgl
              clear hgl hs
              obtain ⟨x, hx⟩ : ∃ x, x = idxAt zs gs k j := ⟨_, rfl⟩
              rw [← hx]
              have HX := Lib.hid hx
              clear hx
              go_wp2_with (at_builtin; refine append_int rfl (.tmp 63) (.tmp 65) rfl w _ k (idxTo zs gs k) rfl (hown.alloc _) (hbw.alloc hbw.size _) _ _ x rfl (cell_new _ _ _) (by omega) ?_; intro v' w' ho2 hb2)
              go_roundw
              case rel => exact ⟨k + 1, by omega, by go_num, by rw [hst.out, HGL.out, ← HX.out]; exact ho2, hb2, HALL2.out (by rw [HGL.out]; exact HF.out)⟩
              case measure => first | (simp [intOf]; done) | (simp [intOf]; omega)
        · obtain rfl : m + 1 = k := by omega
          have hyes := Lib.hid (idx_yes (zs := zs) (gs := gs) (by have h1 := hok.out; have h2 := HALL.out; simp [idxFull, h1, HL.out, h2]))
          go_wp2_with fail
          go_ret2
          rw [hyes.out.1, hyes.out.2, HL.out]
          exact sl_yes (idxTo_length _ _ _) hown hbw
end Go.Proofs.Ytpealngmghcmdaa
