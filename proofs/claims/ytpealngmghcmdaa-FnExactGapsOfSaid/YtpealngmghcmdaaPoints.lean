/-
  PointsOf: what the program's and the reference's function return.
-/
import Derived.Test.YtpealngmghcmdaaApp
namespace Go.Proofs.Ytpealngmghcmdaa
open Go.ChangeShapes Go.WideShapes Go.ChangeAt Go.RowKit
set_option linter.unusedVariables false

def ptsOk (zs ms : List Int) (most : Int) : Bool := cntIn zs 1 60 0 1000000000000 && decide (ms.length = zs.length) && allIn ms 1 1000000000000 && inB most 0 1000000
def ptsAt (zs ms : List Int) (most : Int) (i : Nat) : Int := min most (rnd (zs[i]?.getD 0 * 10000) (ms[i]?.getD 0) 1)
def ptsTo (zs ms : List Int) (most : Int) (k : Nat) : List Int := (List.range k).map (ptsAt zs ms most)
theorem ptsTo_succ (zs ms : List Int) (most : Int) (k : Nat) : ptsTo zs ms most (k + 1) = ptsTo zs ms most k ++ [ptsAt zs ms most k] := by
  simp [ptsTo, List.range_succ]
theorem ptsTo_length (zs ms : List Int) (most : Int) (k : Nat) : (ptsTo zs ms most k).length = k := by simp [ptsTo]
def PointsOf_r0 (zs ms : List Int) (most : Int) : List Int := if ptsOk zs ms most then ptsTo zs ms most zs.length else []
def PointsOf_r1 (zs ms : List Int) (most : Int) : Bool := ptsOk zs ms most
theorem PointsOf_len (zs ms : List Int) (most : Int) : (PointsOf_r0 zs ms most).length ≤ 60 := by
  unfold PointsOf_r0
  split
  · rename_i h
    simp only [ptsOk, Bool.and_eq_true] at h
    rw [ptsTo_length]
    have := (cntIn_iff.1 h.1.1.1).2.1
    omega
  · simp
/-- the ending of a function that returns a slice and whether it is one -/
def SlEnds (W : World) (rs : List Int) (ok : Bool) (E : Ending) (w' : World) : Prop :=
  ∃ v, E = .returned (.tuple #[v, .bool ok]) ∧ w'.ownsRow W.heap.size 2 1 v rs.length (ints rs) ∧ Below W.heap.size W w'
theorem sl_no {W w' : World} (hb : Below W.heap.size W w') : SlEnds W [] false (.returned (.tuple #[.slice none 0 0, .bool false])) w' :=
  ⟨_, rfl, World.ownsRow_nil _ _ _ _, hb⟩
theorem sl_yes {W w' : World} {rs : List Int} {v : Value} {n : Nat} (hn : rs.length = n) (ho : w'.ownsRow W.heap.size 2 1 v n (ints rs)) (hb : Below W.heap.size W w') : SlEnds W rs true (.returned (.tuple #[v, .bool true])) w' := by
  subst hn; exact ⟨_, rfl, ho, hb⟩
theorem pts_no {zs ms : List Int} {most : Int} (h : ptsOk zs ms most = false) : PointsOf_r0 zs ms most = [] ∧ PointsOf_r1 zs ms most = false := by
  unfold PointsOf_r0 PointsOf_r1; rw [h]; exact ⟨rfl, rfl⟩
theorem pts_yes {zs ms : List Int} {most : Int} (h : ptsOk zs ms most = true) : PointsOf_r0 zs ms most = ptsTo zs ms most zs.length ∧ PointsOf_r1 zs ms most = true := by
  unfold PointsOf_r0 PointsOf_r1; rw [h]; exact ⟨rfl, rfl⟩
set_option maxHeartbeats 1600000 in
theorem impl_PointsOf (A : Option Addr) (n c : Nat) (zs : List Int) (B : Option Addr) (m d : Nat) (ms : List Int) (most : Int) (w : World) (hr : Rd w w.heap.size 1 A n (ints zs)) (hn : n ≤ 1048576) (hz : I64s zs) (hs : Rd w w.heap.size 1 B m (ints ms)) (hm : m ≤ 1048576) (hy : I64s ms) (b1 : -9223372036854775808 ≤ most ∧ most ≤ 9223372036854775807) :
    Calls Try.prog 34 #[.slice A n c, .slice B m d, .int .i64 most] w (SlEnds w (PointsOf_r0 zs ms most) (PointsOf_r1 zs ms most)) := by
  have HL := Lib.hid hr.ilen
  have HM := Lib.hid hs.ilen
  cases h1 : cntIn zs 1 60 0 1000000000000
  · rw [(pts_no (ms := ms) (most := most) (by simp [ptsOk, h1])).1, (pts_no (ms := ms) (most := most) (by simp [ptsOk, h1])).2]
    go_enter Try.func34, Try.ntmps34
    go_wp2_with fail
    refine (areYears_any _ _ _ zs _ hr (by omega)).mono ?_
    rintro e w' ⟨rfl, hb⟩
    go_wp2_with fail
    go_ret2
    exact sl_no hb
  have hn60 : n ≤ 60 := by have := (cntIn_iff.1 h1).2.1; have := HL.out; omega
  by_cases h2 : m = n
  case neg =>
    have hno := pts_no (zs := zs) (ms := ms) (most := most) (by simp [ptsOk, HL.out, HM.out, h2])
    rw [hno.1, hno.2]
    clear hno
    go_enter Try.func34, Try.ntmps34
    go_wp2_with fail
    refine (areYears_any _ _ _ zs _ hr (by omega)).mono ?_
    rintro e w' ⟨rfl, hb⟩
    go_wp2_with fail
    go_ret2
    exact sl_no hb
  subst h2
  cases h3 : allIn ms 1 1000000000000
  · have hno := pts_no (zs := zs) (ms := ms) (most := most) (by simp [ptsOk, h3])
    rw [hno.1, hno.2]
    clear hno
    go_enter Try.func34, Try.ntmps34
    go_wp2_with fail
    refine (areYears_any _ _ _ zs _ hr (by omega)).mono ?_
    rintro e w1 ⟨rfl, hb⟩
    go_wp2_with fail
    refine (areWithin_any _ _ _ ms _ _ _ (hs.on hb) (by omega)).mono ?_
    rintro e w2 ⟨rfl, hb2⟩
    go_wp2_with fail
    go_ret2
    exact sl_no (below_step hb hb2)
  cases h4 : inB most 0 1000000
  · have hno := pts_no (zs := zs) (ms := ms) (most := most) (by simp [ptsOk, h4])
    rw [hno.1, hno.2]
    clear hno
    go_enter Try.func34, Try.ntmps34
    go_wp2_with fail
    refine (areYears_any _ _ _ zs _ hr (by omega)).mono ?_
    rintro e w1 ⟨rfl, hb⟩
    go_wp2_with fail
    refine (areWithin_any _ _ _ ms _ _ _ (hs.on hb) (by omega)).mono ?_
    rintro e w2 ⟨rfl, hb2⟩
    go_wp2_with (go_at_call 45; refine (within_any _ _ _ _).mono ?_; rintro e w' ⟨rfl, rfl⟩)
    go_ret2
    exact sl_no (below_step hb hb2)
  have hyes := pts_yes (zs := zs) (ms := ms) (most := most) (by simp [ptsOk, h1, h3, h4, HL.out, HM.out])
  rw [hyes.1, hyes.2, HL.out]
  clear hyes
  have H1 := Lib.hid (cntIn_iff.1 h1).2.2
  have H3 := Lib.hid h3
  have b2 := inB_iff.1 h4
  go_enter Try.func34, Try.ntmps34
  go_wp2_with fail
  refine (areYears_any _ _ _ zs _ hr (by omega)).mono ?_
  rintro e w1 ⟨rfl, hb⟩
  go_wp2_with fail
  refine (areWithin_any _ _ _ ms _ _ _ (hs.on hb) (by omega)).mono ?_
  rintro e w2 ⟨rfl, hb2⟩
  replace hb := below_step hb hb2
  clear hb2
  go_wp2_with (go_at_call 45; refine (within_any _ _ _ _).mono ?_; rintro e w' ⟨rfl, rfl⟩)
  clear h1 h3 h4
  go_loopw [8, 9, 10, 34] (fun v _ _ i wr => ∃ k : Nat, k ≤ m ∧ i = .int .i64 k ∧ wr.ownsRow w.heap.size 2 1 v k (ints (ptsTo zs ms most k)) ∧ Below w.heap.size w wr) (fun _ _ _ i _ => m - (intOf i).toNat)
  case atStart => exact ⟨0, Nat.zero_le _, rfl, own_base (own_empty _ _) hb.size, hb.alloc hb.size _⟩
  case round =>
    obtain ⟨k, hk, rfl, hown, hbw⟩ := hrel
    clear hb
    by_cases hlt : k < m
    · obtain ⟨ad, rfl, hc⟩ := (hr.below hbw).int hlt
      obtain ⟨ae, rfl, hd⟩ := (hs.below hbw).int hlt
      clear hr hs
      obtain ⟨x, hx⟩ : ∃ x, x = zs[k]?.getD 0 := ⟨_, rfl⟩
      obtain ⟨y, hy'⟩ : ∃ y, y = ms[k]?.getD 0 := ⟨_, rfl⟩
      have bx := allIn_at H1.out _ (getD_mem (zs := zs) (k := k) (by have := HL.out; omega))
      have bY := allIn_at H3.out _ (getD_mem (zs := ms) (k := k) (by have := HM.out; omega))
      rw [← hx] at hc bx
      rw [← hy'] at hd bY
      have hv : ptsAt zs ms most k = min most (rnd (x * 10000) y 1) := by rw [hx, hy']; rfl
      have HV := Lib.hid hv
      clear hx hy' hv
      go_wp2_with fail
      refine (rounded_any _ _ _ _ (by omega) (by omega) (by omega) (by omega)).mono ?_
      rintro e w3 ⟨rfl, q, rfl⟩
      obtain ⟨z, hz'⟩ : ∃ z, z = rnd (x * 10000) y 1 := ⟨_, rfl⟩
      rw [← hz']
      have HZ := Lib.hid hz'
      clear hz'
      have hq := own_drewN hown q
      have hbq := below_drewN hbw q
      have hst := Lib.hid (ptsTo_succ zs ms most k)
      by_cases hz2 : most ≤ z
      · have hx2 : ptsAt zs ms most k = most := by rw [HV.out, ← HZ.out]; omega
        have HX2 := Lib.hid hx2
        clear hx2
        go_wp2_with (at_builtin; refine append_int rfl (.tmp 39) (.tmp 49) rfl w _ k (ptsTo zs ms most k) rfl (hq.alloc _) (hbq.alloc hbq.size _) _ _ most rfl (cell_new _ _ _) (by omega) ?_; intro v' w' ho2 hb2)
        go_roundw
        case rel => exact ⟨k + 1, by omega, by go_num, by rw [hst.out, HX2.out]; exact ho2, hb2⟩
        case measure => simp [intOf]; omega
      · have hx2 : ptsAt zs ms most k = z := by rw [HV.out, ← HZ.out]; omega
        have HX2 := Lib.hid hx2
        clear hx2
        go_wp2_with (at_builtin; refine append_int rfl (.tmp 39) (.tmp 49) rfl w _ k (ptsTo zs ms most k) rfl (hq.alloc _) (hbq.alloc hbq.size _) _ _ z rfl (cell_new _ _ _) (by omega) ?_; intro v' w' ho2 hb2)
        go_roundw
        case rel => exact ⟨k + 1, by omega, by go_num, by rw [hst.out, HX2.out]; exact ho2, hb2⟩
        case measure => simp [intOf]; omega
    · obtain rfl : m = k := by omega
      go_wp2_with fail
      go_ret2
      exact sl_yes (ptsTo_length _ _ _ _) hown hbw
set_option maxHeartbeats 1600000 in
theorem spec_PointsOf (A : Option Addr) (n c : Nat) (zs : List Int) (B : Option Addr) (m d : Nat) (ms : List Int) (most : Int) (w : World) (hr : Rd w w.heap.size 1 A n (ints zs)) (hn : n ≤ 1048576) (hz : I64s zs) (hs : Rd w w.heap.size 1 B m (ints ms)) (hm : m ≤ 1048576) (hy : I64s ms) (b1 : -9223372036854775808 ≤ most ∧ most ≤ 9223372036854775807) :
    Calls Try.prog 33 #[.slice A n c, .slice B m d, .int .i64 most] w (SlEnds w (PointsOf_r0 zs ms most) (PointsOf_r1 zs ms most)) := by
  have HL := Lib.hid hr.ilen
  have HM := Lib.hid hs.ilen
  cases h1 : cntIn zs 1 60 0 1000000000000
  · rw [(pts_no (ms := ms) (most := most) (by simp [ptsOk, h1])).1, (pts_no (ms := ms) (most := most) (by simp [ptsOk, h1])).2]
    go_enter Try.func33, Try.ntmps33
    go_wp2_with (go_at_call 59; refine (l06Pays_any _ _ _ zs _ hr (by omega)).mono ?_; rintro e w' ⟨rfl, rfl⟩)
    go_ret2
    exact sl_no (Below.refl _ _)
  have hn60 : n ≤ 60 := by have := (cntIn_iff.1 h1).2.1; have := HL.out; omega
  cases h2 : cntIn ms 1 60 0 1000000000000
  · have hno := pts_no (zs := zs) (ms := ms) (most := most) (by
      cases hx : ptsOk zs ms most with
      | false => rfl
      | true =>
        simp only [ptsOk, Bool.and_eq_true, decide_eq_true_eq] at hx
        have h3 := allIn_at hx.1.2
        have : allIn ms 0 1000000000000 = true := List.all_eq_true.2 fun z hz => inB_iff.2 (by have := h3 z hz; omega)
        have h4 := cntIn_iff.1 h1
        have : cntIn ms 1 60 0 1000000000000 = true := cntIn_iff.2 ⟨by rw [hx.1.1.2]; exact h4.1, by rw [hx.1.1.2]; exact h4.2.1, this⟩
        rw [h2] at this; cases this)
    rw [hno.1, hno.2]
    clear hno
    go_enter Try.func33, Try.ntmps33
    go_wp2_with fail
    refine (l06Pays_any _ _ _ zs _ hr (by omega)).mono ?_
    rintro e w' ⟨rfl, rfl⟩
    go_wp2_with fail
    refine (l06Pays_any _ _ _ ms _ hs (by omega)).mono ?_
    rintro e w' ⟨rfl, rfl⟩
    go_wp2_with fail
    go_ret2
    exact sl_no (Below.refl _ _)
  by_cases h3 : m = n
  case neg =>
    have hno := pts_no (zs := zs) (ms := ms) (most := most) (by simp [ptsOk, HL.out, HM.out, h3])
    rw [hno.1, hno.2]
    clear hno
    go_enter Try.func33, Try.ntmps33
    go_wp2_with fail
    refine (l06Pays_any _ _ _ zs _ hr (by omega)).mono ?_
    rintro e w' ⟨rfl, rfl⟩
    go_wp2_with fail
    refine (l06Pays_any _ _ _ ms _ hs (by omega)).mono ?_
    rintro e w' ⟨rfl, rfl⟩
    go_wp2_with fail
    go_ret2
    exact sl_no (Below.refl _ _)
  subst h3
  cases h4 : inB most 0 1000000
  · have hno := pts_no (zs := zs) (ms := ms) (most := most) (by simp [ptsOk, h4])
    rw [hno.1, hno.2]
    clear hno
    go_enter Try.func33, Try.ntmps33
    go_wp2_with fail
    refine (l06Pays_any _ _ _ zs _ hr (by omega)).mono ?_
    rintro e w' ⟨rfl, rfl⟩
    go_wp2_with fail
    refine (l06Pays_any _ _ _ ms _ hs (by omega)).mono ?_
    rintro e w' ⟨rfl, rfl⟩
    go_wp2_with (go_at_call 43; refine (l00In_any _ _ _ _).mono ?_; rintro e w' ⟨rfl, rfl⟩)
    go_ret2
    exact sl_no (Below.refl _ _)
  have H1 := Lib.hid h1
  have H2 := Lib.hid h2
  have H4 := Lib.hid h4
  have b2 := inB_iff.1 h4
  go_enter Try.func33, Try.ntmps33
  go_wp2_with fail
  refine (l06Pays_any _ _ _ zs _ hr (by omega)).mono ?_
  rintro e w' ⟨rfl, rfl⟩
  go_wp2_with fail
  refine (l06Pays_any _ _ _ ms _ hs (by omega)).mono ?_
  rintro e w' ⟨rfl, rfl⟩
  go_wp2_with (go_at_call 43; refine (l00In_any _ _ _ _).mono ?_; rintro e w' ⟨rfl, rfl⟩)
  clear h1 h2 h4
  go_loopw [8, 9] (fun v i wr => ∃ k : Nat, k ≤ m ∧ i = .int .i64 k ∧ wr.ownsRow w.heap.size 2 1 v k (ints (ptsTo zs ms most k)) ∧ Below w.heap.size w wr ∧ allIn (ms.take k) 1 1000000000000 = true) (fun _ i _ => m - (intOf i).toNat)
  case atStart => exact ⟨0, Nat.zero_le _, rfl, own_empty _ _, (Below.refl _ _).alloc (Nat.le_refl _) _, rfl⟩
  case round =>
    obtain ⟨k, hk, rfl, hown, hbw, ha⟩ := hrel
    have HA := Lib.hid ha
    clear ha
    by_cases hlt : k < m
    · obtain ⟨ad, rfl, k1, hcw⟩ := hr.intB hlt
      obtain ⟨ae, rfl, k2, hdw⟩ := hs.intB hlt
      have hc := (hbw.cell k1).trans hcw
      have hd := (hbw.cell k2).trans hdw
      clear hr hs
      obtain ⟨x, hx⟩ : ∃ x, x = zs[k]?.getD 0 := ⟨_, rfl⟩
      obtain ⟨y, hy'⟩ : ∃ y, y = ms[k]?.getD 0 := ⟨_, rfl⟩
      have bx := allIn_at (cntIn_iff.1 H1.out).2.2 _ (getD_mem (zs := zs) (k := k) (by have := HL.out; omega))
      have bY := allIn_at (cntIn_iff.1 H2.out).2.2 _ (getD_mem (zs := ms) (k := k) (by have := HM.out; omega))
      rw [← hx] at hc hcw bx
      rw [← hy'] at hd hdw bY
      have hv : ptsAt zs ms most k = min most (rnd (x * 10000) y 1) := by rw [hx, hy']; rfl
      have HV := Lib.hid hv
      have HY := Lib.hid hy'
      clear hx hy' hv
      by_cases hy0 : y = 0
      · subst hy0
        have hno := pts_no (zs := zs) (ms := ms) (most := most) (by
          have : allIn ms 1 1000000000000 = false := allIn_not (k := k) (by have := HM.out; omega) (by rw [← HY.out]; rfl)
          simp [ptsOk, this])
        rw [hno.1, hno.2]
        clear hno
        go_wp2_with fail
        go_ret2
        exact sl_no hbw
      have hy1 : 1 ≤ y := by omega
      have hyb : (y == 0) = false := by simpa using hy0
      clear hy0
      have hst := Lib.hid (ptsTo_succ zs ms most k)
      have HA2 := Lib.hid (allIn_snoc HA.out (by have := HM.out; omega) (by rw [← HY.out]; exact inB_iff.2 (by omega)))
      have w1 : IntKind.i64.wrap (x * 10000) = x * 10000 := IntWalk.i64_in _ (by omega)
      have i1 : (0 : Int) ≤ k := by omega
      have i2 : (k : Int) < m := by omega
      go_wp2_with fail
      go_region_held3 (fun w' => w'.cell? (ad.add k) = some (.int .i64 x) ∧ w'.cell? (ae.add k) = some (.int .i64 y))
        (first | go_keep | exact ⟨(hb2.cell k1).trans hcw, (hb2.cell k2).trans hdw⟩)
        (first | (refine step_append_int rfl (.tmp 42) (.tmp 55) rfl w _ k (ptsTo zs ms most k) rfl ((hown.alloc _).drew) ((hbw.alloc hbw.size _).drew) _ _ (min most (rnd (x * 10000) y 1)) rfl (cell_new _ _ _) (by omega) ?_; intro v' w' ho2 hb2) | (go_at_call 63; refine (l02Round_any _ _ _ _ (by omega) (by omega) (by omega) (by omega)).mono ?_; rintro e w' ⟨rfl, rfl⟩) | (go_at_call 62; refine (l00Min_any _ _ _).mono ?_; rintro e w' ⟨rfl, rfl⟩))
      go_wp2_with fail
      go_roundw
      case rel => exact ⟨k + 1, by omega, by go_num, by rw [hst.out, HV.out]; exact ho2, hb2, HA2.out⟩
      case measure => simp [intOf]; omega
    · obtain rfl : m = k := by omega
      have hyes := pts_yes (zs := zs) (ms := ms) (most := most) (by
        have h3 : allIn ms 1 1000000000000 = true := by have := HA.out; rwa [List.take_of_length_le (by have := HM.out; omega)] at this
        simp [ptsOk, H1.out, h3, H4.out, HL.out, HM.out])
      have HY := Lib.hid hyes
      clear hyes
      go_wp2_with fail
      go_ret2
      rw [HY.out.1, HY.out.2, HL.out]
      exact sl_yes (ptsTo_length _ _ _ _) hown hbw
end Go.Proofs.Ytpealngmghcmdaa
