/-
  ActiveRules: what the program's and the reference's functions return.
-/
import Derived.Test.YtkdiegplbloccaaRuAre
import Derived.Test.YtkdiegplbloccaaSl
namespace Go.Proofs.Ytkdiegplbloccaa
open Go.ChangeShapes Go.WideShapes Go.ChangeAt Go.RowKit
set_option linter.unusedVariables false
set_option linter.unusedSimpArgs false

def noRl : Rl := ⟨0, [], 0, 0, 0⟩
def onB (d : Rl) (day : Int) : Bool := decide (d.fr ≤ day) && decide (day ≤ d.tt)
/-- the places of the active rules among the first k -/
def actTo (ds : List Rl) (day : Int) : Nat → List Int
  | 0 => []
  | k + 1 => if onB (ds[k]?.getD noRl) day then actTo ds day k ++ [(k : Int)] else actTo ds day k
theorem actTo_len (ds : List Rl) (day : Int) (k : Nat) : (actTo ds day k).length ≤ k := by
  induction k with
  | zero => simp [actTo]
  | succ k ih =>
    rw [actTo]; split
    · rw [List.length_append, List.length_singleton]; omega
    · omega
def actOk (ds : List Rl) (day : Int) : Bool := rulesB ds && inB day 0 100000
def ActiveRules_r0 (ds : List Rl) (day : Int) : List Int := if actOk ds day then actTo ds day ds.length else []
def ActiveRules_r1 (ds : List Rl) (day : Int) : Bool := actOk ds day
theorem ar_no {ds : List Rl} {day : Int} (h : actOk ds day = false) : ActiveRules_r0 ds day = [] ∧ ActiveRules_r1 ds day = false := by simp [ActiveRules_r0, ActiveRules_r1, h]
theorem ar_yes {ds : List Rl} {day : Int} {m : Nat} (h : actOk ds day = true) (hm : ds.length = m) : ActiveRules_r0 ds day = actTo ds day m ∧ ActiveRules_r1 ds day = true := by simp [ActiveRules_r0, ActiveRules_r1, h, hm]
theorem ActiveRules_len (ds : List Rl) (day : Int) : (ActiveRules_r0 ds day).length ≤ 24 := by
  unfold ActiveRules_r0
  split
  · rename_i h
    have h2 := actTo_len ds day ds.length
    unfold actOk rulesB at h
    simp at h
    omega
  · simp
theorem rules_len {ds : List Rl} (h : rulesB ds = true) : ds.length ≤ 24 := by unfold rulesB at h; simp at h; exact h.1
theorem dat_at {rs : List Ru} {k : Nat} {r : Ru} (h : rs[k]? = some r) : (rs.map Ru.dat)[k]?.getD noRl = r.dat := by rw [List.getElem?_map, h]; rfl
theorem isActive_is {b : Bool} (hd fr tt rk : Int) (A : Option Addr) (n c : Nat) (ifs : List Int) (day : Int) (w : World) (h : onB ⟨hd, ifs, fr, tt, rk⟩ day = b) :
    Calls Try.prog 84 #[.agg #[.int .i64 hd, .slice A n c, .int .i64 fr, .int .i64 tt, .int .i64 rk], .int .i64 day] w fun e w' => e = .returned (.bool b) ∧ Below w.heap.size w w' := by
  subst h
  by_cases h1 : fr ≤ day
  · have hfin := Lib.hid (show onB ⟨hd, ifs, fr, tt, rk⟩ day = decide (day ≤ tt) by simp [onB, h1])
    go_enter Try.func84, Try.ntmps84
    go_wp2
    go_ret
    exact ⟨by rw [hfin.out]; rfl, (Below.refl _ _).alloc (Nat.le_refl _) _⟩
  · have hfin := Lib.hid (show onB ⟨hd, ifs, fr, tt, rk⟩ day = false by simp [onB, h1])
    go_enter Try.func84, Try.ntmps84
    go_wp2
    go_ret
    exact ⟨by rw [hfin.out]; rfl, (Below.refl _ _).alloc (Nat.le_refl _) _⟩
theorem l05On_is {b : Bool} (p : Addr) (r : Ru) (day : Int) (w : World) (hp : AtP w p r) (h : onB r.dat day = b) :
    Calls Try.prog 82 #[.pointer (some p), .int .i64 day] w fun e w' => e = .returned (.bool b) ∧ w = w' := by
  subst h
  obtain ⟨c0, c1, c2, c3, c4⟩ := hp
  obtain ⟨hd, fr, tt, rk, A, n, c, ifs⟩ := r
  dsimp only at c0 c1 c2 c3 c4
  by_cases h1 : fr ≤ day
  · have hfin := Lib.hid (show onB (Ru.dat ⟨hd, fr, tt, rk, A, n, c, ifs⟩) day = decide (day ≤ tt) by unfold onB Ru.dat; simp [h1])
    go_enter Try.func82, Try.ntmps82
    go_wp2
    go_ret
    exact ⟨by rw [hfin.out]; rfl, rfl⟩
  · have hfin := Lib.hid (show onB (Ru.dat ⟨hd, fr, tt, rk, A, n, c, ifs⟩) day = false by simp [onB, Ru.dat, h1])
    go_enter Try.func82, Try.ntmps82
    go_wp2
    go_ret
    exact ⟨by rw [hfin.out]; rfl, rfl⟩
theorem areRules_is (A : Option Addr) (m c : Nat) {ds : List Rl} {b : Bool} (w : World) (hr : RsRd w w.heap.size A m ds) (hz : szD ds ≤ 1048576) (hb : ∀ d ∈ ds, RlB d) (h : rulesB ds = b) :
    Calls Try.prog 37 #[.slice A m c] w fun e w' => e = .returned (.bool b) ∧ Below w.heap.size w w' := by
  subst h; exact impl_AreRules A m c ds w hr hz hb
theorem isDate_is {z : Int} {b : Bool} (w : World) (h : inB z 0 100000 = b) : Calls Try.prog 83 #[.int .i64 z] w fun e w' => e = .returned (.bool b) ∧ w = w' := by
  subst h; exact isDate_any z w
set_option maxHeartbeats 1600000 in
theorem impl_ActiveRules (A : Option Addr) (m c : Nat) (ds : List Rl) (day : Int) (w : World) (hr : RsRd w w.heap.size A m ds) (hz : szD ds ≤ 1048576) (hb : ∀ d ∈ ds, RlB d) (hday : -9223372036854775808 ≤ day ∧ day ≤ 9223372036854775807) :
    Calls Try.prog 39 #[.slice A m c, .int .i64 day] w (SlEnds w (ActiveRules_r0 ds day) (ActiveRules_r1 ds day)) := by
  have hB : Below w.heap.size w w := Below.refl _ _
  have HL := Lib.hid hr.len
  have HZ := Lib.hid hz
  have HRB := Lib.hid hb
  clear hb hz
  cases h1 : rulesB ds
  · have hfin := Lib.hid (ar_no (ds := ds) (day := day) (by simp [actOk, h1]))
    go_enter Try.func39, Try.ntmps39
    go_wp2_with fail
    (refine (areRules_is _ _ _ _ hr HZ.out HRB.out h1).mono ?_; rintro e w1 ⟨rfl, hb2⟩)
    replace hB := below_step hB hb2
    go_wp2_with fail
    go_ret2
    rw [hfin.out.1, hfin.out.2]
    exact sl_no hB
  cases h2 : inB day 0 100000
  · have hfin := Lib.hid (ar_no (ds := ds) (day := day) (by simp [actOk, h2]))
    go_enter Try.func39, Try.ntmps39
    go_wp2_with fail
    (refine (areRules_is _ _ _ _ hr HZ.out HRB.out h1).mono ?_; rintro e w1 ⟨rfl, hb2⟩)
    replace hB := below_step hB hb2
    go_wp2_with (go_at_call 83; refine (isDate_is _ h2).mono ?_; rintro e w' ⟨rfl, rfl⟩)
    go_ret2
    rw [hfin.out.1, hfin.out.2]
    exact sl_no hB
  have hfin := Lib.hid (ar_yes (ds := ds) (day := day) (by simp [actOk, h1, h2]) HL.out)
  have hm24 : m ≤ 24 := by have := rules_len h1; rwa [HL.out] at this
  go_enter Try.func39, Try.ntmps39
  go_wp2_with fail
  (refine (areRules_is _ _ _ _ hr HZ.out HRB.out h1).mono ?_; rintro e w1 ⟨rfl, hb2⟩)
  replace hB := below_step hB hb2
  clear hb2
  go_wp2_with (go_at_call 83; refine (isDate_is _ h2).mono ?_; rintro e w' ⟨rfl, rfl⟩)
  go_loopw [6, 7, 8, 20] (fun v _ _ i wr => ∃ k : Nat, k ≤ m ∧ i = .int .i64 k ∧ wr.ownsRow w.heap.size tI 1 v (actTo ds day k).length (ints (actTo ds day k)) ∧ Below w.heap.size w wr) (fun _ _ _ i _ => m - (intOf i).toNat)
  case atStart => exact ⟨0, Nat.zero_le _, rfl, own_base (own_empty _ _) hB.size, hB.alloc hB.size _⟩
  case round =>
    obtain ⟨k, hk, rfl, hown, hbw⟩ := hrel
    clear hB h1 h2
    by_cases hlt : k < m
    · have hr2 := hr.below hbw
      obtain ⟨rs, hr3, rfl⟩ := hr2
      obtain ⟨ad, r, rfl, ka, hrk, hc0, hc1, hc2, hc3, hc4, _⟩ := hr3.row hlt
      have HON := Lib.hid (dat_at hrk)
      have hl := actTo_len (rs.map Ru.dat) day k
      obtain ⟨ls, hls⟩ : ∃ ls, ls = actTo (rs.map Ru.dat) day k := ⟨_, rfl⟩
      have hst := Lib.hid (show actTo (rs.map Ru.dat) day (k + 1) = if onB r.dat day then ls ++ [(k : Int)] else ls by rw [hls, actTo, HON.out])
      rw [← hls] at hown hl
      obtain ⟨hd, fr, tt, rk, Ai, ni, ci, ifs⟩ := r
      dsimp only at hc0 hc1 hc2 hc3 hc4
      have HW := Lib.hid hbw
      have HO := Lib.hid hown
      clear hr hr3 hrk hls hbw hown HON
      cases ho : onB ⟨hd, ifs, fr, tt, rk⟩ day
      · have hs2 := Lib.hid (show actTo (rs.map Ru.dat) day (k + 1) = ls by rw [hst.out]; simp [Ru.dat, ho])
        clear hst
        go_wp2_with (go_at_call 84; refine (isActive_is hd fr tt rk Ai ni ci ifs _ _ ho).mono ?_; rintro e w3 ⟨rfl, hb3⟩)
        go_roundw
        case rel => exact ⟨k + 1, by omega, by go_num, by rw [hs2.out]; exact (own_on (World.ownsRow.alloc HO.out _) hb3), (below_step (HW.out.alloc HW.out.size _) hb3)⟩
        case measure => simp [intOf]; omega
      · have hs2 := Lib.hid (show actTo (rs.map Ru.dat) day (k + 1) = ls ++ [(k : Int)] by rw [hst.out]; simp [Ru.dat, ho])
        clear hst
        go_wp2_with (first | (go_at_call 84; refine (isActive_is hd fr tt rk Ai ni ci ifs _ _ ho).mono ?_; rintro e w3 ⟨rfl, hb3⟩) | (at_builtin; refine append_int rfl (.tmp 28) (.tmp 30) rfl w _ ls.length ls rfl (((own_on (World.ownsRow.alloc HO.out _) hb3)).alloc _) (Below.alloc ((below_step (HW.out.alloc HW.out.size _) hb3)) (Below.size ((below_step (HW.out.alloc HW.out.size _) hb3))) _) _ _ (k : Int) rfl (cell_new _ _ _) (by omega) ?_; intro v' w' ho2 hb2))
        go_roundw
        case rel => exact ⟨k + 1, by omega, by go_num, by rw [hs2.out, List.length_append]; exact ho2, hb2⟩
        case measure => simp [intOf]; omega
    · obtain rfl : m = k := by omega
      clear hr
      go_wp2_with fail
      go_ret2
      rw [hfin.out.1, hfin.out.2]
      exact sl_yes rfl hown hbw
theorem l05Rules_is (A : Option Addr) (m c : Nat) {ds : List Rl} {b : Bool} (w : World) (hr : RsRd w w.heap.size A m ds) (hz : szD ds ≤ 1048576) (hb : ∀ d ∈ ds, RlB d) (h : rulesB ds = b) :
    Calls Try.prog 77 #[.slice A m c] w fun e w' => e = .returned (.bool b) ∧ ∃ j, w' = w.drewN j := by
  subst h
  have hl := sz_len hz hr.len
  obtain ⟨rs, hr, rfl⟩ := hr
  exact l05Rules_any A m c rs w hr hl (ruN_of hr.nlen hz hb)
set_option maxHeartbeats 1600000 in
theorem spec_ActiveRules (A : Option Addr) (m c : Nat) (ds : List Rl) (day : Int) (w : World) (hr : RsRd w w.heap.size A m ds) (hz : szD ds ≤ 1048576) (hb : ∀ d ∈ ds, RlB d) (hday : -9223372036854775808 ≤ day ∧ day ≤ 9223372036854775807) :
    Calls Try.prog 38 #[.slice A m c, .int .i64 day] w (SlEnds w (ActiveRules_r0 ds day) (ActiveRules_r1 ds day)) := by
  have hB : Below w.heap.size w w := Below.refl _ _
  have HL := Lib.hid hr.len
  have HZ := Lib.hid hz
  have HRB := Lib.hid hb
  clear hb hz
  cases h1 : rulesB ds
  · have hfin := Lib.hid (ar_no (ds := ds) (day := day) (by simp [actOk, h1]))
    go_enter Try.func38, Try.ntmps38
    go_wp2_with fail
    (refine (l05Rules_is _ _ _ _ hr HZ.out HRB.out h1).mono ?_; rintro e w1 ⟨rfl, j, rfl⟩; have hb2 := below_drewN hB j)
    replace hB := below_step hB hb2
    go_wp2_with fail
    go_ret2
    rw [hfin.out.1, hfin.out.2]
    exact sl_no hB
  cases h2 : inB day 0 100000
  · have hfin := Lib.hid (ar_no (ds := ds) (day := day) (by simp [actOk, h2]))
    go_enter Try.func38, Try.ntmps38
    go_wp2_with fail
    (refine (l05Rules_is _ _ _ _ hr HZ.out HRB.out h1).mono ?_; rintro e w1 ⟨rfl, j, rfl⟩; have hb2 := below_drewN hB j)
    replace hB := below_step hB hb2
    go_wp2_with (go_at_call 81; refine (l05Day_is h2 _).mono ?_; rintro e w' ⟨rfl, rfl⟩)
    go_ret2
    rw [hfin.out.1, hfin.out.2]
    exact sl_no hB
  have hfin := Lib.hid (ar_yes (ds := ds) (day := day) (by simp [actOk, h1, h2]) HL.out)
  have hm24 : m ≤ 24 := by have := rules_len h1; rwa [HL.out] at this
  go_enter Try.func38, Try.ntmps38
  go_wp2_with fail
  (refine (l05Rules_is _ _ _ _ hr HZ.out HRB.out h1).mono ?_; rintro e w1 ⟨rfl, j, rfl⟩; have hb2 := below_drewN hB j)
  replace hB := below_step hB hb2
  clear hb2
  go_wp2_with (go_at_call 81; refine (l05Day_is h2 _).mono ?_; rintro e w' ⟨rfl, rfl⟩)
  go_loopw [6, 7, 19] (fun v _ i wr => ∃ k : Nat, k ≤ m ∧ i = .int .i64 k ∧ wr.ownsRow w.heap.size tI 1 v (actTo ds day k).length (ints (actTo ds day k)) ∧ Below w.heap.size w wr) (fun _ _ i _ => m - (intOf i).toNat)
  case atStart => exact ⟨0, Nat.zero_le _, rfl, own_base (own_empty _ _) hB.size, hB.alloc hB.size _⟩
  case round =>
    obtain ⟨k, hk, rfl, hown, hbw⟩ := hrel
    clear hB h1 h2
    by_cases hlt : k < m
    · have hr2 := hr.below hbw
      obtain ⟨rs, hr3, rfl⟩ := hr2
      obtain ⟨ad, r, rfl, ka, hrk, hc0, hc1, hc2, hc3, hc4, _⟩ := hr3.row hlt
      have HON := Lib.hid (dat_at hrk)
      have hl := actTo_len (rs.map Ru.dat) day k
      obtain ⟨ls, hls⟩ : ∃ ls, ls = actTo (rs.map Ru.dat) day k := ⟨_, rfl⟩
      have hst := Lib.hid (show actTo (rs.map Ru.dat) day (k + 1) = if onB r.dat day then ls ++ [(k : Int)] else ls by rw [hls, actTo, HON.out])
      rw [← hls] at hown hl
      obtain ⟨hd, fr, tt, rk, Ai, ni, ci, ifs⟩ := r
      dsimp only at hc0 hc1 hc2 hc3 hc4
      have HW := Lib.hid hbw
      have HO := Lib.hid hown
      clear hr hr3 hrk hls hbw hown HON
      cases ho : onB ⟨hd, ifs, fr, tt, rk⟩ day
      · have hs2 := Lib.hid (show actTo (rs.map Ru.dat) day (k + 1) = ls by rw [hst.out]; simp [Ru.dat, ho])
        clear hst
        go_wp2_with (go_at_call 82; refine (l05On_is _ ⟨hd, fr, tt, rk, Ai, ni, ci, ifs⟩ _ _ ⟨hc0, hc1, hc2, hc3, hc4⟩ ho).mono ?_; rintro e w3 ⟨rfl, rfl⟩)
        go_roundw
        case rel => exact ⟨k + 1, by omega, by go_num, by rw [hs2.out]; exact HO.out, HW.out⟩
        case measure => simp [intOf]; omega
      · have hs2 := Lib.hid (show actTo (rs.map Ru.dat) day (k + 1) = ls ++ [(k : Int)] by rw [hst.out]; simp [Ru.dat, ho])
        clear hst
        go_wp2_with (first | (go_at_call 82; refine (l05On_is _ ⟨hd, fr, tt, rk, Ai, ni, ci, ifs⟩ _ _ ⟨hc0, hc1, hc2, hc3, hc4⟩ ho).mono ?_; rintro e w3 ⟨rfl, rfl⟩) | (at_builtin; refine append_int rfl (.tmp 27) (.tmp 29) rfl w _ ls.length ls rfl ((HO.out).alloc _) (Below.alloc (HW.out) (Below.size (HW.out)) _) _ _ (k : Int) rfl (cell_new _ _ _) (by omega) ?_; intro v' w' ho2 hb2))
        go_roundw
        case rel => exact ⟨k + 1, by omega, by go_num, by rw [hs2.out, List.length_append]; exact ho2, hb2⟩
        case measure => simp [intOf]; omega
    · obtain rfl : m = k := by omega
      clear hr
      go_wp2_with fail
      go_ret2
      rw [hfin.out.1, hfin.out.2]
      exact sl_yes rfl hown hbw
end Go.Proofs.Ytkdiegplbloccaa
