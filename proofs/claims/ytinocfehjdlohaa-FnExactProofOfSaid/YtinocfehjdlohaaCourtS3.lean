/-
  THE REFERENCE's STATE: whether rules disprove a word.
-/
import Derived.Test.YtinocfehjdlohaaCourtS2
namespace Go.Proofs.Ytinocfehjdlohaa
open Go.ChangeShapes Go.WideShapes Go.ChangeAt Go.RowKit
set_option linter.unusedVariables false
set_option linter.unusedSimpArgs false

def beatAll (ds : List Rl) (y n : Int → Bool) (x : Int) : Rl → Bool := fun s => (s.hd == -x) && (holdsB y s && beatsB ds n x s)
def notBelow (n : Int → Bool) (x rk : Int) : Rl → Bool := fun t => (t.hd == x) && !(failsB n t || decide (t.rk ≤ rk))
def notFail (n : Int → Bool) (x : Int) : Rl → Bool := fun r => (r.hd == x) && !failsB n r
theorem beats_eq {ds : List Rl} {n : Int → Bool} {x : Int} {s : Rl} : beatsB ds n x s = !ds.any (notBelow n x s.rk) := rfl
theorem disB_eq {ds : List Rl} {y n : Int → Bool} {x : Int} : disB ds y n x = (!ds.any (notFail n x) || ds.any (beatAll ds y n x)) := rfl
set_option maxHeartbeats 3200000 in
theorem l05Disproved_is {b : Bool} {sb : Nat} {y n f : Int → Bool} (A : Option Addr) (m c : Nat) (rs : List Ru) (x : Int) (w : World) (hS : St w sb y n f) (hr : RsW w w.heap.size A m rs) (hm : m ≤ 1048576) (hx : wordB x = true) (h : disB (rs.map Ru.dat) y n x = b) :
    Calls Try.prog 82 #[.pointer (some ⟨sb, 0, none⟩), .slice A m c, .int .i64 x] w fun e w' => e = .returned (.bool b) ∧ ∃ j, w' = w.drewN j := by
  subst h
  obtain ⟨ds, hds⟩ : ∃ ds, ds = rs.map Ru.dat := ⟨_, rfl⟩
  rw [← hds]
  have HD := Lib.hid hds
  have HS := Lib.hid hS
  have HR := Lib.hid hr
  have HL := Lib.hid (show ds.length = m by rw [hds, List.length_map]; exact hr.rd.len)
  have hxb := wordB_iff.1 hx
  have HX := Lib.hid hx
  clear hds hS hr hx
  go_enter Try.func82, Try.ntmps82
  go_wp2
  go_loopw [7, 8, 9, 10, 14] (fun v _ _ _ i wr => ∃ k : Nat, k ≤ m ∧ i = .int .i64 k ∧ v = .bool ((ds.take k).any (beatAll ds y n x)) ∧ ∃ j, wr = w.drewN j) (fun _ _ _ _ i _ => m - (intOf i).toNat)
  case atStart => exact ⟨0, Nat.zero_le _, rfl, rfl, 0, rfl⟩
  case round =>
    obtain ⟨k, hk, rfl, rfl, hwr⟩ := hrel
    have HS2 := Lib.hid (show St wr sb y n f by obtain ⟨j, rfl⟩ := hwr; exact HS.out.drewN j)
    have HR2 := Lib.hid (show RsW wr wr.heap.size A m rs by obtain ⟨j, rfl⟩ := hwr; exact HR.out.drewN j)
    have HW := Lib.hid hwr
    clear hwr
    by_cases hlt : k < m
    · obtain ⟨ad, r, rfl, hdk, ha, hri, hrn, hrw, hrh⟩ := HR2.out.get hlt
      rw [← HD.out] at hdk
      have hst := Lib.hid (any_more (p := beatAll ds y n x) hdk)
      have HDK := Lib.hid hdk
      have i1 : (0 : Int) ≤ k := by omega
      have i2 : (k : Int) < m := by omega
      obtain ⟨c0, c1, c2, c3, c4⟩ := ha
      have HA := Lib.hid (show AtP wr (ad.add (k * 5)) r from ⟨c0, c1, c2, c3, c4⟩)
      have HRI := Lib.hid hri
      have HRW := Lib.hid hrw
      have bhd := wordB_iff.1 hrh
      clear hri hrw hdk hrh
      obtain ⟨b7, hb7⟩ : ∃ b7, b7 = (ds.take k).any (beatAll ds y n x) := ⟨_, rfl⟩
      rw [← hb7] at hst ⊢
      clear hb7
      rcases Bool.eq_false_or_eq_true (r.hd != -x) with t1 | t1
      case inl =>
        have hs := Lib.hid (show _ = b7 from hst.out.trans (by unfold beatAll; rw [show (r.dat.hd == -x) = false by simpa [bne, Ru.dat] using t1]; simp))
        clear hst
        go_wp2_with fail
        go_roundw
        case rel => exact ⟨k + 1, by omega, by go_num, by rw [hs.out], HW.out⟩
        case measure => simp [intOf]; omega
      case inr =>
      have T1 := Lib.hid (show (r.dat.hd == -x) = true by simpa [bne, Ru.dat] using t1)
      cases t2 : holdsB y r.dat
      case false =>
        have hs := Lib.hid (show _ = b7 from hst.out.trans (by unfold beatAll; rw [t2]; simp))
        have H2 := Lib.hid t2
        clear t2 hst
        go_wp2_with (go_at_call 103; refine (l05All_is _ r _ HS2.out HA.out HRI.out hrn HRW.out H2.out).mono ?_; rintro e w' ⟨rfl, hw'⟩)
        go_roundw
        case rel => exact ⟨k + 1, by omega, by go_num, by rw [hs.out], by obtain ⟨j, rfl⟩ := HW.out; exact drewN_add hw'⟩
        case measure => simp [intOf]; omega
      case true =>
      have hst2 := Lib.hid (show (ds.take (k + 1)).any (beatAll ds y n x) = (b7 || !ds.any (notBelow n x r.dat.rk)) from hst.out.trans (by
        show (b7 || ((r.dat.hd == -x) && (holdsB y r.dat && beatsB ds n x r.dat))) = _
        rw [T1.out, t2, beats_eq]; rfl))
      have H2 := Lib.hid t2
      clear t2 hst
      go_wp2_with (go_at_call 103; refine (l05All_is _ r _ HS2.out HA.out HRI.out hrn HRW.out H2.out).mono ?_; rintro e w' ⟨rfl, hw'⟩)
      have HW3 := Lib.hid (show ∃ j, w' = w.drewN j by obtain ⟨j, rfl⟩ := HW.out; exact drewN_add hw')
      clear hw' c0 c1 c2 c3 c4 t1 HA HRI HRW
      go_loopw [9, 10, 35] (fun v _ i3 wj => ∃ k3 : Nat, k3 ≤ m ∧ i3 = .int .i64 k3 ∧ v = .bool (!(ds.take k3).any (notBelow n x r.dat.rk)) ∧ ∃ j, wj = w.drewN j) (fun _ _ i3 _ => m - (intOf i3).toNat)
      case atStart => exact ⟨0, Nat.zero_le _, rfl, rfl, HW3.out⟩
      case round =>
        obtain ⟨k3, hk3, rfl, rfl, hwj⟩ := hrel
        clear HS2 HR2 HW HW3
        have HS2 := Lib.hid (show St wr sb y n f by obtain ⟨j, rfl⟩ := hwj; exact HS.out.drewN j)
        have HR2 := Lib.hid (show RsW wr wr.heap.size (some ad) m rs by obtain ⟨j, rfl⟩ := hwj; exact HR.out.drewN j)
        have HW := Lib.hid hwj
        clear hwj
        by_cases hlt3 : k3 < m
        · obtain ⟨ad', s, hE, hdk', ha', hri', hrn', hrw', hrh'⟩ := HR2.out.get hlt3
          obtain ⟨ad2, r2, hE2, hdk2, hb', _⟩ := HR2.out.get hlt
          cases hE; cases hE2
          rw [← HD.out] at hdk' hdk2
          have her : r2.dat = r.dat := Option.some.inj (hdk2.symm.trans HDK.out)
          have hrk : r2.rk = r.rk := congrArg Rl.rk her
          have d4 := hb'.c4
          rw [hrk] at d4
          have hst3 := Lib.hid (any_more (p := notBelow n x r.dat.rk) hdk')
          have i3 : (0 : Int) ≤ k3 := by omega
          have i4 : (k3 : Int) < m := by omega
          obtain ⟨c0, c1, c2, c3, c4⟩ := ha'
          have HA := Lib.hid (show AtP wr (ad.add (k3 * 5)) s from ⟨c0, c1, c2, c3, c4⟩)
          have HRI := Lib.hid hri'
          have HRW := Lib.hid hrw'
          clear hri' hrw' hdk' hrh' hdk2 hb' her hrk
          obtain ⟨b9, hb9⟩ : ∃ b9, b9 = (ds.take k3).any (notBelow n x r.dat.rk) := ⟨_, rfl⟩
          rw [← hb9] at hst3 ⊢
          clear hb9
          rcases Bool.eq_false_or_eq_true (s.hd == x) with t1 | t1
          case inr =>
            have hs := Lib.hid (show _ = b9 from hst3.out.trans (by unfold notBelow; rw [show (s.dat.hd == x) = false from t1]; simp))
            clear hst3
            go_wp2_with fail
            go_quiet (fail)
            go_wp2_with fail
            go_roundw
            case rel => exact ⟨k3 + 1, by omega, by go_num, by rw [hs.out], drewN_more HW.out _⟩
            case measure => simp [intOf]; omega
          case inl =>
          cases t2 : failsB n s.dat
          case true =>
            have hs := Lib.hid (show _ = b9 from hst3.out.trans (by unfold notBelow; rw [t2]; simp))
            have H2 := Lib.hid t2
            clear t2 hst3
            go_wp2_with fail
            go_quiet (first | (go_at_call 104; exact quietD (l05Some_is _ s _ (HS2.out.drewN _) (HA.out.drewN _) (HRI.out.drewN _) hrn' HRW.out H2.out)))
            go_wp2_with fail
            go_roundw
            case rel => exact ⟨k3 + 1, by omega, by go_num, by rw [hs.out], drewN_more HW.out _⟩
            case measure => simp [intOf]; omega
          case false =>
          have H2 := Lib.hid t2
          cases t3 : decide (r.rk < s.rk)
          case false =>
            have hs := Lib.hid (show _ = b9 from hst3.out.trans (by
              unfold notBelow
              rw [t2, show decide (s.dat.rk ≤ r.dat.rk) = true from decide_eq_true (by have := of_decide_eq_false t3; show s.rk ≤ r.rk; omega)]; simp))
            clear t2 hst3
            go_wp2_with fail
            go_quiet (first | (go_at_call 104; exact quietD (l05Some_is _ s _ (HS2.out.drewN _) (HA.out.drewN _) (HRI.out.drewN _) hrn' HRW.out H2.out)))
            go_wp2_with fail
            go_roundw
            case rel => exact ⟨k3 + 1, by omega, by go_num, by rw [hs.out], drewN_more HW.out _⟩
            case measure => simp [intOf]; omega
          case true =>
            have hs := Lib.hid (show _ = true from hst3.out.trans (by
              unfold notBelow
              rw [t2, show (s.dat.hd == x) = true from t1, show decide (s.dat.rk ≤ r.dat.rk) = false from decide_eq_false (by have := of_decide_eq_true t3; show ¬ s.rk ≤ r.rk; omega)]; simp))
            clear t2 hst3
            go_wp2_with fail
            go_quiet (first | (go_at_call 104; exact quietD (l05Some_is _ s _ (HS2.out.drewN _) (HA.out.drewN _) (HRI.out.drewN _) hrn' HRW.out H2.out)))
            go_wp2_with fail
            go_roundw
            case rel => exact ⟨k3 + 1, by omega, by go_num, by rw [hs.out]; rfl, drewN_more HW.out _⟩
            case measure => simp [intOf]; omega
        · obtain rfl : m = k3 := by omega
          rw [any_fin (by have := HL.out; omega)]
          obtain ⟨b9, hb9⟩ : ∃ b9, b9 = ds.any (notBelow n x r.dat.rk) := ⟨_, rfl⟩
          rw [← hb9] at hst2 ⊢
          clear hb9
          cases b7
          · go_wp2_with fail
            go_roundw
            case rel => exact ⟨k + 1, by omega, by go_num, by rw [hst2.out]; rfl, HW.out⟩
            case measure => simp [intOf]; omega
          · go_wp2_with fail
            go_roundw
            case rel => exact ⟨k + 1, by omega, by go_num, by rw [hst2.out]; rfl, HW.out⟩
            case measure => simp [intOf]; omega
    · obtain rfl : m = k := by omega
      rw [any_fin (by have := HL.out; omega)]
      have hdis := Lib.hid (disB_eq (ds := ds) (y := y) (n := n) (x := x))
      obtain ⟨bt, hbt⟩ : ∃ bt, bt = ds.any (beatAll ds y n x) := ⟨_, rfl⟩
      rw [← hbt] at hdis ⊢
      clear hbt
      go_wp2_with fail
      go_loopw [11, 74] (fun _ i wi => ∃ k2 : Nat, k2 ≤ m ∧ i = .int .i64 k2 ∧ ((ds.take k2).any (notFail n x) && !bt) = false ∧ ∃ j, wi = w.drewN j) (fun _ i _ => m - (intOf i).toNat)
      case atStart => exact ⟨0, Nat.zero_le _, rfl, rfl, HW.out⟩
      case round =>
        obtain ⟨k2, hk2, rfl, ha2, hwi⟩ := hrel
        clear HS2 HR2 HW
        have HS2 := Lib.hid (show St wr sb y n f by obtain ⟨j, rfl⟩ := hwi; exact HS.out.drewN j)
        have HR2 := Lib.hid (show RsW wr wr.heap.size A m rs by obtain ⟨j, rfl⟩ := hwi; exact HR.out.drewN j)
        have HW := Lib.hid hwi
        have HA2 := Lib.hid ha2
        clear hwi ha2
        by_cases hlt2 : k2 < m
        · obtain ⟨ad, r, rfl, hdk, ha, hri, hrn, hrw, hrh⟩ := HR2.out.get hlt2
          rw [← HD.out] at hdk
          have hst := Lib.hid (any_more (p := notFail n x) hdk)
          have HDK := Lib.hid hdk
          have i1 : (0 : Int) ≤ k2 := by omega
          have i2 : (k2 : Int) < m := by omega
          obtain ⟨c0, c1, c2, c3, c4⟩ := ha
          have HA := Lib.hid (show AtP wr (ad.add (k2 * 5)) r from ⟨c0, c1, c2, c3, c4⟩)
          have HRI := Lib.hid hri
          have HRW := Lib.hid hrw
          clear hri hrw hdk hrh
          rcases Bool.eq_false_or_eq_true (r.hd == x) with t1 | t1
          case inr =>
            have hs := Lib.hid (show ((ds.take (k2 + 1)).any (notFail n x) && !bt) = false by
              rw [hst.out]; unfold notFail; rw [show (r.dat.hd == x) = false from t1, Bool.false_and, Bool.or_false]; exact HA2.out)
            go_wp2_with fail
            go_roundw
            case rel => exact ⟨k2 + 1, by omega, by go_num, hs.out, HW.out⟩
            case measure => simp [intOf]; omega
          case inl =>
          cases t2 : failsB n r.dat
          case true =>
            have hs := Lib.hid (show ((ds.take (k2 + 1)).any (notFail n x) && !bt) = false by
              rw [hst.out]; unfold notFail; rw [t2, Bool.not_true, Bool.and_false, Bool.or_false]; exact HA2.out)
            have H2 := Lib.hid t2
            clear t2
            go_wp2_with (go_at_call 104; refine (l05Some_is _ r _ HS2.out HA.out HRI.out hrn HRW.out H2.out).mono ?_; rintro e w' ⟨rfl, hw'⟩)
            go_roundw
            case rel => exact ⟨k2 + 1, by omega, by go_num, hs.out, by obtain ⟨j, rfl⟩ := HW.out; exact drewN_add hw'⟩
            case measure => simp [intOf]; omega
          case false =>
          have H2 := Lib.hid t2
          cases bt
          · have hno := Lib.hid (show disB ds y n x = false by
              rw [hdis.out, Bool.or_false, Bool.not_eq_false', List.any_eq_true]
              exact ⟨_, List.mem_of_getElem? HDK.out, by unfold notFail; rw [t2, show (r.dat.hd == x) = true from t1]; rfl⟩)
            clear t2
            go_wp2_with (go_at_call 104; refine (l05Some_is _ r _ HS2.out HA.out HRI.out hrn HRW.out H2.out).mono ?_; rintro e w' ⟨rfl, hw'⟩)
            go_ret
            exact ⟨ret_bool hno.out.symm, by obtain ⟨j, rfl⟩ := HW.out; exact drewN_add hw'⟩
          · clear t2
            go_wp2_with (go_at_call 104; refine (l05Some_is _ r _ HS2.out HA.out HRI.out hrn HRW.out H2.out).mono ?_; rintro e w' ⟨rfl, hw'⟩)
            go_roundw
            case rel => exact ⟨k2 + 1, by omega, by go_num, Bool.and_false _, by obtain ⟨j, rfl⟩ := HW.out; exact drewN_add hw'⟩
            case measure => simp [intOf]; omega
        · obtain rfl : m = k2 := by omega
          have hyes := Lib.hid (show disB ds y n x = true by
            have h3 := HA2.out
            rw [any_fin (show ds.length ≤ m by have := HL.out; omega)] at h3
            rw [hdis.out]
            cases h4 : ds.any (notFail n x)
            · rfl
            · rw [h4] at h3; cases bt
              · cases h3
              · rfl)
          go_wp2_with fail
          go_ret
          exact ⟨ret_bool hyes.out.symm, HW.out⟩
end Go.Proofs.Ytinocfehjdlohaa
