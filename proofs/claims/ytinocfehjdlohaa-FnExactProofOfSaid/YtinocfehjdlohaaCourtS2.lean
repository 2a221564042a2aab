/-
  THE REFERENCE's STATE: whether rules prove a word, whether they disprove it.
-/
import Derived.Test.YtinocfehjdlohaaCourtS
namespace Go.Proofs.Ytinocfehjdlohaa
open Go.ChangeShapes Go.WideShapes Go.ChangeAt Go.RowKit
set_option linter.unusedVariables false
set_option linter.unusedSimpArgs false

theorem any_more {p : Rl → Bool} {ds : List Rl} {k : Nat} {d : Rl} (h : ds[k]? = some d) : (ds.take (k + 1)).any p = ((ds.take k).any p || p d) := by
  rw [List.take_add_one, h, List.any_append]; simp
theorem any_fin {p : Rl → Bool} {ds : List Rl} {k : Nat} (h : ds.length ≤ k) : (ds.take k).any p = ds.any p := by rw [List.take_of_length_le h]
/-- rules that can be read, all of whose Ifs are words -/
structure RsW (w : World) (base : Nat) (A : Option Addr) (m : Nat) (rs : List Ru) : Prop where
  rd : RRd w base A m rs
  n : ∀ r ∈ rs, r.n ≤ 1048576 ∧ (∀ z ∈ r.ifs, wordB z = true) ∧ wordB r.hd = true
theorem RsW.drewN {w : World} {B m : Nat} {A : Option Addr} {rs : List Ru} (h : RsW w B A m rs) (j : Nat) : RsW (w.drewN j) B A m rs := ⟨h.rd.drewN j, h.n⟩
theorem RsW.get {w : World} {m k : Nat} {A : Option Addr} {rs : List Ru} (h : RsW w w.heap.size A m rs) (hk : k < m) :
    ∃ (ad : Addr) (r : Ru), A = some ad ∧ (rs.map Ru.dat)[k]? = some r.dat ∧ AtP w (ad.add (k * 5)) r ∧ Rd w w.heap.size 1 r.A r.n (ints r.ifs) ∧ r.n ≤ 1048576 ∧ (∀ z ∈ r.ifs, wordB z = true) ∧ wordB r.hd = true := by
  obtain ⟨ad, r, e, hr, ha, hi⟩ := h.rd.at hk
  have := h.n r (List.mem_of_getElem? hr)
  exact ⟨ad, r, e, by rw [List.getElem?_map, hr]; rfl, ha, hi, this⟩
set_option maxHeartbeats 3200000 in
theorem l05Proved_is {b : Bool} {sb : Nat} {y n f : Int → Bool} (A : Option Addr) (m c : Nat) (rs : List Ru) (x : Int) (w : World) (hS : St w sb y n f) (hr : RsW w w.heap.size A m rs) (hm : m ≤ 1048576) (hx : wordB x = true) (h : prvB (rs.map Ru.dat) y n x = b) :
    Calls Try.prog 81 #[.pointer (some ⟨sb, 0, none⟩), .slice A m c, .int .i64 x] w fun e w' => e = .returned (.bool b) ∧ ∃ j, w' = w.drewN j := by
  subst h
  obtain ⟨ds, hds⟩ : ∃ ds, ds = rs.map Ru.dat := ⟨_, rfl⟩
  rw [← hds]
  have HD := Lib.hid hds
  have HS := Lib.hid hS
  have HR := Lib.hid hr
  have HL := Lib.hid (show ds.length = m by rw [hds, List.length_map]; exact hr.rd.len)
  have hxb := wordB_iff.1 hx
  have HX := Lib.hid hx
  clear hds hS hr hx
  go_enter Try.func81, Try.ntmps81
  go_wp2
  go_loopw [7, 8, 14] (fun v _ i wr => ∃ k : Nat, k ≤ m ∧ i = .int .i64 k ∧ v = .bool ((ds.take k).any fun r => (r.hd == x) && holdsB y r) ∧ ∃ j, wr = w.drewN j) (fun _ _ i _ => m - (intOf i).toNat)
  case atStart => exact ⟨0, Nat.zero_le _, rfl, rfl, 0, rfl⟩
  case round =>
    obtain ⟨k, hk, rfl, rfl, hwr⟩ := hrel
    have HS2 := Lib.hid (show St wr sb y n f by obtain ⟨j, rfl⟩ := hwr; exact HS.out.drewN j)
    have HR2 := Lib.hid (show RsW wr wr.heap.size A m rs by obtain ⟨j, rfl⟩ := hwr; exact HR.out.drewN j)
    have HW := Lib.hid hwr
    clear hwr
    by_cases hlt : k < m
    · obtain ⟨ad, r, rfl, hdk, ha, hri, hrn, hrw, hrh⟩ := HR2.out.get hlt
      rw [← HD.out] at hdk
      have hst := Lib.hid (any_more (p := fun r => (r.hd == x) && holdsB y r) hdk)
      have i1 : (0 : Int) ≤ k := by omega
      have i2 : (k : Int) < m := by omega
      obtain ⟨c0, c1, c2, c3, c4⟩ := ha
      have HA := Lib.hid (show AtP wr (ad.add (k * 5)) r from ⟨c0, c1, c2, c3, c4⟩)
      have HRI := Lib.hid hri
      have HRW := Lib.hid hrw
      clear hri hrw hdk hrh
      cases t0 : (ds.take k).any fun r => (r.hd == x) && holdsB y r
      case true =>
        have hs := Lib.hid (show _ = true from hst.out.trans (by rw [t0, Bool.true_or]))
        clear t0
        go_wp2_with fail
        go_roundw
        case rel => exact ⟨k + 1, by omega, by go_num, by rw [hs.out], HW.out⟩
        case measure => simp [intOf]; omega
      rcases Bool.eq_false_or_eq_true (r.hd == x) with t1 | t1
      case inr =>
        have hs := Lib.hid (show _ = false from hst.out.trans (by rw [t0, show (r.dat.hd == x) = false from t1]; rfl))
        clear t0
        go_wp2_with fail
        go_roundw
        case rel => exact ⟨k + 1, by omega, by go_num, by rw [hs.out], HW.out⟩
        case measure => simp [intOf]; omega
      case inl =>
        cases t2 : holdsB y r.dat
        case false =>
          have hs := Lib.hid (show _ = false from hst.out.trans (by rw [t0, t2, Bool.and_false]; rfl))
          have H2 := Lib.hid t2
          clear t0 t2
          go_wp2_with (go_at_call 103; refine (l05All_is _ r _ HS2.out HA.out HRI.out hrn HRW.out H2.out).mono ?_; rintro e w' ⟨rfl, hw'⟩)
          go_roundw
          case rel => exact ⟨k + 1, by omega, by go_num, by rw [hs.out], by obtain ⟨j, rfl⟩ := HW.out; exact drewN_add hw'⟩
          case measure => simp [intOf]; omega
        case true =>
          have hs := Lib.hid (show _ = true from hst.out.trans (by rw [t0, t2, show (r.dat.hd == x) = true from t1]; rfl))
          have H2 := Lib.hid t2
          clear t0 t2
          go_wp2_with (go_at_call 103; refine (l05All_is _ r _ HS2.out HA.out HRI.out hrn HRW.out H2.out).mono ?_; rintro e w' ⟨rfl, hw'⟩)
          go_roundw
          case rel => exact ⟨k + 1, by omega, by go_num, by rw [hs.out], by obtain ⟨j, rfl⟩ := HW.out; exact drewN_add hw'⟩
          case measure => simp [intOf]; omega
    · obtain rfl : m = k := by omega
      rw [any_fin (by have := HL.out; omega)]
      cases t0 : ds.any fun r => (r.hd == x) && holdsB y r
      case false =>
        have hfin := Lib.hid (show prvB ds y n x = false by unfold prvB; rw [t0]; rfl)
        clear t0
        go_wp2_with fail
        go_ret
        exact ⟨ret_bool hfin.out.symm, HW.out⟩
      have hfin := Lib.hid (show prvB ds y n x = !ds.any fun s => (s.hd == -x) && !(failsB n s || beatenB ds y x s) by unfold prvB; rw [t0]; rfl)
      clear t0
      go_wp2_with fail
      go_loopw [9, 10, 11, 39] (fun _ _ _ i wi => ∃ k2 : Nat, k2 ≤ m ∧ i = .int .i64 k2 ∧ (ds.take k2).any (fun s => (s.hd == -x) && !(failsB n s || beatenB ds y x s)) = false ∧ ∃ j, wi = w.drewN j) (fun _ _ _ i _ => m - (intOf i).toNat)
      case atStart => exact ⟨0, Nat.zero_le _, rfl, rfl, HW.out⟩
      case round =>
        obtain ⟨k2, hk2, rfl, ha2, hwi⟩ := hrel
        clear HS2 HR2 HW
        have HS2 := Lib.hid (show St wr sb y n f by obtain ⟨j, rfl⟩ := hwi; exact HS.out.drewN j)
        have HR2 := Lib.hid (show RsW wr wr.heap.size A m rs by obtain ⟨j, rfl⟩ := hwi; exact HR.out.drewN j)
        have HW := Lib.hid hwi
        have HA2 := Lib.hid ha2
        clear hwi ha2
        by_cases hlt2 : k2 < m
        · obtain ⟨ad, r, rfl, hdk, ha, hri, hrn, hrw, hrh⟩ := HR2.out.get hlt2
          rw [← HD.out] at hdk
          have hst := Lib.hid (any_more (p := fun s => (s.hd == -x) && !(failsB n s || beatenB ds y x s)) hdk)
          have HDK := Lib.hid hdk
          have i1 : (0 : Int) ≤ k2 := by omega
          have i2 : (k2 : Int) < m := by omega
          obtain ⟨c0, c1, c2, c3, c4⟩ := ha
          have HA := Lib.hid (show AtP wr (ad.add (k2 * 5)) r from ⟨c0, c1, c2, c3, c4⟩)
          have HRI := Lib.hid hri
          have HRW := Lib.hid hrw
          have bhd := wordB_iff.1 hrh
          clear hri hrw hdk hrh
          rcases Bool.eq_false_or_eq_true (r.hd != -x) with t1 | t1
          case inl =>
            have hs := Lib.hid (show _ = false from hst.out.trans (by rw [HA2.out, show (r.dat.hd == -x) = false by simpa [bne, Ru.dat] using t1]; rfl))
            go_wp2_with fail
            go_roundw
            case rel => exact ⟨k2 + 1, by omega, by go_num, hs.out, HW.out⟩
            case measure => simp [intOf]; omega
          case inr =>
          have t1' : (r.dat.hd == -x) = true := by simpa [bne, Ru.dat] using t1
          have T1 := Lib.hid t1'
          clear t1'
          cases t2 : failsB n r.dat
          case true =>
            have hs := Lib.hid (show _ = false from hst.out.trans (by rw [HA2.out, t2, Bool.true_or, Bool.not_true, Bool.and_false]; rfl))
            have H2 := Lib.hid t2
            clear t2
            go_wp2_with (go_at_call 104; refine (l05Some_is _ r _ HS2.out HA.out HRI.out hrn HRW.out H2.out).mono ?_; rintro e w' ⟨rfl, hw'⟩)
            go_roundw
            case rel => exact ⟨k2 + 1, by omega, by go_num, hs.out, by obtain ⟨j, rfl⟩ := HW.out; exact drewN_add hw'⟩
            case measure => simp [intOf]; omega
          case false =>
          have H2 := Lib.hid t2
          clear t2
          go_wp2_with (go_at_call 104; refine (l05Some_is _ r _ HS2.out HA.out HRI.out hrn HRW.out H2.out).mono ?_; rintro e w' ⟨rfl, hw'⟩)
          have HW3 := Lib.hid (show ∃ j, w' = w.drewN j by obtain ⟨j, rfl⟩ := HW.out; exact drewN_add hw')
          have HT := Lib.hid t1
          clear hw' c0 c1 c2 c3 c4 t1 HA HRI HRW
          go_loopw [10, 11, 59] (fun v _ i3 wj => ∃ k3 : Nat, k3 ≤ m ∧ i3 = .int .i64 k3 ∧ v = .bool ((ds.take k3).any fun t => (t.hd == x) && (holdsB y t && decide (r.dat.rk < t.rk))) ∧ ∃ j, wj = w.drewN j) (fun _ _ i3 _ => m - (intOf i3).toNat)
          case atStart => exact ⟨0, Nat.zero_le _, rfl, rfl, HW3.out⟩
          case round =>
            obtain ⟨k3, hk3, rfl, rfl, hwj⟩ := hrel
            clear HS2 HR2 HW HW3
            have HS2 := Lib.hid (show St wr sb y n f by obtain ⟨j, rfl⟩ := hwj; exact HS.out.drewN j)
            have HR2 := Lib.hid (show RsW wr wr.heap.size (some ad) m rs by obtain ⟨j, rfl⟩ := hwj; exact HR.out.drewN j)
            have HW := Lib.hid hwj
            clear hwj
            by_cases hlt3 : k3 < m
            · obtain ⟨ad', s, hE, hdk', ha', hri', hrn', hrw', hrh'⟩ := HR2.out.get hlt3
              obtain ⟨ad2, r2, hE2, hdk2, hb', _⟩ := HR2.out.get hlt2
              cases hE; cases hE2
              rw [← HD.out] at hdk' hdk2
              have her : r2.dat = r.dat := Option.some.inj (hdk2.symm.trans HDK.out)
              have hrk : r2.rk = r.rk := congrArg Rl.rk her
              have d4 := hb'.c4
              rw [hrk] at d4
              have hst3 := Lib.hid (any_more (p := fun t => (t.hd == x) && (holdsB y t && decide (r.dat.rk < t.rk))) hdk')
              have i3 : (0 : Int) ≤ k3 := by omega
              have i4 : (k3 : Int) < m := by omega
              obtain ⟨c0, c1, c2, c3, c4⟩ := ha'
              have HA := Lib.hid (show AtP wr (ad.add (k3 * 5)) s from ⟨c0, c1, c2, c3, c4⟩)
              have HRI := Lib.hid hri'
              have HRW := Lib.hid hrw'
              clear hri' hrw' hdk' hrh' hdk2 hb' her hrk
              cases t0 : (ds.take k3).any fun t => (t.hd == x) && (holdsB y t && decide (r.dat.rk < t.rk))
              case true =>
                have hs := Lib.hid (show _ = true from hst3.out.trans (by rw [t0, Bool.true_or]))
                clear t0
                go_wp2_with fail
                go_quiet (fail)
                go_wp2_with fail
                go_roundw
                case rel => exact ⟨k3 + 1, by omega, by go_num, by rw [hs.out], drewN_more HW.out _⟩
                case measure => simp [intOf]; omega
              rcases Bool.eq_false_or_eq_true (s.hd == x) with t1 | t1
              case inr =>
                have hs := Lib.hid (show _ = false from hst3.out.trans (by rw [t0, show (s.dat.hd == x) = false from t1]; rfl))
                clear t0
                go_wp2_with fail
                go_quiet (fail)
                go_wp2_with fail
                go_roundw
                case rel => exact ⟨k3 + 1, by omega, by go_num, by rw [hs.out], drewN_more HW.out _⟩
                case measure => simp [intOf]; omega
              case inl =>
              cases t2 : holdsB y s.dat
              case false =>
                have hs := Lib.hid (show _ = false from hst3.out.trans (by rw [t0, t2, Bool.false_and, Bool.and_false]; rfl))
                have H2 := Lib.hid t2
                clear t0 t2
                go_wp2_with fail
                go_quiet (first | (go_at_call 103; exact quietD (l05All_is _ s _ (HS2.out.drewN _) (HA.out.drewN _) (HRI.out.drewN _) hrn' HRW.out H2.out)))
                go_wp2_with fail
                go_roundw
                case rel => exact ⟨k3 + 1, by omega, by go_num, by rw [hs.out], drewN_more HW.out _⟩
                case measure => simp [intOf]; omega
              case true =>
              have H2 := Lib.hid t2
              cases t3 : decide (r.rk < s.rk)
              case false =>
                have hs := Lib.hid (show _ = false from hst3.out.trans (by rw [t0, t2, show decide (r.dat.rk < s.dat.rk) = false from t3, Bool.and_false, Bool.and_false]; rfl))
                clear t0 t2
                go_wp2_with fail
                go_quiet (first | (go_at_call 103; exact quietD (l05All_is _ s _ (HS2.out.drewN _) (HA.out.drewN _) (HRI.out.drewN _) hrn' HRW.out H2.out)))
                go_wp2_with fail
                go_roundw
                case rel => exact ⟨k3 + 1, by omega, by go_num, by rw [hs.out], drewN_more HW.out _⟩
                case measure => simp [intOf]; omega
              case true =>
                have hs := Lib.hid (show _ = true from hst3.out.trans (by rw [t0, t2, show decide (r.dat.rk < s.dat.rk) = true from t3, show (s.dat.hd == x) = true from t1]; rfl))
                clear t0 t2
                go_wp2_with fail
                go_quiet (first | (go_at_call 103; exact quietD (l05All_is _ s _ (HS2.out.drewN _) (HA.out.drewN _) (HRI.out.drewN _) hrn' HRW.out H2.out)))
                go_wp2_with fail
                go_roundw
                case rel => exact ⟨k3 + 1, by omega, by go_num, by rw [hs.out], drewN_more HW.out _⟩
                case measure => simp [intOf]; omega
            · obtain rfl : m = k3 := by omega
              rw [any_fin (by have := HL.out; omega)]
              cases t0 : ds.any fun t => (t.hd == x) && (holdsB y t && decide (r.dat.rk < t.rk))
              case false =>
                have hno := Lib.hid (show prvB ds y n x = false by
                  rw [hfin.out, Bool.not_eq_false', List.any_eq_true]
                  exact ⟨_, List.mem_of_getElem? HDK.out, by rw [T1.out, H2.out, show beatenB ds y x r.dat = false from t0]; rfl⟩)
                clear t0
                go_wp2_with fail
                go_ret
                exact ⟨ret_bool hno.out.symm, HW.out⟩
              case true =>
                have hs := Lib.hid (show _ = false from hst.out.trans (by rw [HA2.out, show beatenB ds y x r.dat = true from t0, Bool.or_true, Bool.not_true, Bool.and_false]; rfl))
                clear t0
                go_wp2_with fail
                go_roundw
                case rel => exact ⟨k2 + 1, by omega, by go_num, hs.out, HW.out⟩
                case measure => simp [intOf]; omega
        · obtain rfl : m = k2 := by omega
          have hyes := Lib.hid (show prvB ds y n x = true by
            rw [hfin.out, ← any_fin (show ds.length ≤ m by have := HL.out; omega), HA2.out]; rfl)
          go_wp2_with fail
          go_ret
          exact ⟨ret_bool hyes.out.symm, HW.out⟩
end Go.Proofs.Ytinocfehjdlohaa
