/-
  THE REFERENCE's STATE of all words: three rows of marks in one block; what its small questions answer.
-/
import Derived.Test.YtmfglflahlddbaaCourtA
import Derived.Test.YtmfglflahlddbaaRuClone
namespace Go.Proofs.Ytmfglflahlddbaa
open Go.ChangeShapes Go.WideShapes Go.ChangeAt Go.RowKit
set_option linter.unusedVariables false
set_option linter.unusedSimpArgs false

/-- block sb of w is a state: which words are proved, disproved, facts -/
structure St (w : World) (sb : Nat) (y n f : Int → Bool) : Prop where
  lt : sb < w.heap.size
  yes : ∀ x, wordB x = true → w.cell? ⟨sb, placeOf x, none⟩ = some (.bool (y x))
  no : ∀ x, wordB x = true → w.cell? ⟨sb, 32 + placeOf x, none⟩ = some (.bool (n x))
  fact : ∀ x, wordB x = true → w.cell? ⟨sb, 64 + placeOf x, none⟩ = some (.bool (f x))
  fz : ∀ i, i < 96 → w.frozen? ⟨sb, i, none⟩ = false
theorem St.drewN {w : World} {sb : Nat} {y n f : Int → Bool} (h : St w sb y n f) (k : Nat) : St (w.drewN k) sb y n f := ⟨h.lt, h.yes, h.no, h.fact, h.fz⟩
theorem place_lt {x : Int} (h : wordB x = true) : placeOf x < 32 := (word_place h).1
theorem l05Place_is (x : Int) (w : World) (h : wordB x = true) : Calls Try.prog 54 #[.int .i64 x] w fun e w' => e = .returned (.int .i64 (placeOf x : Int)) ∧ w = w' := by
  have hx := wordB_iff.1 h
  by_cases h0 : x < 0
  · have hfin := Lib.hid (show (placeOf x : Int) = -2 * x - 1 by unfold placeOf; rw [if_pos h0]; omega)
    go_enter Try.func54, Try.ntmps54
    go_wp2
    go_ret
    exact ⟨by rw [hfin.out]; rfl, rfl⟩
  · have hfin := Lib.hid (show (placeOf x : Int) = 2 * x - 2 by unfold placeOf; rw [if_neg h0]; omega)
    go_enter Try.func54, Try.ntmps54
    go_wp2
    go_ret
    exact ⟨by rw [hfin.out]; rfl, rfl⟩
theorem all_snoc {p : Int → Bool} {zs : List Int} {k : Nat} (h : (zs.take k).all p = true) (hk : k < zs.length) (hp : p (zs[k]?.getD 0) = true) : (zs.take (k + 1)).all p = true := by
  rw [take_snoc zs k 0 hk, List.all_append, h]; simp [hp]
theorem all_stop {p : Int → Bool} {zs : List Int} {k : Nat} (hk : k < zs.length) (hp : p (zs[k]?.getD 0) = false) : zs.all p = false := by
  rw [List.all_eq_false]; exact ⟨_, getD_mem hk, by rw [hp]; decide⟩
theorem any_stop {p : Int → Bool} {zs : List Int} {k : Nat} (hk : k < zs.length) (hp : p (zs[k]?.getD 0) = true) : zs.any p = true := by
  rw [List.any_eq_true]; exact ⟨_, getD_mem hk, hp⟩
set_option maxHeartbeats 800000 in
theorem l05All_is {b : Bool} {sb : Nat} {y n f : Int → Bool} (p : Addr) (r : Ru) (w : World) (hS : St w sb y n f) (hp : AtP w p r) (hr : Rd w w.heap.size 1 r.A r.n (ints r.ifs)) (hn : r.n ≤ 1048576) (hw : ∀ z ∈ r.ifs, wordB z = true) (h : holdsB y r.dat = b) :
    Calls Try.prog 69 #[.pointer (some ⟨sb, 0, none⟩), .pointer (some p)] w fun e w' => e = .returned (.bool b) ∧ ∃ m, w' = w.drewN m := by
  rw [show (holdsB y r.dat) = (r.ifs.all y) from rfl] at h
  subst h
  have hc1 := hp.c1
  obtain ⟨hd, fr, tt, rk, A, m, c, ifs⟩ := r
  dsimp only at hr hn hw hc1 ⊢
  have HL := Lib.hid hr.ilen
  have HS := Lib.hid hS
  have HWD := Lib.hid hw
  clear hp hS hw
  go_enter Try.func69, Try.ntmps69
  go_wp2
  go_loopw [5, 11] (fun _ i wr => ∃ k : Nat, k ≤ m ∧ i = .int .i64 k ∧ (ifs.take k).all y = true ∧ ∃ j, wr = w.drewN j) (fun _ i _ => m - (intOf i).toNat)
  case atStart => exact ⟨0, Nat.zero_le _, rfl, rfl, 0, rfl⟩
  case round =>
    obtain ⟨k, hk, rfl, ha, hwr⟩ := hrel
    have hr2 : Rd wr w.heap.size 1 A m (ints ifs) := by obtain ⟨j, rfl⟩ := hwr; exact hr.drewN j
    have hc2 : wr.cell? { block := p.block, off := p.off + 1 } = some (.slice A m c) := by obtain ⟨j, rfl⟩ := hwr; exact hc1
    have HS2 := Lib.hid (show St wr sb y n f by obtain ⟨j, rfl⟩ := hwr; exact HS.out.drewN j)
    have HW := Lib.hid hwr
    have HA := Lib.hid ha
    clear hr hwr ha hc1
    by_cases hlt : k < m
    · obtain ⟨ad, rfl, hc⟩ := hr2.int hlt
      have hk' : (0 : Int) ≤ k := by omega
      have hlt' : (k : Int) < m := by omega
      have hwz := HWD.out _ (getD_mem (zs := ifs) (k := k) (by have := HL.out; omega))
      obtain ⟨x, hx⟩ : ∃ x, x = ifs[k]?.getD 0 := ⟨_, rfl⟩
      rw [← hx] at hc hwz
      have HX := Lib.hid hx
      have hpl : (placeOf x : Int) < 32 := by have := place_lt hwz; omega
      have hpl0 : (0 : Int) ≤ placeOf x := by omega
      have hcell := HS2.out.yes x hwz
      have HZ := Lib.hid hwz
      clear hx hr2 hwz
      cases ho : y x
      · have hfin := Lib.hid (all_stop (p := y) (zs := ifs) (k := k) (by have := HL.out; omega) (by rw [← HX.out]; exact ho))
        rw [ho] at hcell
        clear ho
        go_wp2
        go_quiet (first | (go_at_call 54; exact quietL (l05Place_is x _ HZ.out)))
        go_wp2
        go_ret
        exact ⟨ret_bool hfin.out.symm, drewN_more HW.out _⟩
      · have hs := Lib.hid (all_snoc (p := y) (zs := ifs) (k := k) HA.out (by have := HL.out; omega) (by rw [← HX.out]; exact ho))
        have HO := Lib.hid ho
        rw [ho] at hcell
        clear ho
        go_wp2
        go_quiet (first | (go_at_call 54; exact quietL (l05Place_is x _ HZ.out)))
        go_wp2
        go_roundw
        case rel => exact ⟨k + 1, by omega, by go_num, hs.out, drewN_more HW.out _⟩
        case measure => simp [intOf]; omega
    · obtain rfl : m = k := by omega
      have hfin := Lib.hid (show ifs.all y = true by have := HA.out; rwa [List.take_of_length_le (by have := HL.out; omega)] at this)
      clear hr2
      go_wp2
      go_ret
      exact ⟨by rw [hfin.out]; rfl, HW.out⟩
set_option maxHeartbeats 800000 in
theorem l05Some_is {b : Bool} {sb : Nat} {y n f : Int → Bool} (p : Addr) (r : Ru) (w : World) (hS : St w sb y n f) (hp : AtP w p r) (hr : Rd w w.heap.size 1 r.A r.n (ints r.ifs)) (hn : r.n ≤ 1048576) (hw : ∀ z ∈ r.ifs, wordB z = true) (h : failsB n r.dat = b) :
    Calls Try.prog 70 #[.pointer (some ⟨sb, 0, none⟩), .pointer (some p)] w fun e w' => e = .returned (.bool b) ∧ ∃ m, w' = w.drewN m := by
  rw [show (failsB n r.dat) = (r.ifs.any n) from rfl] at h
  subst h
  have hc1 := hp.c1
  obtain ⟨hd, fr, tt, rk, A, m, c, ifs⟩ := r
  dsimp only at hr hn hw hc1 ⊢
  have HL := Lib.hid hr.ilen
  have HS := Lib.hid hS
  have HWD := Lib.hid hw
  clear hp hS hw
  go_enter Try.func70, Try.ntmps70
  go_wp2
  go_loopw [5, 11] (fun _ i wr => ∃ k : Nat, k ≤ m ∧ i = .int .i64 k ∧ (ifs.take k).any n = false ∧ ∃ j, wr = w.drewN j) (fun _ i _ => m - (intOf i).toNat)
  case atStart => exact ⟨0, Nat.zero_le _, rfl, rfl, 0, rfl⟩
  case round =>
    obtain ⟨k, hk, rfl, ha, hwr⟩ := hrel
    have hr2 : Rd wr w.heap.size 1 A m (ints ifs) := by obtain ⟨j, rfl⟩ := hwr; exact hr.drewN j
    have hc2 : wr.cell? { block := p.block, off := p.off + 1 } = some (.slice A m c) := by obtain ⟨j, rfl⟩ := hwr; exact hc1
    have HS2 := Lib.hid (show St wr sb y n f by obtain ⟨j, rfl⟩ := hwr; exact HS.out.drewN j)
    have HW := Lib.hid hwr
    have HA := Lib.hid ha
    clear hr hwr ha hc1
    by_cases hlt : k < m
    · obtain ⟨ad, rfl, hc⟩ := hr2.int hlt
      have hk' : (0 : Int) ≤ k := by omega
      have hlt' : (k : Int) < m := by omega
      have hwz := HWD.out _ (getD_mem (zs := ifs) (k := k) (by have := HL.out; omega))
      obtain ⟨x, hx⟩ : ∃ x, x = ifs[k]?.getD 0 := ⟨_, rfl⟩
      rw [← hx] at hc hwz
      have HX := Lib.hid hx
      have hpl : (placeOf x : Int) < 32 := by have := place_lt hwz; omega
      have hpl0 : (0 : Int) ≤ placeOf x := by omega
      have hcell := HS2.out.no x hwz
      have HZ := Lib.hid hwz
      clear hx hr2 hwz
      cases ho : n x
      · have hs := Lib.hid (any_snoc (p := n) (zs := ifs) (k := k) 0 HA.out (by have := HL.out; omega) (by rw [← HX.out]; exact ho))
        have HO := Lib.hid ho
        rw [ho] at hcell
        clear ho
        go_wp2
        go_quiet (first | (go_at_call 54; exact quietL (l05Place_is x _ HZ.out)))
        go_wp2
        go_roundw
        case rel => exact ⟨k + 1, by omega, by go_num, hs.out, drewN_more HW.out _⟩
        case measure => simp [intOf]; omega
      · have hfin := Lib.hid (any_stop (p := n) (zs := ifs) (k := k) (by have := HL.out; omega) (by rw [← HX.out]; exact ho))
        rw [ho] at hcell
        clear ho
        go_wp2
        go_quiet (first | (go_at_call 54; exact quietL (l05Place_is x _ HZ.out)))
        go_wp2
        go_ret
        exact ⟨ret_bool hfin.out.symm, drewN_more HW.out _⟩
    · obtain rfl : m = k := by omega
      have hfin := Lib.hid (show ifs.any n = false by have := HA.out; rwa [List.take_of_length_le (by have := HL.out; omega)] at this)
      clear hr2
      go_wp2
      go_ret
      exact ⟨by rw [hfin.out]; rfl, HW.out⟩
end Go.Proofs.Ytmfglflahlddbaa
namespace Go.Proofs.Ytmfglflahlddbaa
open Go.ChangeShapes Go.WideShapes Go.ChangeAt Go.RowKit
set_option linter.unusedVariables false
set_option linter.unusedSimpArgs false

theorem any_more {p : Rl → Bool} {ds : List Rl} {k : Nat} {d : Rl} (h : ds[k]? = some d) : (ds.take (k + 1)).any p = ((ds.take k).any p || p d) := by
  rw [List.take_add_one, h, List.any_append]; simp
theorem any_fin {p : Rl → Bool} {ds : List Rl} {k : Nat} (h : ds.length ≤ k) : (ds.take k).any p = ds.any p := by rw [List.take_of_length_le h]
/-- rules that can be read, all of whose Ifs are words -/
structure RsW (w : World) (base : Nat) (A : Option Addr) (m : Nat) (rs : List Ru) : Prop where
  rd : RRd w base A m rs
  n : ∀ r ∈ rs, r.n ≤ 1048576 ∧ (∀ z ∈ r.ifs, wordB z = true) ∧ wordB r.hd = true
theorem RsW.drewN {w : World} {B m : Nat} {A : Option Addr} {rs : List Ru} (h : RsW w B A m rs) (j : Nat) : RsW (w.drewN j) B A m rs := ⟨h.rd.drewN j, h.n⟩
theorem RsW.get {w : World} {m k : Nat} {A : Option Addr} {rs : List Ru} (h : RsW w w.heap.size A m rs) (hk : k < m) :
    ∃ (ad : Addr) (r : Ru), A = some ad ∧ (rs.map Ru.dat)[k]? = some r.dat ∧ AtP w (ad.add (k * 5)) r ∧ Rd w w.heap.size 1 r.A r.n (ints r.ifs) ∧ r.n ≤ 1048576 ∧ (∀ z ∈ r.ifs, wordB z = true) ∧ wordB r.hd = true := by
  obtain ⟨ad, r, e, hr, ha, hi⟩ := h.rd.at hk
  have := h.n r (List.mem_of_getElem? hr)
  exact ⟨ad, r, e, by rw [List.getElem?_map, hr]; rfl, ha, hi, this⟩
set_option maxHeartbeats 3200000 in
theorem l05Proved_is {b : Bool} {sb : Nat} {y n f : Int → Bool} (A : Option Addr) (m c : Nat) (rs : List Ru) (x : Int) (w : World) (hS : St w sb y n f) (hr : RsW w w.heap.size A m rs) (hm : m ≤ 1048576) (hx : wordB x = true) (h : prvB (rs.map Ru.dat) y n x = b) :
    Calls Try.prog 55 #[.pointer (some ⟨sb, 0, none⟩), .slice A m c, .int .i64 x] w fun e w' => e = .returned (.bool b) ∧ ∃ j, w' = w.drewN j := by
  subst h
  obtain ⟨ds, hds⟩ : ∃ ds, ds = rs.map Ru.dat := ⟨_, rfl⟩
  rw [← hds]
  have HD := Lib.hid hds
  have HS := Lib.hid hS
  have HR := Lib.hid hr
  have HL := Lib.hid (show ds.length = m by rw [hds, List.length_map]; exact hr.rd.len)
  have hxb := wordB_iff.1 hx
  have HX := Lib.hid hx
  clear hds hS hr hx
  go_enter Try.func55, Try.ntmps55
  go_wp2
  go_loopw [7, 8, 14] (fun v _ i wr => ∃ k : Nat, k ≤ m ∧ i = .int .i64 k ∧ v = .bool ((ds.take k).any fun r => (r.hd == x) && holdsB y r) ∧ ∃ j, wr = w.drewN j) (fun _ _ i _ => m - (intOf i).toNat)
  case atStart => exact ⟨0, Nat.zero_le _, rfl, rfl, 0, rfl⟩
  case round =>
    obtain ⟨k, hk, rfl, rfl, hwr⟩ := hrel
    have HS2 := Lib.hid (show St wr sb y n f by obtain ⟨j, rfl⟩ := hwr; exact HS.out.drewN j)
    have HR2 := Lib.hid (show RsW wr wr.heap.size A m rs by obtain ⟨j, rfl⟩ := hwr; exact HR.out.drewN j)
    have HW := Lib.hid hwr
    clear hwr
    by_cases hlt : k < m
    · obtain ⟨ad, r, rfl, hdk, ha, hri, hrn, hrw, hrh⟩ := HR2.out.get hlt
      rw [← HD.out] at hdk
      have hst := Lib.hid (any_more (p := fun r => (r.hd == x) && holdsB y r) hdk)
      have i1 : (0 : Int) ≤ k := by omega
      have i2 : (k : Int) < m := by omega
      obtain ⟨c0, c1, c2, c3, c4⟩ := ha
      have HA := Lib.hid (show AtP wr (ad.add (k * 5)) r from ⟨c0, c1, c2, c3, c4⟩)
      have HRI := Lib.hid hri
      have HRW := Lib.hid hrw
      clear hri hrw hdk hrh
      cases t0 : (ds.take k).any fun r => (r.hd == x) && holdsB y r
      case true =>
        have hs := Lib.hid (show _ = true from hst.out.trans (by rw [t0, Bool.true_or]))
        clear t0
        go_wp2_with fail
        go_roundw
        case rel => exact ⟨k + 1, by omega, by go_num, by rw [hs.out], HW.out⟩
        case measure => simp [intOf]; omega
      rcases Bool.eq_false_or_eq_true (r.hd == x) with t1 | t1
      case inr =>
        have hs := Lib.hid (show _ = false from hst.out.trans (by rw [t0, show (r.dat.hd == x) = false from t1]; rfl))
        clear t0
        go_wp2_with fail
        go_roundw
        case rel => exact ⟨k + 1, by omega, by go_num, by rw [hs.out], HW.out⟩
        case measure => simp [intOf]; omega
      case inl =>
        cases t2 : holdsB y r.dat
        case false =>
          have hs := Lib.hid (show _ = false from hst.out.trans (by rw [t0, t2, Bool.and_false]; rfl))
          have H2 := Lib.hid t2
          clear t0 t2
          go_wp2_with (go_at_call 69; refine (l05All_is _ r _ HS2.out HA.out HRI.out hrn HRW.out H2.out).mono ?_; rintro e w' ⟨rfl, hw'⟩)
          go_roundw
          case rel => exact ⟨k + 1, by omega, by go_num, by rw [hs.out], by obtain ⟨j, rfl⟩ := HW.out; exact drewN_add hw'⟩
          case measure => simp [intOf]; omega
        case true =>
          have hs := Lib.hid (show _ = true from hst.out.trans (by rw [t0, t2, show (r.dat.hd == x) = true from t1]; rfl))
          have H2 := Lib.hid t2
          clear t0 t2
          go_wp2_with (go_at_call 69; refine (l05All_is _ r _ HS2.out HA.out HRI.out hrn HRW.out H2.out).mono ?_; rintro e w' ⟨rfl, hw'⟩)
          go_roundw
          case rel => exact ⟨k + 1, by omega, by go_num, by rw [hs.out], by obtain ⟨j, rfl⟩ := HW.out; exact drewN_add hw'⟩
          case measure => simp [intOf]; omega
    · obtain rfl : m = k := by omega
      rw [any_fin (by have := HL.out; omega)]
      cases t0 : ds.any fun r => (r.hd == x) && holdsB y r
      case false =>
        have hfin := Lib.hid (show prvB ds y n x = false by unfold prvB; rw [t0]; rfl)
        clear t0
        go_wp2_with fail
        go_ret
        exact ⟨ret_bool hfin.out.symm, HW.out⟩
      have hfin := Lib.hid (show prvB ds y n x = !ds.any fun s => (s.hd == -x) && !(failsB n s || beatenB ds y x s) by unfold prvB; rw [t0]; rfl)
      clear t0
      go_wp2_with fail
      go_loopw [9, 10, 11, 39] (fun _ _ _ i wi => ∃ k2 : Nat, k2 ≤ m ∧ i = .int .i64 k2 ∧ (ds.take k2).any (fun s => (s.hd == -x) && !(failsB n s || beatenB ds y x s)) = false ∧ ∃ j, wi = w.drewN j) (fun _ _ _ i _ => m - (intOf i).toNat)
      case atStart => exact ⟨0, Nat.zero_le _, rfl, rfl, HW.out⟩
      case round =>
        obtain ⟨k2, hk2, rfl, ha2, hwi⟩ := hrel
        clear HS2 HR2 HW
        have HS2 := Lib.hid (show St wr sb y n f by obtain ⟨j, rfl⟩ := hwi; exact HS.out.drewN j)
        have HR2 := Lib.hid (show RsW wr wr.heap.size A m rs by obtain ⟨j, rfl⟩ := hwi; exact HR.out.drewN j)
        have HW := Lib.hid hwi
        have HA2 := Lib.hid ha2
        clear hwi ha2
        by_cases hlt2 : k2 < m
        · obtain ⟨ad, r, rfl, hdk, ha, hri, hrn, hrw, hrh⟩ := HR2.out.get hlt2
          rw [← HD.out] at hdk
          have hst := Lib.hid (any_more (p := fun s => (s.hd == -x) && !(failsB n s || beatenB ds y x s)) hdk)
          have HDK := Lib.hid hdk
          have i1 : (0 : Int) ≤ k2 := by omega
          have i2 : (k2 : Int) < m := by omega
          obtain ⟨c0, c1, c2, c3, c4⟩ := ha
          have HA := Lib.hid (show AtP wr (ad.add (k2 * 5)) r from ⟨c0, c1, c2, c3, c4⟩)
          have HRI := Lib.hid hri
          have HRW := Lib.hid hrw
          have bhd := wordB_iff.1 hrh
          clear hri hrw hdk hrh
          rcases Bool.eq_false_or_eq_true (r.hd != -x) with t1 | t1
          case inl =>
            have hs := Lib.hid (show _ = false from hst.out.trans (by rw [HA2.out, show (r.dat.hd == -x) = false by simpa [bne, Ru.dat] using t1]; rfl))
            go_wp2_with fail
            go_roundw
            case rel => exact ⟨k2 + 1, by omega, by go_num, hs.out, HW.out⟩
            case measure => simp [intOf]; omega
          case inr =>
          have t1' : (r.dat.hd == -x) = true := by simpa [bne, Ru.dat] using t1
          have T1 := Lib.hid t1'
          clear t1'
          cases t2 : failsB n r.dat
          case true =>
            have hs := Lib.hid (show _ = false from hst.out.trans (by rw [HA2.out, t2, Bool.true_or, Bool.not_true, Bool.and_false]; rfl))
            have H2 := Lib.hid t2
            clear t2
            go_wp2_with (go_at_call 70; refine (l05Some_is _ r _ HS2.out HA.out HRI.out hrn HRW.out H2.out).mono ?_; rintro e w' ⟨rfl, hw'⟩)
            go_roundw
            case rel => exact ⟨k2 + 1, by omega, by go_num, hs.out, by obtain ⟨j, rfl⟩ := HW.out; exact drewN_add hw'⟩
            case measure => simp [intOf]; omega
          case false =>
          have H2 := Lib.hid t2
          clear t2
          go_wp2_with (go_at_call 70; refine (l05Some_is _ r _ HS2.out HA.out HRI.out hrn HRW.out H2.out).mono ?_; rintro e w' ⟨rfl, hw'⟩)
          have HW3 := Lib.hid (show ∃ j, w' = w.drewN j by obtain ⟨j, rfl⟩ := HW.out; exact drewN_add hw')
          have HT := Lib.hid t1
          clear hw' c0 c1 c2 c3 c4 t1 HA HRI HRW
          go_loopw [10, 11, 59] (fun v _ i3 wj => ∃ k3 : Nat, k3 ≤ m ∧ i3 = .int .i64 k3 ∧ v = .bool ((ds.take k3).any fun t => (t.hd == x) && (holdsB y t && decide (r.dat.rk < t.rk))) ∧ ∃ j, wj = w.drewN j) (fun _ _ i3 _ => m - (intOf i3).toNat)
          case atStart => exact ⟨0, Nat.zero_le _, rfl, rfl, HW3.out⟩
          case round =>
            obtain ⟨k3, hk3, rfl, rfl, hwj⟩ := hrel
            clear HS2 HR2 HW HW3
            have HS2 := Lib.hid (show St wr sb y n f by obtain ⟨j, rfl⟩ := hwj; exact HS.out.drewN j)
            have HR2 := Lib.hid (show RsW wr wr.heap.size (some ad) m rs by obtain ⟨j, rfl⟩ := hwj; exact HR.out.drewN j)
            have HW := Lib.hid hwj
            clear hwj
            by_cases hlt3 : k3 < m
            · obtain ⟨ad', s, hE, hdk', ha', hri', hrn', hrw', hrh'⟩ := HR2.out.get hlt3
              obtain ⟨ad2, r2, hE2, hdk2, hb', _⟩ := HR2.out.get hlt2
              cases hE; cases hE2
              rw [← HD.out] at hdk' hdk2
              have her : r2.dat = r.dat := Option.some.inj (hdk2.symm.trans HDK.out)
              have hrk : r2.rk = r.rk := congrArg Rl.rk her
              have d4 := hb'.c4
              rw [hrk] at d4
              have hst3 := Lib.hid (any_more (p := fun t => (t.hd == x) && (holdsB y t && decide (r.dat.rk < t.rk))) hdk')
              have i3 : (0 : Int) ≤ k3 := by omega
              have i4 : (k3 : Int) < m := by omega
              obtain ⟨c0, c1, c2, c3, c4⟩ := ha'
              have HA := Lib.hid (show AtP wr (ad.add (k3 * 5)) s from ⟨c0, c1, c2, c3, c4⟩)
              have HRI := Lib.hid hri'
              have HRW := Lib.hid hrw'
              clear hri' hrw' hdk' hrh' hdk2 hb' her hrk
              cases t0 : (ds.take k3).any fun t => (t.hd == x) && (holdsB y t && decide (r.dat.rk < t.rk))
              case true =>
                have hs := Lib.hid (show _ = true from hst3.out.trans (by rw [t0, Bool.true_or]))
                clear t0
                go_wp2_with fail
                go_quiet (fail)
                go_wp2_with fail
                go_roundw
                case rel => exact ⟨k3 + 1, by omega, by go_num, by rw [hs.out], drewN_more HW.out _⟩
                case measure => simp [intOf]; omega
              rcases Bool.eq_false_or_eq_true (s.hd == x) with t1 | t1
              case inr =>
                have hs := Lib.hid (show _ = false from hst3.out.trans (by rw [t0, show (s.dat.hd == x) = false from t1]; rfl))
                clear t0
                go_wp2_with fail
                go_quiet (fail)
                go_wp2_with fail
                go_roundw
                case rel => exact ⟨k3 + 1, by omega, by go_num, by rw [hs.out], drewN_more HW.out _⟩
                case measure => simp [intOf]; omega
              case inl =>
              cases t2 : holdsB y s.dat
              case false =>
                have hs := Lib.hid (show _ = false from hst3.out.trans (by rw [t0, t2, Bool.false_and, Bool.and_false]; rfl))
                have H2 := Lib.hid t2
                clear t0 t2
                go_wp2_with fail
                go_quiet (first | (go_at_call 69; exact quietD (l05All_is _ s _ (HS2.out.drewN _) (HA.out.drewN _) (HRI.out.drewN _) hrn' HRW.out H2.out)))
                go_wp2_with fail
                go_roundw
                case rel => exact ⟨k3 + 1, by omega, by go_num, by rw [hs.out], drewN_more HW.out _⟩
                case measure => simp [intOf]; omega
              case true =>
              have H2 := Lib.hid t2
              cases t3 : decide (r.rk < s.rk)
              case false =>
                have hs := Lib.hid (show _ = false from hst3.out.trans (by rw [t0, t2, show decide (r.dat.rk < s.dat.rk) = false from t3, Bool.and_false, Bool.and_false]; rfl))
                clear t0 t2
                go_wp2_with fail
                go_quiet (first | (go_at_call 69; exact quietD (l05All_is _ s _ (HS2.out.drewN _) (HA.out.drewN _) (HRI.out.drewN _) hrn' HRW.out H2.out)))
                go_wp2_with fail
                go_roundw
                case rel => exact ⟨k3 + 1, by omega, by go_num, by rw [hs.out], drewN_more HW.out _⟩
                case measure => simp [intOf]; omega
              case true =>
                have hs := Lib.hid (show _ = true from hst3.out.trans (by rw [t0, t2, show decide (r.dat.rk < s.dat.rk) = true from t3, show (s.dat.hd == x) = true from t1]; rfl))
                clear t0 t2
                go_wp2_with fail
                go_quiet (first | (go_at_call 69; exact quietD (l05All_is _ s _ (HS2.out.drewN _) (HA.out.drewN _) (HRI.out.drewN _) hrn' HRW.out H2.out)))
                go_wp2_with fail
                go_roundw
                case rel => exact ⟨k3 + 1, by omega, by go_num, by rw [hs.out], drewN_more HW.out _⟩
                case measure => simp [intOf]; omega
            · obtain rfl : m = k3 := by omega
              rw [any_fin (by have := HL.out; omega)]
              cases t0 : ds.any fun t => (t.hd == x) && (holdsB y t && decide (r.dat.rk < t.rk))
              case false =>
                have hno := Lib.hid (show prvB ds y n x = false by
                  rw [hfin.out, Bool.not_eq_false', List.any_eq_true]
                  exact ⟨_, List.mem_of_getElem? HDK.out, by rw [T1.out, H2.out, show beatenB ds y x r.dat = false from t0]; rfl⟩)
                clear t0
                go_wp2_with fail
                go_ret
                exact ⟨ret_bool hno.out.symm, HW.out⟩
              case true =>
                have hs := Lib.hid (show _ = false from hst.out.trans (by rw [HA2.out, show beatenB ds y x r.dat = true from t0, Bool.or_true, Bool.not_true, Bool.and_false]; rfl))
                clear t0
                go_wp2_with fail
                go_roundw
                case rel => exact ⟨k2 + 1, by omega, by go_num, hs.out, HW.out⟩
                case measure => simp [intOf]; omega
        · obtain rfl : m = k2 := by omega
          have hyes := Lib.hid (show prvB ds y n x = true by
            rw [hfin.out, ← any_fin (show ds.length ≤ m by have := HL.out; omega), HA2.out]; rfl)
          go_wp2_with fail
          go_ret
          exact ⟨ret_bool hyes.out.symm, HW.out⟩
end Go.Proofs.Ytmfglflahlddbaa
namespace Go.Proofs.Ytmfglflahlddbaa
open Go.ChangeShapes Go.WideShapes Go.ChangeAt Go.RowKit
set_option linter.unusedVariables false
set_option linter.unusedSimpArgs false

def beatAll (ds : List Rl) (y n : Int → Bool) (x : Int) : Rl → Bool := fun s => (s.hd == -x) && (holdsB y s && beatsB ds n x s)
def notBelow (n : Int → Bool) (x rk : Int) : Rl → Bool := fun t => (t.hd == x) && !(failsB n t || decide (t.rk ≤ rk))
def notFail (n : Int → Bool) (x : Int) : Rl → Bool := fun r => (r.hd == x) && !failsB n r
theorem beats_eq {ds : List Rl} {n : Int → Bool} {x : Int} {s : Rl} : beatsB ds n x s = !ds.any (notBelow n x s.rk) := rfl
theorem disB_eq {ds : List Rl} {y n : Int → Bool} {x : Int} : disB ds y n x = (!ds.any (notFail n x) || ds.any (beatAll ds y n x)) := rfl
set_option maxHeartbeats 3200000 in
theorem l05Disproved_is {b : Bool} {sb : Nat} {y n f : Int → Bool} (A : Option Addr) (m c : Nat) (rs : List Ru) (x : Int) (w : World) (hS : St w sb y n f) (hr : RsW w w.heap.size A m rs) (hm : m ≤ 1048576) (hx : wordB x = true) (h : disB (rs.map Ru.dat) y n x = b) :
    Calls Try.prog 56 #[.pointer (some ⟨sb, 0, none⟩), .slice A m c, .int .i64 x] w fun e w' => e = .returned (.bool b) ∧ ∃ j, w' = w.drewN j := by
  subst h
  obtain ⟨ds, hds⟩ : ∃ ds, ds = rs.map Ru.dat := ⟨_, rfl⟩
  rw [← hds]
  have HD := Lib.hid hds
  have HS := Lib.hid hS
  have HR := Lib.hid hr
  have HL := Lib.hid (show ds.length = m by rw [hds, List.length_map]; exact hr.rd.len)
  have hxb := wordB_iff.1 hx
  have HX := Lib.hid hx
  clear hds hS hr hx
  go_enter Try.func56, Try.ntmps56
  go_wp2
  go_loopw [7, 8, 9, 10, 14] (fun v _ _ _ i wr => ∃ k : Nat, k ≤ m ∧ i = .int .i64 k ∧ v = .bool ((ds.take k).any (beatAll ds y n x)) ∧ ∃ j, wr = w.drewN j) (fun _ _ _ _ i _ => m - (intOf i).toNat)
  case atStart => exact ⟨0, Nat.zero_le _, rfl, rfl, 0, rfl⟩
  case round =>
    obtain ⟨k, hk, rfl, rfl, hwr⟩ := hrel
    have HS2 := Lib.hid (show St wr sb y n f by obtain ⟨j, rfl⟩ := hwr; exact HS.out.drewN j)
    have HR2 := Lib.hid (show RsW wr wr.heap.size A m rs by obtain ⟨j, rfl⟩ := hwr; exact HR.out.drewN j)
    have HW := Lib.hid hwr
    clear hwr
    by_cases hlt : k < m
    · obtain ⟨ad, r, rfl, hdk, ha, hri, hrn, hrw, hrh⟩ := HR2.out.get hlt
      rw [← HD.out] at hdk
      have hst := Lib.hid (any_more (p := beatAll ds y n x) hdk)
      have HDK := Lib.hid hdk
      have i1 : (0 : Int) ≤ k := by omega
      have i2 : (k : Int) < m := by omega
      obtain ⟨c0, c1, c2, c3, c4⟩ := ha
      have HA := Lib.hid (show AtP wr (ad.add (k * 5)) r from ⟨c0, c1, c2, c3, c4⟩)
      have HRI := Lib.hid hri
      have HRW := Lib.hid hrw
      have bhd := wordB_iff.1 hrh
      clear hri hrw hdk hrh
      obtain ⟨b7, hb7⟩ : ∃ b7, b7 = (ds.take k).any (beatAll ds y n x) := ⟨_, rfl⟩
      rw [← hb7] at hst ⊢
      clear hb7
      rcases Bool.eq_false_or_eq_true (r.hd != -x) with t1 | t1
      case inl =>
        have hs := Lib.hid (show _ = b7 from hst.out.trans (by unfold beatAll; rw [show (r.dat.hd == -x) = false by simpa [bne, Ru.dat] using t1]; simp))
        clear hst
        go_wp2_with fail
        go_roundw
        case rel => exact ⟨k + 1, by omega, by go_num, by rw [hs.out], HW.out⟩
        case measure => simp [intOf]; omega
      case inr =>
      have T1 := Lib.hid (show (r.dat.hd == -x) = true by simpa [bne, Ru.dat] using t1)
      cases t2 : holdsB y r.dat
      case false =>
        have hs := Lib.hid (show _ = b7 from hst.out.trans (by unfold beatAll; rw [t2]; simp))
        have H2 := Lib.hid t2
        clear t2 hst
        go_wp2_with (go_at_call 69; refine (l05All_is _ r _ HS2.out HA.out HRI.out hrn HRW.out H2.out).mono ?_; rintro e w' ⟨rfl, hw'⟩)
        go_roundw
        case rel => exact ⟨k + 1, by omega, by go_num, by rw [hs.out], by obtain ⟨j, rfl⟩ := HW.out; exact drewN_add hw'⟩
        case measure => simp [intOf]; omega
      case true =>
      have hst2 := Lib.hid (show (ds.take (k + 1)).any (beatAll ds y n x) = (b7 || !ds.any (notBelow n x r.dat.rk)) from hst.out.trans (by
        show (b7 || ((r.dat.hd == -x) && (holdsB y r.dat && beatsB ds n x r.dat))) = _
        rw [T1.out, t2, beats_eq]; rfl))
      have H2 := Lib.hid t2
      clear t2 hst
      go_wp2_with (go_at_call 69; refine (l05All_is _ r _ HS2.out HA.out HRI.out hrn HRW.out H2.out).mono ?_; rintro e w' ⟨rfl, hw'⟩)
      have HW3 := Lib.hid (show ∃ j, w' = w.drewN j by obtain ⟨j, rfl⟩ := HW.out; exact drewN_add hw')
      clear hw' c0 c1 c2 c3 c4 t1 HA HRI HRW
      go_loopw [9, 10, 35] (fun v _ i3 wj => ∃ k3 : Nat, k3 ≤ m ∧ i3 = .int .i64 k3 ∧ v = .bool (!(ds.take k3).any (notBelow n x r.dat.rk)) ∧ ∃ j, wj = w.drewN j) (fun _ _ i3 _ => m - (intOf i3).toNat)
      case atStart => exact ⟨0, Nat.zero_le _, rfl, rfl, HW3.out⟩
      case round =>
        obtain ⟨k3, hk3, rfl, rfl, hwj⟩ := hrel
        clear HS2 HR2 HW HW3
        have HS2 := Lib.hid (show St wr sb y n f by obtain ⟨j, rfl⟩ := hwj; exact HS.out.drewN j)
        have HR2 := Lib.hid (show RsW wr wr.heap.size (some ad) m rs by obtain ⟨j, rfl⟩ := hwj; exact HR.out.drewN j)
        have HW := Lib.hid hwj
        clear hwj
        by_cases hlt3 : k3 < m
        · obtain ⟨ad', s, hE, hdk', ha', hri', hrn', hrw', hrh'⟩ := HR2.out.get hlt3
          obtain ⟨ad2, r2, hE2, hdk2, hb', _⟩ := HR2.out.get hlt
          cases hE; cases hE2
          rw [← HD.out] at hdk' hdk2
          have her : r2.dat = r.dat := Option.some.inj (hdk2.symm.trans HDK.out)
          have hrk : r2.rk = r.rk := congrArg Rl.rk her
          have d4 := hb'.c4
          rw [hrk] at d4
          have hst3 := Lib.hid (any_more (p := notBelow n x r.dat.rk) hdk')
          have i3 : (0 : Int) ≤ k3 := by omega
          have i4 : (k3 : Int) < m := by omega
          obtain ⟨c0, c1, c2, c3, c4⟩ := ha'
          have HA := Lib.hid (show AtP wr (ad.add (k3 * 5)) s from ⟨c0, c1, c2, c3, c4⟩)
          have HRI := Lib.hid hri'
          have HRW := Lib.hid hrw'
          clear hri' hrw' hdk' hrh' hdk2 hb' her hrk
          obtain ⟨b9, hb9⟩ : ∃ b9, b9 = (ds.take k3).any (notBelow n x r.dat.rk) := ⟨_, rfl⟩
          rw [← hb9] at hst3 ⊢
          clear hb9
          rcases Bool.eq_false_or_eq_true (s.hd == x) with t1 | t1
          case inr =>
            have hs := Lib.hid (show _ = b9 from hst3.out.trans (by unfold notBelow; rw [show (s.dat.hd == x) = false from t1]; simp))
            clear hst3
            go_wp2_with fail
            go_quiet (fail)
            go_wp2_with fail
            go_roundw
            case rel => exact ⟨k3 + 1, by omega, by go_num, by rw [hs.out], drewN_more HW.out _⟩
            case measure => simp [intOf]; omega
          case inl =>
          cases t2 : failsB n s.dat
          case true =>
            have hs := Lib.hid (show _ = b9 from hst3.out.trans (by unfold notBelow; rw [t2]; simp))
            have H2 := Lib.hid t2
            clear t2 hst3
            go_wp2_with fail
            go_quiet (first | (go_at_call 70; exact quietD (l05Some_is _ s _ (HS2.out.drewN _) (HA.out.drewN _) (HRI.out.drewN _) hrn' HRW.out H2.out)))
            go_wp2_with fail
            go_roundw
            case rel => exact ⟨k3 + 1, by omega, by go_num, by rw [hs.out], drewN_more HW.out _⟩
            case measure => simp [intOf]; omega
          case false =>
          have H2 := Lib.hid t2
          cases t3 : decide (r.rk < s.rk)
          case false =>
            have hs := Lib.hid (show _ = b9 from hst3.out.trans (by
              unfold notBelow
              rw [t2, show decide (s.dat.rk ≤ r.dat.rk) = true from decide_eq_true (by have := of_decide_eq_false t3; show s.rk ≤ r.rk; omega)]; simp))
            clear t2 hst3
            go_wp2_with fail
            go_quiet (first | (go_at_call 70; exact quietD (l05Some_is _ s _ (HS2.out.drewN _) (HA.out.drewN _) (HRI.out.drewN _) hrn' HRW.out H2.out)))
            go_wp2_with fail
            go_roundw
            case rel => exact ⟨k3 + 1, by omega, by go_num, by rw [hs.out], drewN_more HW.out _⟩
            case measure => simp [intOf]; omega
          case true =>
            have hs := Lib.hid (show _ = true from hst3.out.trans (by
              unfold notBelow
              rw [t2, show (s.dat.hd == x) = true from t1, show decide (s.dat.rk ≤ r.dat.rk) = false from decide_eq_false (by have := of_decide_eq_true t3; show ¬ s.rk ≤ r.rk; omega)]; simp))
            clear t2 hst3
            go_wp2_with fail
            go_quiet (first | (go_at_call 70; exact quietD (l05Some_is _ s _ (HS2.out.drewN _) (HA.out.drewN _) (HRI.out.drewN _) hrn' HRW.out H2.out)))
            go_wp2_with fail
            go_roundw
            case rel => exact ⟨k3 + 1, by omega, by go_num, by rw [hs.out]; rfl, drewN_more HW.out _⟩
            case measure => simp [intOf]; omega
        · obtain rfl : m = k3 := by omega
          rw [any_fin (by have := HL.out; omega)]
          obtain ⟨b9, hb9⟩ : ∃ b9, b9 = ds.any (notBelow n x r.dat.rk) := ⟨_, rfl⟩
          rw [← hb9] at hst2 ⊢
          clear hb9
          cases b7
          · go_wp2_with fail
            go_roundw
            case rel => exact ⟨k + 1, by omega, by go_num, by rw [hst2.out]; rfl, HW.out⟩
            case measure => simp [intOf]; omega
          · go_wp2_with fail
            go_roundw
            case rel => exact ⟨k + 1, by omega, by go_num, by rw [hst2.out]; rfl, HW.out⟩
            case measure => simp [intOf]; omega
    · obtain rfl : m = k := by omega
      rw [any_fin (by have := HL.out; omega)]
      have hdis := Lib.hid (disB_eq (ds := ds) (y := y) (n := n) (x := x))
      obtain ⟨bt, hbt⟩ : ∃ bt, bt = ds.any (beatAll ds y n x) := ⟨_, rfl⟩
      rw [← hbt] at hdis ⊢
      clear hbt
      go_wp2_with fail
      go_loopw [11, 74] (fun _ i wi => ∃ k2 : Nat, k2 ≤ m ∧ i = .int .i64 k2 ∧ ((ds.take k2).any (notFail n x) && !bt) = false ∧ ∃ j, wi = w.drewN j) (fun _ i _ => m - (intOf i).toNat)
      case atStart => exact ⟨0, Nat.zero_le _, rfl, rfl, HW.out⟩
      case round =>
        obtain ⟨k2, hk2, rfl, ha2, hwi⟩ := hrel
        clear HS2 HR2 HW
        have HS2 := Lib.hid (show St wr sb y n f by obtain ⟨j, rfl⟩ := hwi; exact HS.out.drewN j)
        have HR2 := Lib.hid (show RsW wr wr.heap.size A m rs by obtain ⟨j, rfl⟩ := hwi; exact HR.out.drewN j)
        have HW := Lib.hid hwi
        have HA2 := Lib.hid ha2
        clear hwi ha2
        by_cases hlt2 : k2 < m
        · obtain ⟨ad, r, rfl, hdk, ha, hri, hrn, hrw, hrh⟩ := HR2.out.get hlt2
          rw [← HD.out] at hdk
          have hst := Lib.hid (any_more (p := notFail n x) hdk)
          have HDK := Lib.hid hdk
          have i1 : (0 : Int) ≤ k2 := by omega
          have i2 : (k2 : Int) < m := by omega
          obtain ⟨c0, c1, c2, c3, c4⟩ := ha
          have HA := Lib.hid (show AtP wr (ad.add (k2 * 5)) r from ⟨c0, c1, c2, c3, c4⟩)
          have HRI := Lib.hid hri
          have HRW := Lib.hid hrw
          clear hri hrw hdk hrh
          rcases Bool.eq_false_or_eq_true (r.hd == x) with t1 | t1
          case inr =>
            have hs := Lib.hid (show ((ds.take (k2 + 1)).any (notFail n x) && !bt) = false by
              rw [hst.out]; unfold notFail; rw [show (r.dat.hd == x) = false from t1, Bool.false_and, Bool.or_false]; exact HA2.out)
            go_wp2_with fail
            go_roundw
            case rel => exact ⟨k2 + 1, by omega, by go_num, hs.out, HW.out⟩
            case measure => simp [intOf]; omega
          case inl =>
          cases t2 : failsB n r.dat
          case true =>
            have hs := Lib.hid (show ((ds.take (k2 + 1)).any (notFail n x) && !bt) = false by
              rw [hst.out]; unfold notFail; rw [t2, Bool.not_true, Bool.and_false, Bool.or_false]; exact HA2.out)
            have H2 := Lib.hid t2
            clear t2
            go_wp2_with (go_at_call 70; refine (l05Some_is _ r _ HS2.out HA.out HRI.out hrn HRW.out H2.out).mono ?_; rintro e w' ⟨rfl, hw'⟩)
            go_roundw
            case rel => exact ⟨k2 + 1, by omega, by go_num, hs.out, by obtain ⟨j, rfl⟩ := HW.out; exact drewN_add hw'⟩
            case measure => simp [intOf]; omega
          case false =>
          have H2 := Lib.hid t2
          cases bt
          · have hno := Lib.hid (show disB ds y n x = false by
              rw [hdis.out, Bool.or_false, Bool.not_eq_false', List.any_eq_true]
              exact ⟨_, List.mem_of_getElem? HDK.out, by unfold notFail; rw [t2, show (r.dat.hd == x) = true from t1]; rfl⟩)
            clear t2
            go_wp2_with (go_at_call 70; refine (l05Some_is _ r _ HS2.out HA.out HRI.out hrn HRW.out H2.out).mono ?_; rintro e w' ⟨rfl, hw'⟩)
            go_ret
            exact ⟨ret_bool hno.out.symm, by obtain ⟨j, rfl⟩ := HW.out; exact drewN_add hw'⟩
          · clear t2
            go_wp2_with (go_at_call 70; refine (l05Some_is _ r _ HS2.out HA.out HRI.out hrn HRW.out H2.out).mono ?_; rintro e w' ⟨rfl, hw'⟩)
            go_roundw
            case rel => exact ⟨k2 + 1, by omega, by go_num, Bool.and_false _, by obtain ⟨j, rfl⟩ := HW.out; exact drewN_add hw'⟩
            case measure => simp [intOf]; omega
        · obtain rfl : m = k2 := by omega
          have hyes := Lib.hid (show disB ds y n x = true by
            have h3 := HA2.out
            rw [any_fin (show ds.length ≤ m by have := HL.out; omega)] at h3
            rw [hdis.out]
            cases h4 : ds.any (notFail n x)
            · rfl
            · rw [h4] at h3; cases bt
              · cases h3
              · rfl)
          go_wp2_with fail
          go_ret
          exact ⟨ret_bool hyes.out.symm, HW.out⟩
end Go.Proofs.Ytmfglflahlddbaa
namespace Go.Proofs.Ytmfglflahlddbaa
open Go.ChangeShapes Go.WideShapes Go.ChangeAt Go.RowKit
set_option linter.unusedVariables false
set_option linter.unusedSimpArgs false

/-- the active rules among the first k -/
def actD (ds : List Rl) (day : Int) : Nat → List Rl
  | 0 => []
  | k + 1 => if onB (ds[k]?.getD noRl) day then actD ds day k ++ [ds[k]?.getD noRl] else actD ds day k
theorem actD_succ (ds : List Rl) (day : Int) (k : Nat) : actD ds day (k + 1) = if onB (ds[k]?.getD noRl) day then actD ds day k ++ [ds[k]?.getD noRl] else actD ds day k := rfl
theorem actD_len (ds : List Rl) (day : Int) (k : Nat) : (actD ds day k).length ≤ k := by
  induction k with
  | zero => simp [actD]
  | succ k ih =>
    rw [actD]; split
    · rw [List.length_append, List.length_singleton]; omega
    · omega
theorem actD_take (ds : List Rl) (day : Int) (k : Nat) (h : k ≤ ds.length) : actD ds day k = (ds.take k).filter fun d => onB d day := by
  induction k with
  | zero => rfl
  | succ k ih =>
    rw [actD, ih (by omega), List.take_add_one, List.getElem?_eq_getElem (by omega), List.filter_append]
    simp only [Option.getD_some, Option.toList_some]
    split
    · rename_i h1; simp [h1]
    · rename_i h1; simp [h1]
theorem actD_all (ds : List Rl) (day : Int) : actD ds day ds.length = ds.filter fun d => onB d day := by rw [actD_take ds day _ (Nat.le_refl _), List.take_length]
theorem actR_dat (rs : List Ru) (day : Int) : (rs.filter fun r => onB r.dat day).map Ru.dat = (rs.map Ru.dat).filter fun d => onB d day := by
  rw [List.filter_map]; rfl
set_option maxHeartbeats 1600000 in
theorem l05Of_any (A : Option Addr) (m c : Nat) (ds : List Rl) (day : Int) (w : World) (hr : RsRd w w.heap.size A m ds) (hm : m ≤ 1048576) :
    Calls Try.prog 38 #[.slice A m c, .int .i64 day] w fun e w' => ∃ A' n c', e = .returned (.slice A' n c') ∧ RsRd w' w'.heap.size A' n (actD ds day m) ∧ Below w.heap.size w w' := by
  go_enter Try.func38, Try.ntmps38
  go_wp2_with fail
  go_loopw [5, 6, 10] (fun v _ i wr => ∃ k : Nat, k ≤ m ∧ i = .int .i64 k ∧ (∃ rs', wr.ownsRow w.heap.size tR 5 v rs'.length (flat rs') ∧ (∀ r ∈ rs', Rd wr w.heap.size 1 r.A r.n (ints r.ifs)) ∧ rs'.map Ru.dat = actD ds day k) ∧ Below w.heap.size w wr) (fun _ _ i _ => m - (intOf i).toNat)
  case atStart => exact ⟨0, Nat.zero_le _, rfl, ⟨[], own_emptyR w, (fun r h => by cases h), rfl⟩, (Below.refl _ _).alloc (Nat.le_refl _) _⟩
  case round =>
    obtain ⟨k, hk, rfl, ⟨rs', hown, hinn, hdat⟩, hbw⟩ := hrel
    by_cases hlt : k < m
    · obtain ⟨rs, hr2, hrs⟩ := hr.below hbw
      obtain ⟨ad, r, rfl, ka, hrk, hc0, hc1, hc2, hc3, hc4, hri⟩ := hr2.row hlt
      have hz' : (0 : Int) ≤ k := by omega
      have hlt' : (k : Int) < m := by omega
      have hon := dat_at hrk
      rw [hrs] at hon
      have hst := actD_succ ds day k
      rw [hon] at hst
      have hl := congrArg List.length hdat
      rw [List.length_map] at hl
      have hl2 := actD_len ds day k
      have hlm : rs'.length ≤ 2097152 := by omega
      have HST := Lib.hid hst
      have HRI := Lib.hid hri
      have HO := Lib.hid hown
      have HN := Lib.hid hinn
      have HW := Lib.hid hbw
      have HD := Lib.hid hdat
      clear hr hr2 hrs hrk hri hown hinn hbw hdat hst hon hl hl2 ka
      obtain ⟨hd, fr, tt, rk, Ai, ni, ci, ifs⟩ := r
      dsimp only at hc0 hc1 hc2 hc3 hc4 HRI
      cases ho : onB ⟨hd, ifs, fr, tt, rk⟩ day
      · have hs2 := Lib.hid (show actD ds day (k + 1) = actD ds day k by rw [HST.out]; simp [Ru.dat, ho])
        go_wp2_with (go_at_call 57; refine (l05On_is _ ⟨hd, fr, tt, rk, Ai, ni, ci, ifs⟩ _ _ ⟨hc0, hc1, hc2, hc3, hc4⟩ ho).mono ?_; rintro e w3 ⟨rfl, rfl⟩)
        go_roundw
        case rel => exact ⟨k + 1, by omega, by go_num, ⟨rs', HO.out, HN.out, by rw [HD.out, hs2.out]⟩, HW.out⟩
        case measure => simp [intOf]; omega
      · have hs2 := Lib.hid (show actD ds day (k + 1) = actD ds day k ++ [⟨hd, ifs, fr, tt, rk⟩] by rw [HST.out]; simp [Ru.dat, ho])
        go_wp2_with (first | (go_at_call 57; refine (l05On_is _ ⟨hd, fr, tt, rk, Ai, ni, ci, ifs⟩ _ _ ⟨hc0, hc1, hc2, hc3, hc4⟩ ho).mono ?_; rintro e w3 ⟨rfl, rfl⟩) | (at_builtin; refine append_flat rfl (.tmp 18) (.tmp 23) rfl w _ rs'.length (flat rs') rfl (World.ownsRow.alloc HO.out _) (HW.out.alloc HW.out.size _) wr.heap.size _ ⟨hd, fr, tt, rk, Ai, ni, ci, ifs⟩ rfl (cell_new5 _ ⟨hd, fr, tt, rk, Ai, ni, ci, ifs⟩ _) hlm ?_; intro v' w' ho2 hb2 hg2))
        go_roundw
        case rel =>
          have hx : Below w.heap.size wr w' := ⟨hb2.os.trans HW.out.os.symm, hb2.tape.trans HW.out.tape.symm, hb2.output.trans HW.out.output.symm, by have := hg2.size; simp at this; omega, fun q hq => (hb2.block q hq).trans (HW.out.block q hq).symm⟩
          refine ⟨k + 1, by omega, by go_num, ⟨rs' ++ [⟨hd, fr, tt, rk, Ai, ni, ci, ifs⟩], by rw [flat_snoc, List.length_append]; exact ho2, fun a ha => ?_, by rw [List.map_append, HD.out, hs2.out]; rfl⟩, hb2⟩
          rcases List.mem_append.1 ha with h | h
          · exact (HN.out a h).keep fun p hp => hx.cell hp
          · rw [List.mem_singleton.1 h]; exact HRI.out.keep fun p hp => hx.cell hp
        case measure => simp [intOf]; omega
    · obtain rfl : m = k := by omega
      obtain ⟨A', c', rfl, _⟩ := own_form hown
      clear hr
      go_wp2_with fail
      go_ret
      exact ⟨_, _, _, rfl, ⟨rs', ⟨Rd.of_own hown, fun r h => (hinn r h).more hbw.size⟩, hdat⟩, hbw⟩
end Go.Proofs.Ytmfglflahlddbaa
