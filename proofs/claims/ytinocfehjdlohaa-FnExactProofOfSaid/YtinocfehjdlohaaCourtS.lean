/-
  THE REFERENCE's STATE of all words: three rows of marks in one block; what its small questions answer.
-/
import Derived.Test.YtinocfehjdlohaaCourtA
namespace Go.Proofs.Ytinocfehjdlohaa
open Go.ChangeShapes Go.WideShapes Go.ChangeAt Go.RowKit
set_option linter.unusedVariables false
set_option linter.unusedSimpArgs false

/-- block sb of w is a state: which words are proved, disproved, facts -/
structure St (w : World) (sb : Nat) (y n f : Int → Bool) : Prop where
  lt : sb < w.heap.size
  yes : ∀ x, wordB x = true → w.cell? ⟨sb, placeOf x, none⟩ = some (.bool (y x))
  no : ∀ x, wordB x = true → w.cell? ⟨sb, 32 + placeOf x, none⟩ = some (.bool (n x))
  fact : ∀ x, wordB x = true → w.cell? ⟨sb, 64 + placeOf x, none⟩ = some (.bool (f x))
  fz : ∀ i, i < 96 → w.frozen? ⟨sb, i, none⟩ = false
theorem St.drewN {w : World} {sb : Nat} {y n f : Int → Bool} (h : St w sb y n f) (k : Nat) : St (w.drewN k) sb y n f := ⟨h.lt, h.yes, h.no, h.fact, h.fz⟩
theorem place_lt {x : Int} (h : wordB x = true) : placeOf x < 32 := (word_place h).1
theorem l05Place_is (x : Int) (w : World) (h : wordB x = true) : Calls Try.prog 53 #[.int .i64 x] w fun e w' => e = .returned (.int .i64 (placeOf x : Int)) ∧ w = w' := by
  have hx := wordB_iff.1 h
  by_cases h0 : x < 0
  · have hfin := Lib.hid (show (placeOf x : Int) = -2 * x - 1 by unfold placeOf; rw [if_pos h0]; omega)
    go_enter Try.func53, Try.ntmps53
    go_wp2
    go_ret
    exact ⟨by rw [hfin.out]; rfl, rfl⟩
  · have hfin := Lib.hid (show (placeOf x : Int) = 2 * x - 2 by unfold placeOf; rw [if_neg h0]; omega)
    go_enter Try.func53, Try.ntmps53
    go_wp2
    go_ret
    exact ⟨by rw [hfin.out]; rfl, rfl⟩
theorem all_snoc {p : Int → Bool} {zs : List Int} {k : Nat} (h : (zs.take k).all p = true) (hk : k < zs.length) (hp : p (zs[k]?.getD 0) = true) : (zs.take (k + 1)).all p = true := by
  rw [take_snoc zs k 0 hk, List.all_append, h]; simp [hp]
theorem all_stop {p : Int → Bool} {zs : List Int} {k : Nat} (hk : k < zs.length) (hp : p (zs[k]?.getD 0) = false) : zs.all p = false := by
  rw [List.all_eq_false]; exact ⟨_, getD_mem hk, by rw [hp]; decide⟩
theorem any_stop {p : Int → Bool} {zs : List Int} {k : Nat} (hk : k < zs.length) (hp : p (zs[k]?.getD 0) = true) : zs.any p = true := by
  rw [List.any_eq_true]; exact ⟨_, getD_mem hk, hp⟩
set_option maxHeartbeats 800000 in
theorem l05All_is {b : Bool} {sb : Nat} {y n f : Int → Bool} (p : Addr) (r : Ru) (w : World) (hS : St w sb y n f) (hp : AtP w p r) (hr : Rd w w.heap.size 1 r.A r.n (ints r.ifs)) (hn : r.n ≤ 1048576) (hw : ∀ z ∈ r.ifs, wordB z = true) (h : holdsB y r.dat = b) :
    Calls Try.prog 103 #[.pointer (some ⟨sb, 0, none⟩), .pointer (some p)] w fun e w' => e = .returned (.bool b) ∧ ∃ m, w' = w.drewN m := by
  rw [show (holdsB y r.dat) = (r.ifs.all y) from rfl] at h
  subst h
  have hc1 := hp.c1
  obtain ⟨hd, fr, tt, rk, A, m, c, ifs⟩ := r
  dsimp only at hr hn hw hc1 ⊢
  have HL := Lib.hid hr.ilen
  have HS := Lib.hid hS
  have HWD := Lib.hid hw
  clear hp hS hw
  go_enter Try.func103, Try.ntmps103
  go_wp2
  go_loopw [5, 11] (fun _ i wr => ∃ k : Nat, k ≤ m ∧ i = .int .i64 k ∧ (ifs.take k).all y = true ∧ ∃ j, wr = w.drewN j) (fun _ i _ => m - (intOf i).toNat)
  case atStart => exact ⟨0, Nat.zero_le _, rfl, rfl, 0, rfl⟩
  case round =>
    obtain ⟨k, hk, rfl, ha, hwr⟩ := hrel
    have hr2 : Rd wr w.heap.size 1 A m (ints ifs) := by obtain ⟨j, rfl⟩ := hwr; exact hr.drewN j
    have hc2 : wr.cell? { block := p.block, off := p.off + 1 } = some (.slice A m c) := by obtain ⟨j, rfl⟩ := hwr; exact hc1
    have HS2 := Lib.hid (show St wr sb y n f by obtain ⟨j, rfl⟩ := hwr; exact HS.out.drewN j)
    have HW := Lib.hid hwr
    have HA := Lib.hid ha
    clear hr hwr ha hc1
    by_cases hlt : k < m
    · obtain ⟨ad, rfl, hc⟩ := hr2.int hlt
      have hk' : (0 : Int) ≤ k := by omega
      have hlt' : (k : Int) < m := by omega
      have hwz := HWD.out _ (getD_mem (zs := ifs) (k := k) (by have := HL.out; omega))
      obtain ⟨x, hx⟩ : ∃ x, x = ifs[k]?.getD 0 := ⟨_, rfl⟩
      rw [← hx] at hc hwz
      have HX := Lib.hid hx
      have hpl : (placeOf x : Int) < 32 := by have := place_lt hwz; omega
      have hpl0 : (0 : Int) ≤ placeOf x := by omega
      have hcell := HS2.out.yes x hwz
      have HZ := Lib.hid hwz
      clear hx hr2 hwz
      cases ho : y x
      · have hfin := Lib.hid (all_stop (p := y) (zs := ifs) (k := k) (by have := HL.out; omega) (by rw [← HX.out]; exact ho))
        rw [ho] at hcell
        clear ho
        go_wp2
        go_quiet (first | (go_at_call 53; exact quietL (l05Place_is x _ HZ.out)))
        go_wp2
        go_ret
        exact ⟨ret_bool hfin.out.symm, drewN_more HW.out _⟩
      · have hs := Lib.hid (all_snoc (p := y) (zs := ifs) (k := k) HA.out (by have := HL.out; omega) (by rw [← HX.out]; exact ho))
        have HO := Lib.hid ho
        rw [ho] at hcell
        clear ho
        go_wp2
        go_quiet (first | (go_at_call 53; exact quietL (l05Place_is x _ HZ.out)))
        go_wp2
        go_roundw
        case rel => exact ⟨k + 1, by omega, by go_num, hs.out, drewN_more HW.out _⟩
        case measure => simp [intOf]; omega
    · obtain rfl : m = k := by omega
      have hfin := Lib.hid (show ifs.all y = true by have := HA.out; rwa [List.take_of_length_le (by have := HL.out; omega)] at this)
      clear hr2
      go_wp2
      go_ret
      exact ⟨by rw [hfin.out]; rfl, HW.out⟩
set_option maxHeartbeats 800000 in
theorem l05Some_is {b : Bool} {sb : Nat} {y n f : Int → Bool} (p : Addr) (r : Ru) (w : World) (hS : St w sb y n f) (hp : AtP w p r) (hr : Rd w w.heap.size 1 r.A r.n (ints r.ifs)) (hn : r.n ≤ 1048576) (hw : ∀ z ∈ r.ifs, wordB z = true) (h : failsB n r.dat = b) :
    Calls Try.prog 104 #[.pointer (some ⟨sb, 0, none⟩), .pointer (some p)] w fun e w' => e = .returned (.bool b) ∧ ∃ m, w' = w.drewN m := by
  rw [show (failsB n r.dat) = (r.ifs.any n) from rfl] at h
  subst h
  have hc1 := hp.c1
  obtain ⟨hd, fr, tt, rk, A, m, c, ifs⟩ := r
  dsimp only at hr hn hw hc1 ⊢
  have HL := Lib.hid hr.ilen
  have HS := Lib.hid hS
  have HWD := Lib.hid hw
  clear hp hS hw
  go_enter Try.func104, Try.ntmps104
  go_wp2
  go_loopw [5, 11] (fun _ i wr => ∃ k : Nat, k ≤ m ∧ i = .int .i64 k ∧ (ifs.take k).any n = false ∧ ∃ j, wr = w.drewN j) (fun _ i _ => m - (intOf i).toNat)
  case atStart => exact ⟨0, Nat.zero_le _, rfl, rfl, 0, rfl⟩
  case round =>
    obtain ⟨k, hk, rfl, ha, hwr⟩ := hrel
    have hr2 : Rd wr w.heap.size 1 A m (ints ifs) := by obtain ⟨j, rfl⟩ := hwr; exact hr.drewN j
    have hc2 : wr.cell? { block := p.block, off := p.off + 1 } = some (.slice A m c) := by obtain ⟨j, rfl⟩ := hwr; exact hc1
    have HS2 := Lib.hid (show St wr sb y n f by obtain ⟨j, rfl⟩ := hwr; exact HS.out.drewN j)
    have HW := Lib.hid hwr
    have HA := Lib.hid ha
    clear hr hwr ha hc1
    by_cases hlt : k < m
    · obtain ⟨ad, rfl, hc⟩ := hr2.int hlt
      have hk' : (0 : Int) ≤ k := by omega
      have hlt' : (k : Int) < m := by omega
      have hwz := HWD.out _ (getD_mem (zs := ifs) (k := k) (by have := HL.out; omega))
      obtain ⟨x, hx⟩ : ∃ x, x = ifs[k]?.getD 0 := ⟨_, rfl⟩
      rw [← hx] at hc hwz
      have HX := Lib.hid hx
      have hpl : (placeOf x : Int) < 32 := by have := place_lt hwz; omega
      have hpl0 : (0 : Int) ≤ placeOf x := by omega
      have hcell := HS2.out.no x hwz
      have HZ := Lib.hid hwz
      clear hx hr2 hwz
      cases ho : n x
      · have hs := Lib.hid (any_snoc (p := n) (zs := ifs) (k := k) 0 HA.out (by have := HL.out; omega) (by rw [← HX.out]; exact ho))
        have HO := Lib.hid ho
        rw [ho] at hcell
        clear ho
        go_wp2
        go_quiet (first | (go_at_call 53; exact quietL (l05Place_is x _ HZ.out)))
        go_wp2
        go_roundw
        case rel => exact ⟨k + 1, by omega, by go_num, hs.out, drewN_more HW.out _⟩
        case measure => simp [intOf]; omega
      · have hfin := Lib.hid (any_stop (p := n) (zs := ifs) (k := k) (by have := HL.out; omega) (by rw [← HX.out]; exact ho))
        rw [ho] at hcell
        clear ho
        go_wp2
        go_quiet (first | (go_at_call 53; exact quietL (l05Place_is x _ HZ.out)))
        go_wp2
        go_ret
        exact ⟨ret_bool hfin.out.symm, drewN_more HW.out _⟩
    · obtain rfl : m = k := by omega
      have hfin := Lib.hid (show ifs.any n = false by have := HA.out; rwa [List.take_of_length_le (by have := HL.out; omega)] at this)
      clear hr2
      go_wp2
      go_ret
      exact ⟨by rw [hfin.out]; rfl, HW.out⟩
end Go.Proofs.Ytinocfehjdlohaa
