/-
  AreRules: what the program's and the reference's functions return.
-/
import Derived.Test.YtmfglflahlddbaaRuObj
namespace Go.Proofs.Ytmfglflahlddbaa
open Go.ChangeShapes Go.WideShapes Go.ChangeAt Go.RowKit
set_option linter.unusedVariables false
set_option linter.unusedSimpArgs false

theorem AtP.drewN {w : World} {p : Addr} {r : Ru} (h : AtP w p r) (n : Nat) : AtP (w.drewN n) p r := ⟨h.c0, h.c1, h.c2, h.c3, h.c4⟩
theorem RRd.drewN {w : World} {B m : Nat} {A : Option Addr} {rs : List Ru} (h : RRd w B A m rs) (n : Nat) : RRd (w.drewN n) B A m rs := ⟨h.1.drewN n, fun r hr' => (h.2 r hr').drewN n⟩
theorem RRd.at {w : World} {B k m : Nat} {A : Option Addr} {rs : List Ru} (h : RRd w B A m rs) (hk : k < m) :
    ∃ (ad : Addr) (r : Ru), A = some ad ∧ rs[k]? = some r ∧ AtP w (ad.add (k * 5)) r ∧ Rd w B 1 r.A r.n (ints r.ifs) := by
  obtain ⟨ad, r, e, _, hr, h0, h1, h2, h3, h4, hi⟩ := h.row hk
  exact ⟨ad, r, e, hr, ⟨h0, h1, h2, h3, h4⟩, hi⟩
theorem take_more {α : Type} {rs : List α} {k : Nat} {r : α} (h : rs[k]? = some r) : rs.take (k + 1) = rs.take k ++ [r] := by rw [List.take_add_one, h]; rfl
theorem l05Rule_is {b : Bool} (p : Addr) (r : Ru) (w : World) (hp : AtP w p r) (hr : Rd w w.heap.size 1 r.A r.n (ints r.ifs)) (hn : r.n ≤ 1048576) (hz : I64s r.ifs) (h : validB r.dat = b) :
    Calls Try.prog 35 #[.pointer (some p)] w fun e w' => e = .returned (.bool b) ∧ ∃ m, w' = w.drewN m := by
  subst h; exact l05Rule_any p r w hp hr hn hz
theorem rules_no {rs : List Ru} {k : Nat} {r : Ru} (h : rs[k]? = some r) (hv : validB r.dat = false) : rulesB (rs.map Ru.dat) = false := by
  have hm := List.mem_of_getElem? h
  unfold rulesB
  rw [Bool.and_eq_false_iff]
  right
  rw [List.all_eq_false]
  exact ⟨_, List.mem_map_of_mem hm, by simp [hv]⟩
set_option maxHeartbeats 1600000 in
theorem l05Rules_any (A : Option Addr) (m c : Nat) (rs : List Ru) (w : World) (hr : RRd w w.heap.size A m rs) (hm : m ≤ 1048576) (hB : RuN rs) :
    Calls Try.prog 19 #[.slice A m c] w fun e w' => e = .returned (.bool (rulesB (rs.map Ru.dat))) ∧ ∃ k, w' = w.drewN k := by
  have HL := Lib.hid hr.len
  have HN := Lib.hid hB
  clear hB
  go_enter Try.func19, Try.ntmps19
  go_wp2
  go_loopw [3, 6] (fun _ i wr => ∃ k : Nat, k ≤ m ∧ i = .int .i64 k ∧ ((rs.take k).map Ru.dat).all validB = true ∧ ∃ j, wr = w.drewN j) (fun _ i _ => m - (intOf i).toNat)
  case atStart => exact ⟨0, Nat.zero_le _, rfl, rfl, 0, rfl⟩
  case round =>
    obtain ⟨k, hk, rfl, ha, j, rfl⟩ := hrel
    have HA := Lib.hid ha
    clear ha
    by_cases hlt : k < m
    · obtain ⟨ad, r, rfl, hrk, hp, hri⟩ := hr.at hlt
      have HK := Lib.hid hrk
      have HP := Lib.hid hp
      have HRI := Lib.hid hri
      have q := HN.out r (List.mem_of_getElem? hrk)
      have HQ := Lib.hid q
      clear hrk hp hri q hr
      cases hv : validB r.dat
      · have hfin := Lib.hid (rules_no HK.out hv)
        go_wp2_with (go_at_call 35; refine (l05Rule_is _ r _ (HP.out.drewN _) (HRI.out.drewN _) HQ.out.1 HQ.out.2 hv).mono ?_; rintro e w' ⟨rfl, j2, rfl⟩)
        go_ret
        exact ⟨by rw [hfin.out]; rfl, ⟨_, rfl⟩⟩
      · have hfin := Lib.hid (show ((rs.take (k + 1)).map Ru.dat).all validB = true by
          rw [take_more HK.out, List.map_append, List.all_append, HA.out]; simp [hv])
        go_wp2_with (go_at_call 35; refine (l05Rule_is _ r _ (HP.out.drewN _) (HRI.out.drewN _) HQ.out.1 HQ.out.2 hv).mono ?_; rintro e w' ⟨rfl, j2, rfl⟩)
        go_roundw
        case rel => exact ⟨k + 1, by omega, by go_num, hfin.out, ⟨_, rfl⟩⟩
        case measure => simp [intOf]; omega
    · obtain rfl : m = k := by omega
      have hfin := Lib.hid (show rulesB (rs.map Ru.dat) = decide (m ≤ 24) by
        have := HA.out
        rw [List.take_of_length_le (by have := HL.out; omega)] at this
        unfold rulesB; rw [this, List.length_map, HL.out]; simp)
      clear hr HA
      go_wp2
      go_ret
      exact ⟨by rw [hfin.out]; go_num, j, rfl⟩
end Go.Proofs.Ytmfglflahlddbaa
