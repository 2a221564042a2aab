/-
  RULES AS TEXTS: the program's decimals and ruleText.
-/
import Derived.Test.YtinocfehjdlohaaDoorTxt
namespace Go.Proofs.YtinocfehjdlohaaDoor
open Go.ChangeShapes Go.WideShapes Go.ChangeAt Go.RowKit
set_option linter.unusedVariables false
set_option linter.unusedSimpArgs false

set_option maxHeartbeats 800000 in
theorem decimals_is (A : Option Addr) (n c : Nat) (zs : List Int) (sep : ByteArray) (w : World) (hr : Rd w w.heap.size 1 A n (ints zs)) (hn : n ≤ 1000) (hz : I64s zs) (hs : sep.size ≤ 100) (ht : Tab w) :
    Calls Tryd.prog 51 #[.slice A n c, .string sep] w fun e w' => e = .returned (.string (txB (Lib.join (zs.map itoa) sep.data.toList))) ∧ Below w.heap.size w w' := by
  have HL := Lib.hid hr.ilen
  have HR := Lib.hid hr
  have HZ := Lib.hid hz
  have HT := Lib.hid ht
  clear hr hz ht
  go_enter Tryd.func51, Tryd.ntmps51
  go_wp2
  go_loopw [5, 7, 11] (fun v _ i wr => ∃ k : Nat, k ≤ n ∧ i = .int .i64 k ∧ wr.ownsRow w.heap.size 9 1 v k (strs ((zs.take k).map itoa)) ∧ Below w.heap.size w wr) (fun _ _ i _ => n - (intOf i).toNat)
  case atStart => exact ⟨0, Nat.zero_le _, rfl, own_empty _ _, (Below.refl _ _).alloc (Nat.le_refl _) _⟩
  case round =>
    obtain ⟨k, hk, rfl, hown, hb⟩ := hrel
    have HO := Lib.hid hown
    have HB := Lib.hid hb
    have HTR := Lib.hid (HT.out.on hb)
    by_cases hlt : k < n
    · obtain ⟨ad, rfl, hc⟩ := (HR.out.below hb).int hlt
      have hzb := HZ.out _ (getD_mem (zs := zs) (k := k) (by have := HL.out; omega))
      have hnx := Lib.hid (show (zs.take (k + 1)).map itoa = (zs.take k).map itoa ++ [itoa (zs[k]?.getD 0)] by rw [take_snoc zs k 0 (by have := HL.out; omega), List.map_append]; rfl)
      obtain ⟨z, hz⟩ : ∃ z, z = zs[k]?.getD 0 := ⟨_, rfl⟩
      rw [← hz] at hc hzb hnx
      have HZB := Lib.hid hzb
      clear hown hb hz hzb
      go_wp2_with fail
      refine (decimal_is z HZB.out _ HTR.out).mono ?_
      rintro e w2 ⟨rfl, hb2⟩
      have HB2 := Lib.hid (below_step HB.out hb2)
      have HO2 := Lib.hid (own_on HO.out hb2)
      clear hb2
      go_wp2_with (at_builtin; refine append_str rfl (.tmp 15) (.tmp 18) rfl w _ k _ rfl (HO2.out.alloc _) (HB2.out.alloc HB2.out.size _) _ _ (itoa z) rfl (cell_new _ _ _) (by omega) ?_; intro v' w' ho2 hb3)
      go_roundw
      case rel => exact ⟨k + 1, by omega, by go_num, by rw [hnx.out]; exact ho2, hb3⟩
      case measure => simp [intOf]; omega
    · obtain rfl : n = k := by omega
      rw [List.take_of_length_le (by have := HL.out; omega)] at hown
      obtain ⟨A2, c2, rfl, _⟩ := own_form hown
      have HO2 := Lib.hid hown
      clear hown hb HO
      go_wp2_with fail
      refine (join_is (.slice A2 n c2) _ _ _ _ _ _ _ HO2.out hn hs (ifs_bnd HZ.out)).mono ?_
      rintro e w2 ⟨rfl, hb2⟩
      have HB2 := Lib.hid (below_step HB.out hb2)
      clear hb2
      go_wp2_with fail
      go_ret
      exact ⟨rfl, HB2.out⟩
end Go.Proofs.YtinocfehjdlohaaDoor
