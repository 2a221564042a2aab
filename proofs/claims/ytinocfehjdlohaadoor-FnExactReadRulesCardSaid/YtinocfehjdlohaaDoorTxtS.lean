/-
  NUMBERS AS TEXTS: the reference's l05Number.
-/
import Derived.Test.YtinocfehjdlohaaDoorTxtR
import Derived.Deep.RegionWith
namespace Go.Proofs.YtinocfehjdlohaaDoor
open Go.ChangeShapes Go.WideShapes Go.ChangeAt Go.RowKit
set_option linter.unusedVariables false
set_option linter.unusedSimpArgs false

def dgt (r : Nat) : List UInt8 := [UInt8.ofNat (48 + r)]
theorem digit_conv (r : Nat) (hr : r < 10) (W : World) (g : Nat) (hc : W.cell? ⟨g, 0, none⟩ = some (.int .u8 (48 + r))) : (convert 79 9 (.slice (some ⟨g, 0, none⟩) 1 1)).run Tryd.prog W = .ok (.string (txB (dgt r))) W := by
  refine run_convert_bytes_back (P := Tryd.prog) W 79 9 5 ⟨g, 0, none⟩ 1 [UInt8.ofNat (48 + r)] Tryd.underlying79 Tryd.underlying5 Tryd.underlying9 fun j hj => ?_
  have h0 : j = 0 := by simpa using hj
  subst h0
  have hv : ((UInt8.ofNat (48 + r)).toNat : Int) = 48 + r := by
    have : (UInt8.ofNat (48 + r)).toNat = 48 + r := by rw [UInt8.toNat_ofNat']; omega
    rw [this]; omega
  show W.cell? ((⟨g, 0, none⟩ : Addr).add 0) = some (.int .u8 ((UInt8.ofNat (48 + r)).toNat : Int))
  rw [hv]
  simpa [Addr.add] using hc
theorem dec_big {u : Nat} (h : ¬ u < 10) : Lib.decDigits u = Lib.decDigits (u / 10) ++ dgt (u % 10) := by unfold dgt; rw [Lib.decDigits, dif_neg h]
theorem dec_len {u : Nat} (h : u < 9223372036854775808) : (Lib.decDigits u).length ≤ 21 := by
  have := itoa_len (n := (u : Int)) (by omega)
  unfold itoa at this
  rwa [Lib.itoa_nonneg] at this
set_option maxRecDepth 100000 in
set_option maxHeartbeats 4000000 in
theorem l05Number_nat (u : Nat) : u < 9223372036854775808 → ∀ w : World, Calls Tryd.prog 46 #[.int .i64 u] w fun e w' => e = .returned (.string (txB (Lib.decDigits u))) ∧ Below w.heap.size w w' := by
  induction u using Nat.strongRecOn with
  | _ u ih =>
  intro hu w
  by_cases h : u < 10
  · have hcv := digit_conv u h
    rw [show Lib.decDigits u = dgt u from Lib.decDigits_one h]
    clear ih
    go_enter Tryd.func46, Tryd.ntmps46
    go_wp2_with fail
    go_ret
    exact ⟨rfl, (Below.refl _ _).alloc (Nat.le_refl _) _⟩
  · have hlt : u / 10 < u := by omega
    have HI := Lib.hid (ih (u / 10) hlt (by omega))
    have hfin := Lib.hid (dec_big h)
    obtain ⟨r, hr⟩ : ∃ r, r = u % 10 := ⟨_, rfl⟩
    obtain ⟨q, hq⟩ : ∃ q, q = u / 10 := ⟨_, rfl⟩
    have hcv := digit_conv r (by omega)
    rw [← hr, ← hq] at hfin
    rw [← hq] at HI
    have e3 : (u : Int) / 10 = q := by omega
    have e4 : (u : Int) % 10 = r := by omega
    have e1 : (u : Int).tdiv 10 = q := by rw [Int.tdiv_eq_ediv_of_nonneg (by omega), e3]
    have e2 : (u : Int).tmod 10 = r := by rw [Int.tmod_eq_emod_of_nonneg (by omega), e4]
    have r9 : r < 10 := by omega
    have w1 : IntKind.i64.wrap (q : Int) = q := by rw [IntKind.wrap_i64]; omega
    have w2 : IntKind.i64.wrap (48 + (r : Int)) = 48 + r := by rw [IntKind.wrap_i64]; omega
    have w3 : IntKind.u8.wrap (48 + (r : Int)) = 48 + r := by rw [IntKind.wrap_u8]; omega
    have zq : (txB (Lib.decDigits q)).size ≤ 21 := by rw [txB_size]; exact dec_len (by omega)
    have zr : (txB (dgt r)).size = 1 := by rw [txB_size]; rfl
    have hfin2 := Lib.hid (show txB (Lib.decDigits u) = txB (Lib.decDigits q) ++ txB (dgt r) by rw [txB_append, hfin.out])
    obtain ⟨sq, hsq⟩ : ∃ s, txB (Lib.decDigits q) = s := ⟨_, rfl⟩
    obtain ⟨sr, hsr⟩ : ∃ s, txB (dgt r) = s := ⟨_, rfl⟩
    rw [hsq] at HI zq
    rw [hsr] at hcv zr
    rw [hsq, hsr] at hfin2
    clear hsq hsr hfin hr hq
    clear ih
    go_enter Tryd.func46, Tryd.ntmps46
    go_wp2_with fail
    go_region_with (first
      | (go_at_call 46
         refine (HI.out _).mono ?_
         rintro e w2 ⟨rfl, hb2⟩
         have hcc := fun hl => hb2.cell (p := ⟨w.heap.size, 0, none⟩) hl
         have HB2 := Lib.hid hb2
         clear hb2))
    all_goals (
      go_wp2_with fail
      go_ret
      refine ⟨by rw [hfin2.out]; rfl, ?_⟩
      have b1 : Below w.heap.size w w.drew := ⟨rfl, rfl, rfl, Nat.le_refl _, fun _ _ => rfl⟩
      first
        | exact (b1.trans HB2.out).alloc (b1.trans HB2.out).size _
        | exact (b1.alloc (Nat.le_refl _) _).trans (HB2.out.mono (by simp)))
theorem l05Number_is (n : Int) (h : -9223372036854775807 ≤ n ∧ n ≤ 9223372036854775807) (w : World) :
    Calls Tryd.prog 46 #[.int .i64 n] w fun e w' => e = .returned (.string (txB (itoa n))) ∧ Below w.heap.size w w' := by
  by_cases hn : n < 0
  · obtain ⟨u, rfl⟩ : ∃ u : Nat, n = -(u : Int) := ⟨n.natAbs, by omega⟩
    have H := Lib.hid (l05Number_nat u (by omega))
    have zq : (txB (Lib.decDigits u)).size ≤ 21 := by rw [txB_size]; exact dec_len (by omega)
    have hfin := Lib.hid (show txB (itoa (-(u : Int))) = ⟨#[45]⟩ ++ txB (Lib.decDigits u) by
      rw [show (⟨#[45]⟩ : ByteArray) = txB [45] from rfl, txB_append]
      unfold itoa; rw [Lib.itoa_neg u (by omega)]; rfl)
    obtain ⟨sq, hsq⟩ : ∃ s, txB (Lib.decDigits u) = s := ⟨_, rfl⟩
    rw [hsq] at H zq hfin
    clear hsq
    have hw : IntKind.i64.wrap (u : Int) = u := by rw [IntKind.wrap_i64]; omega
    go_enter Tryd.func46, Tryd.ntmps46
    go_wp2_with fail
    refine (H.out _).mono ?_
    rintro e w2 ⟨rfl, hb2⟩
    go_wp2_with fail
    go_ret
    exact ⟨by rw [hfin.out]; rfl, hb2⟩
  · obtain ⟨u, rfl⟩ : ∃ u : Nat, n = (u : Int) := ⟨n.toNat, by omega⟩
    rw [show itoa (u : Int) = Lib.decDigits u from Lib.itoa_nonneg u]
    exact l05Number_nat u (by omega) w
end Go.Proofs.YtinocfehjdlohaaDoor
