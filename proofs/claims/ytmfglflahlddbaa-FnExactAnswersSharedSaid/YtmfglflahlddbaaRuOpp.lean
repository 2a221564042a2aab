/-
  slices.Contains on numbers, l00Has, oppose.
-/
import Derived.Test.YtmfglflahlddbaaRuAct
namespace Go.Proofs.Ytmfglflahlddbaa
open Go.ChangeShapes Go.WideShapes Go.ChangeAt Go.RowKit
set_option linter.unusedVariables false
set_option linter.unusedSimpArgs false

def hasI (zs : List Int) (x : Int) : Bool := zs.any fun z => x == z
theorem indexI_any (A : Option Addr) (n c : Nat) (zs : List Int) (x : Int) (w : World) (hr : Rd w w.heap.size 1 A n (ints zs)) (hn : n ≤ 2097152) :
    Calls Try.prog 77 #[.slice A n c, .int .i64 x] w fun e w' => e = .returned (.int .i64 (findI (fun z => x == z) zs)) ∧ w = w' := by
  go_enter Try.func77, Try.ntmps77
  go_wp2
  go_loop [5, 8] (fun _ i => ∃ k : Nat, k ≤ n ∧ i = .int .i64 k ∧ (zs.take k).any (fun z => x == z) = false) (fun _ i => n - (intOf i).toNat)
  case atStart => exact ⟨0, Nat.zero_le _, rfl, rfl⟩
  case round =>
    obtain ⟨k, hk, rfl, ha⟩ := hrel
    have HA := Lib.hid ha
    clear ha
    have hlen := hr.ilen
    have HL := Lib.hid hlen
    clear hlen
    by_cases hlt : k < n
    · obtain ⟨ad, rfl, hc⟩ := hr.int hlt
      clear hr
      obtain ⟨z, hz⟩ : ∃ z, z = zs[k]?.getD 0 := ⟨_, rfl⟩
      rw [← hz] at hc
      have HZ := Lib.hid hz
      clear hz
      by_cases hb : x = z
      · have hfin := Lib.hid (findI_hit (p := fun z => x == z) 0 HA.out (by have := HL.out; omega) (by rw [← HZ.out, hb]; simp))
        subst hb
        go_wp2
        go_ret
        exact ⟨by rw [hfin.out]; rfl, rfl⟩
      · have hs := Lib.hid (any_snoc (p := fun z => x == z) 0 HA.out (by have := HL.out; omega) (by rw [← HZ.out]; simpa using hb))
        go_wp2
        go_round
        case rel => exact ⟨k + 1, by omega, by go_num, hs.out⟩
        case measure => simp [intOf]; omega
    · obtain rfl : n = k := by omega
      have hfin := Lib.hid (findI_miss (p := fun z => x == z) (zs := zs) (by have := HA.out; rwa [List.take_of_length_le (by have := HL.out; omega)] at this))
      clear HA
      go_wp2
      go_ret
      exact ⟨by rw [hfin.out]; rfl, rfl⟩
theorem containsI_is {b : Bool} (A : Option Addr) (n c : Nat) (zs : List Int) (x : Int) (w : World) (hr : Rd w w.heap.size 1 A n (ints zs)) (hn : n ≤ 2097152) (h : hasI zs x = b) :
    Calls Try.prog 71 #[.slice A n c, .int .i64 x] w fun e w' => e = .returned (.bool b) ∧ w = w' := by
  subst h
  have hfin := Lib.hid (findI_nonneg (p := fun z => x == z) (zs := zs))
  go_enter Try.func71, Try.ntmps71
  go_wp2_with (go_at_call 77; refine (indexI_any _ _ _ zs _ _ hr hn).mono ?_; rintro e w' ⟨rfl, rfl⟩)
  go_ret
  exact ⟨ret_bool hfin.out, rfl⟩
def opposeB (a b : Rl) : Bool := a.ifs.any fun w => hasI b.ifs (-w)
end Go.Proofs.Ytmfglflahlddbaa
