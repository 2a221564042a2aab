/-
  slices.Contains on numbers, l00Has, oppose.
-/
import Derived.Test.YtkdiegplbloccaaRuAct
namespace Go.Proofs.Ytkdiegplbloccaa
open Go.ChangeShapes Go.WideShapes Go.ChangeAt Go.RowKit
set_option linter.unusedVariables false
set_option linter.unusedSimpArgs false

def hasI (zs : List Int) (x : Int) : Bool := zs.any fun z => x == z
theorem indexI_any (A : Option Addr) (n c : Nat) (zs : List Int) (x : Int) (w : World) (hr : Rd w w.heap.size 1 A n (ints zs)) (hn : n ≤ 2097152) :
    Calls Try.prog 122 #[.slice A n c, .int .i64 x] w fun e w' => e = .returned (.int .i64 (findI (fun z => x == z) zs)) ∧ w = w' := by
  go_enter Try.func122, Try.ntmps122
  go_wp2
  go_loop [5, 8] (fun _ i => ∃ k : Nat, k ≤ n ∧ i = .int .i64 k ∧ (zs.take k).any (fun z => x == z) = false) (fun _ i => n - (intOf i).toNat)
  case atStart => exact ⟨0, Nat.zero_le _, rfl, rfl⟩
  case round =>
    obtain ⟨k, hk, rfl, ha⟩ := hrel
    have HA := Lib.hid ha
    clear ha
    have hlen := hr.ilen
    have HL := Lib.hid hlen
    clear hlen
    by_cases hlt : k < n
    · obtain ⟨ad, rfl, hc⟩ := hr.int hlt
      clear hr
      obtain ⟨z, hz⟩ : ∃ z, z = zs[k]?.getD 0 := ⟨_, rfl⟩
      rw [← hz] at hc
      have HZ := Lib.hid hz
      clear hz
      by_cases hb : x = z
      · have hfin := Lib.hid (findI_hit (p := fun z => x == z) 0 HA.out (by have := HL.out; omega) (by rw [← HZ.out, hb]; simp))
        subst hb
        go_wp2
        go_ret
        exact ⟨by rw [hfin.out]; rfl, rfl⟩
      · have hs := Lib.hid (any_snoc (p := fun z => x == z) 0 HA.out (by have := HL.out; omega) (by rw [← HZ.out]; simpa using hb))
        go_wp2
        go_round
        case rel => exact ⟨k + 1, by omega, by go_num, hs.out⟩
        case measure => simp [intOf]; omega
    · obtain rfl : n = k := by omega
      have hfin := Lib.hid (findI_miss (p := fun z => x == z) (zs := zs) (by have := HA.out; rwa [List.take_of_length_le (by have := HL.out; omega)] at this))
      clear HA
      go_wp2
      go_ret
      exact ⟨by rw [hfin.out]; rfl, rfl⟩
theorem containsI_is {b : Bool} (A : Option Addr) (n c : Nat) (zs : List Int) (x : Int) (w : World) (hr : Rd w w.heap.size 1 A n (ints zs)) (hn : n ≤ 2097152) (h : hasI zs x = b) :
    Calls Try.prog 98 #[.slice A n c, .int .i64 x] w fun e w' => e = .returned (.bool b) ∧ w = w' := by
  subst h
  have hfin := Lib.hid (findI_nonneg (p := fun z => x == z) (zs := zs))
  go_enter Try.func98, Try.ntmps98
  go_wp2_with (go_at_call 122; refine (indexI_any _ _ _ zs _ _ hr hn).mono ?_; rintro e w' ⟨rfl, rfl⟩)
  go_ret
  exact ⟨ret_bool hfin.out, rfl⟩
theorem l00Has_is {b : Bool} (A : Option Addr) (n c : Nat) (zs : List Int) (x : Int) (w : World) (hr : Rd w w.heap.size 1 A n (ints zs)) (hn : n ≤ 2097152) (h : hasI zs x = b) :
    Calls Try.prog 88 #[.slice A n c, .int .i64 x] w fun e w' => e = .returned (.bool b) ∧ w = w' := by
  subst h
  go_enter Try.func88, Try.ntmps88
  go_wp2
  go_loop [5] (fun i => ∃ k : Nat, k ≤ n ∧ i = .int .i64 k ∧ (zs.take k).any (fun z => x == z) = false) (fun i => n - (intOf i).toNat)
  case atStart => exact ⟨0, Nat.zero_le _, rfl, rfl⟩
  case round =>
    obtain ⟨k, hk, rfl, ha⟩ := hrel
    have HA := Lib.hid ha
    clear ha
    have hlen := hr.ilen
    have HL := Lib.hid hlen
    clear hlen
    by_cases hlt : k < n
    · obtain ⟨ad, rfl, hc⟩ := hr.int hlt
      clear hr
      obtain ⟨z, hz⟩ : ∃ z, z = zs[k]?.getD 0 := ⟨_, rfl⟩
      rw [← hz] at hc
      have HZ := Lib.hid hz
      have hkl : zs[k]? = some z := by rw [hz, List.getElem?_eq_getElem (by have := HL.out; omega)]; rfl
      have HK := Lib.hid hkl
      clear hz hkl
      by_cases hb : z = x
      · have hfin := Lib.hid (show hasI zs x = true by
          unfold hasI; rw [List.any_eq_true]; exact ⟨z, List.mem_of_getElem? HK.out, by simp [hb]⟩)
        subst hb
        go_wp2
        go_ret
        exact ⟨by rw [hfin.out]; rfl, rfl⟩
      · have hs := Lib.hid (any_snoc (p := fun z => x == z) 0 HA.out (by have := HL.out; omega) (by rw [← HZ.out]; simpa using fun e => hb e.symm))
        go_wp2
        go_round
        case rel => exact ⟨k + 1, by omega, by go_num, hs.out⟩
        case measure => simp [intOf]; omega
    · obtain rfl : n = k := by omega
      have hfin := Lib.hid (show hasI zs x = false by have := HA.out; rwa [List.take_of_length_le (by have := HL.out; omega)] at this)
      clear HA
      go_wp2
      go_ret
      exact ⟨by rw [hfin.out]; rfl, rfl⟩
def opposeB (a b : Rl) : Bool := a.ifs.any fun w => hasI b.ifs (-w)
theorem oppose1_is {b : Bool} (x : Int) (g : Nat) (B : Option Addr) (m d : Nat) (ys : List Int) (w : World) (hs : Rd w w.heap.size 1 B m (ints ys)) (hm : m ≤ 1048576) (hx : -1000 ≤ x ∧ x ≤ 1000) (hc : w.cell? ⟨g, 1, none⟩ = some (.slice B m d)) (h : hasI ys (-x) = b) :
    Calls Try.prog 121 #[.int .i64 x, .pointer (some ⟨g, 0, none⟩)] w fun e w' => e = .returned (.bool b) ∧ w = w' := by
  go_enter Try.func121, Try.ntmps121
  go_wp2_with (go_at_call 98; refine (containsI_is _ _ _ ys _ _ hs (by omega) h).mono ?_; rintro e w' ⟨rfl, rfl⟩)
  go_ret
  exact ⟨rfl, rfl⟩
set_option maxHeartbeats 800000 in
theorem indexOpp_any (A : Option Addr) (n c : Nat) (zs : List Int) (g : Nat) (B : Option Addr) (m d : Nat) (ys : List Int) (w : World) (hr : Rd w w.heap.size 1 A n (ints zs)) (hn : n ≤ 1048576) (hb : ∀ z ∈ zs, -1000 ≤ z ∧ z ≤ 1000)
    (hs : Rd w w.heap.size 1 B m (ints ys)) (hm : m ≤ 1048576) (hc : w.cell? ⟨g, 1, none⟩ = some (.slice B m d)) :
    Calls Try.prog 132 #[.slice A n c, .func (.func 121) #[] #[.pointer (some ⟨g, 0, none⟩)]] w fun e w' => e = .returned (.int .i64 (findI (fun z => hasI ys (-z)) zs)) ∧ w = w' := by
  have HS := Lib.hid hs
  have HB := Lib.hid hb
  clear hs hb
  go_enter Try.func132, Try.ntmps132
  go_wp2
  go_loop [5, 8] (fun _ i => ∃ k : Nat, k ≤ n ∧ i = .int .i64 k ∧ (zs.take k).any (fun z => hasI ys (-z)) = false) (fun _ i => n - (intOf i).toNat)
  case atStart => exact ⟨0, Nat.zero_le _, rfl, rfl⟩
  case round =>
    obtain ⟨k, hk, rfl, ha⟩ := hrel
    have HA := Lib.hid ha
    clear ha
    have hlen := hr.ilen
    have HL := Lib.hid hlen
    by_cases hlt : k < n
    · obtain ⟨ad, rfl, hcz⟩ := hr.int hlt
      have hzb := HB.out _ (getD_mem (zs := zs) (k := k) (by omega))
      clear hr hlen
      obtain ⟨z, hz⟩ : ∃ z, z = zs[k]?.getD 0 := ⟨_, rfl⟩
      rw [← hz] at hcz hzb
      have HZ := Lib.hid hz
      clear hz
      cases ho : hasI ys (-z)
      · have hs := Lib.hid (any_snoc (p := fun z => hasI ys (-z)) 0 HA.out (by have := HL.out; omega) (by rw [← HZ.out]; exact ho))
        go_wp2_with (go_at_call 121; refine (oppose1_is z g B m d ys _ HS.out hm hzb hc ho).mono ?_; rintro e w' ⟨rfl, rfl⟩)
        go_round
        case rel => exact ⟨k + 1, by omega, by go_num, hs.out⟩
        case measure => simp [intOf]; omega
      · have hfin := Lib.hid (findI_hit (p := fun z => hasI ys (-z)) 0 HA.out (by have := HL.out; omega) (by rw [← HZ.out]; exact ho))
        go_wp2_with (go_at_call 121; refine (oppose1_is z g B m d ys _ HS.out hm hzb hc ho).mono ?_; rintro e w' ⟨rfl, rfl⟩)
        go_ret
        exact ⟨by rw [hfin.out]; rfl, rfl⟩
    · obtain rfl : n = k := by omega
      have hfin := Lib.hid (findI_miss (p := fun z => hasI ys (-z)) (zs := zs) (by have := HA.out; rwa [List.take_of_length_le (by have := HL.out; omega)] at this))
      clear HA hlen
      go_wp2
      go_ret
      exact ⟨by rw [hfin.out]; rfl, rfl⟩
theorem containsOpp_any (A : Option Addr) (n c : Nat) (zs : List Int) (g : Nat) (B : Option Addr) (m d : Nat) (ys : List Int) (w : World) (hr : Rd w w.heap.size 1 A n (ints zs)) (hn : n ≤ 1048576) (hb : ∀ z ∈ zs, -1000 ≤ z ∧ z ≤ 1000)
    (hs : Rd w w.heap.size 1 B m (ints ys)) (hm : m ≤ 1048576) (hc : w.cell? ⟨g, 1, none⟩ = some (.slice B m d)) :
    Calls Try.prog 120 #[.slice A n c, .func (.func 121) #[] #[.pointer (some ⟨g, 0, none⟩)]] w fun e w' => e = .returned (.bool (zs.any fun z => hasI ys (-z))) ∧ w = w' := by
  have hfin := Lib.hid (findI_nonneg (p := fun z => hasI ys (-z)) (zs := zs))
  have H := Lib.hid (indexOpp_any A n c zs g B m d ys w hr hn hb hs hm hc)
  clear hb hr hs hc
  go_enter Try.func120, Try.ntmps120
  go_wp2_with (go_at_call 132; refine H.out.mono ?_; rintro e w' ⟨rfl, rfl⟩)
  go_ret
  exact ⟨ret_bool (by rw [← hfin.out]), rfl⟩
theorem oppose_is {b : Bool} (hd fr tt rk hd' fr' tt' rk' : Int) (A B : Option Addr) (n c m d : Nat) (ifs jfs : List Int) (w : World) (hr : Rd w w.heap.size 1 A n (ints ifs)) (hs : Rd w w.heap.size 1 B m (ints jfs)) (hn : n ≤ 1048576) (hm : m ≤ 1048576) (hb : ∀ z ∈ ifs, -1000 ≤ z ∧ z ≤ 1000) (h : opposeB ⟨hd, ifs, fr, tt, rk⟩ ⟨hd', jfs, fr', tt', rk'⟩ = b) :
    Calls Try.prog 89 #[.agg #[.int .i64 hd, .slice A n c, .int .i64 fr, .int .i64 tt, .int .i64 rk], .agg #[.int .i64 hd', .slice B m d, .int .i64 fr', .int .i64 tt', .int .i64 rk']] w fun e w' =>
      e = .returned (.bool b) ∧ Below w.heap.size w w' := by
  have HR := Lib.hid hr
  have HS := Lib.hid hs
  have HB := Lib.hid hb
  have HF := Lib.hid (show (ifs.any fun z => hasI jfs (-z)) = b from h)
  clear hr hs hb h
  have hmf : ∀ (fn : Fn) (first cap : Array Value) (w : World), (Instr.makeFunc fn first cap).run Try.prog w = .ok (.func fn first cap) w := fun _ _ _ _ => rfl
  go_enter Try.func89, Try.ntmps89
  go_wp2_with fail
  refine (containsOpp_any _ _ _ ifs (w.heap.size + 1) B m d jfs _ (((HR.out.alloc (Nat.le_refl _) _).alloc (by simp) _).more (by simp; omega)) hn HB.out (((HS.out.alloc (Nat.le_refl _) _).alloc (by simp) _).more (by simp; omega)) hm (by go_simp)).mono ?_
  rintro e w' ⟨rfl, rfl⟩
  go_wp2_with fail
  go_ret
  exact ⟨by rw [← HF.out]; rfl, ((Below.refl _ _).alloc (Nat.le_refl _) _).alloc (by simp) _⟩
end Go.Proofs.Ytkdiegplbloccaa
