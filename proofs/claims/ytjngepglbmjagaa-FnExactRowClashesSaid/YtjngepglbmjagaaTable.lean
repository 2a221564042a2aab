/-
  ROWS OF A TABLE: the first row that fits, the check of a table: what the program's and the reference's functions return.
-/
import Derived.Test.YtjngepglbmjagaaRow
import Derived.Test.YtjngepglbmjagaaApp
namespace Go.Proofs.Ytjngepglbmjagaa
open Go.ChangeShapes Go.WideShapes Go.ChangeAt Go.RowKit
set_option linter.unusedVariables false

/-! ### bits -/
theorem wrap_inj {v w : BitVec 64} (h : IntKind.i64.wrap (v.toNat : Int) = IntKind.i64.wrap (w.toNat : Int)) : v = w := by
  have hv := v.isLt
  have hw := w.isLt
  apply BitVec.eq_of_toNat_eq
  simp only [IntKind.wrap, IntKind.signed, IntKind.bits] at h
  simp at h
  split at h <;> split at h <;> omega
theorem wrap_of {z : Int} (h0 : 0 ≤ z) (h1 : z ≤ 4611686018427387904) : IntKind.i64.wrap ((BitVec.ofInt 64 z).toNat : Int) = z := by
  simp only [BitVec.toNat_ofInt, IntKind.wrap, IntKind.signed, IntKind.bits]
  simp
  split <;> omega
theorem ofInt_wrap (v : BitVec 64) : BitVec.ofInt 64 (IntKind.i64.wrap (v.toNat : Int)) = v := by
  have hv := v.isLt
  apply BitVec.eq_of_toNat_eq
  simp only [BitVec.toNat_ofInt, IntKind.wrap, IntKind.signed, IntKind.bits]
  simp
  split <;> omega

theorem and_self {c i : Int} (h0 : 0 ≤ i) (h1 : i ≤ 4611686018427387904) (c0 : 0 ≤ c) (c1 : c ≤ 4611686018427387904) : (bits .andNot .i64 i c = 0 ↔ bits .and .i64 i c = i) := by
  have e0 : (0 : Int) = IntKind.i64.wrap ((0#64).toNat : Int) := rfl
  have e1 := wrap_of h0 h1
  constructor
  · intro h
    have h2 : BitVec.ofInt 64 i &&& ~~~ BitVec.ofInt 64 c = 0#64 := wrap_inj (by rw [← e0]; exact h)
    have h3 : BitVec.ofInt 64 i &&& BitVec.ofInt 64 c = BitVec.ofInt 64 i := by
      apply BitVec.eq_of_getLsbD_eq
      intro k hk
      have := congrArg (fun v => v.getLsbD k) h2
      simp [hk] at this ⊢
      intro hh
      simpa [hh] using this
    show IntKind.i64.wrap (((BitVec.ofInt 64 i &&& BitVec.ofInt 64 c).toNat : Nat) : Int) = i
    rw [h3, e1]
  · intro h
    have h2 : BitVec.ofInt 64 i &&& BitVec.ofInt 64 c = BitVec.ofInt 64 i := wrap_inj (by rw [e1]; exact h)
    have h3 : BitVec.ofInt 64 i &&& ~~~ BitVec.ofInt 64 c = 0#64 := by
      apply BitVec.eq_of_getLsbD_eq
      intro k hk
      have := congrArg (fun v => v.getLsbD k) h2
      simp [hk] at this ⊢
      exact this
    show IntKind.i64.wrap (((BitVec.ofInt 64 i &&& ~~~ BitVec.ofInt 64 c).toNat : Nat) : Int) = 0
    rw [h3]; rfl
theorem and_le {c i : Int} (h0 : 0 ≤ i) (h1 : i ≤ 4611686018427387904) (c0 : 0 ≤ c) (c1 : c ≤ 4611686018427387904) (h : bits .and .i64 i c = i) : i ≤ c := by
  have e1 := wrap_of h0 h1
  have e2 := wrap_of c0 c1
  have h2 : BitVec.ofInt 64 i &&& BitVec.ofInt 64 c = BitVec.ofInt 64 i := wrap_inj (by rw [e1]; exact h)
  have h3 := congrArg BitVec.toNat h2
  rw [BitVec.toNat_and] at h3
  have h4 : (BitVec.ofInt 64 i).toNat &&& (BitVec.ofInt 64 c).toNat ≤ (BitVec.ofInt 64 c).toNat := Nat.and_le_right
  have hi : (BitVec.ofInt 64 i).toNat = i.toNat := by simp [BitVec.toNat_ofInt]; omega
  have hc : (BitVec.ofInt 64 c).toNat = c.toNat := by simp [BitVec.toNat_ofInt]; omega
  omega

/-! ### the rows as a list -/
def rowsOf (zs : List Int) (n : Nat) : List (Int × Int × Int) := (List.range n).map fun k => (fld zs k 0, fld zs k 1, fld zs k 2)
theorem rowsOf_length (zs : List Int) (n : Nat) : (rowsOf zs n).length = n := by simp [rowsOf]
theorem rowsOf_at {zs : List Int} {n k : Nat} (h : k < n) : (rowsOf zs n)[k]?.getD (0, 0, 0) = (fld zs k 0, fld zs k 1, fld zs k 2) := by simp [rowsOf, h]
/-- a row fits cases -/
def fitB (x : Int) (t : Int × Int × Int) : Bool := bits .and .i64 x t.1 == t.2.1
def firstI (x : Int) (zs : List Int) (n : Nat) : Int := findI (fitB x) (rowsOf zs n)
set_option maxHeartbeats 800000 in
theorem firstRow1_any (c i r x : Int) (px : Addr) (w : World) (hx : w.cell? px = some (.int .i64 x)) (hpx : px.block < w.heap.size) :
    Calls Try.prog 76 #[.agg #[.int .i64 c, .int .i64 i, .int .i64 r], .pointer (some px)] w fun e w' => e = .returned (.bool (fitB x (c, i, r))) ∧ Below w.heap.size w w' := by
  have hx2 := (World.cell?_alloc_lt w (.cells #[.int .i64 c, .int .i64 i, .int .i64 r] 63) px hpx).trans hx
  go_enter Try.func76, Try.ntmps76
  go_wp2
  go_ret
  exact ⟨rfl, (Below.refl w.heap.size w).alloc (Nat.le_refl _) _⟩
set_option maxHeartbeats 800000 in
theorem indexRow_any (A : Option Addr) (n c : Nat) (zs : List Int) (x : Int) (px : Addr) (w : World) (hr : Rd w w.heap.size 3 A n (ints zs)) (hn : n ≤ 2097152) (hx : w.cell? px = some (.int .i64 x)) (hpx : px.block < w.heap.size) :
    Calls Try.prog 75 #[.slice A n c, .func (.func 76) #[] #[.pointer (some px)]] w fun e w' => e = .returned (.int .i64 (firstI x zs n)) ∧ Below w.heap.size w w' := by
  have HL := Lib.hid (rowsOf_length zs n)
  go_enter Try.func75, Try.ntmps75
  go_wp2
  go_loopw [5, 8] (fun _ i wr => ∃ k : Nat, k ≤ n ∧ i = .int .i64 k ∧ ((rowsOf zs n).take k).any (fitB x) = false ∧ Below w.heap.size w wr) (fun _ i _ => n - (intOf i).toNat)
  case atStart => exact ⟨0, Nat.zero_le _, rfl, rfl, Below.refl _ _⟩
  case round =>
    obtain ⟨k, hk, rfl, ha, hb⟩ := hrel
    have HA := Lib.hid ha
    clear ha
    by_cases hlt : k < n
    · obtain ⟨ad, rfl, _, hc0, hc1, hc2⟩ := (hr.below hb).row hlt
      have hx1 := (hb.cell hpx).trans hx
      have hpx1 := Nat.lt_of_lt_of_le hpx hb.size
      have HAT := Lib.hid (rowsOf_at (zs := zs) hlt)
      obtain ⟨f0, h0⟩ : ∃ x, x = fld zs k 0 := ⟨_, rfl⟩
      obtain ⟨f1, h1⟩ : ∃ x, x = fld zs k 1 := ⟨_, rfl⟩
      obtain ⟨f2, h2⟩ : ∃ x, x = fld zs k 2 := ⟨_, rfl⟩
      have HT := Lib.hid (show (rowsOf zs n)[k]?.getD (0, 0, 0) = (f0, f1, f2) by rw [h0, h1, h2]; exact HAT.out)
      rw [← h0] at hc0
      rw [← h1] at hc1
      rw [← h2] at hc2
      clear hr h0 h1 h2 HAT hx
      cases hf : fitB x (f0, f1, f2)
      · have hnx := Lib.hid (any_snoc (p := fitB x) (0, 0, 0) HA.out (by have := HL.out; omega) (by rw [HT.out, hf]))
        go_wp2_with fail
        refine (firstRow1_any _ _ _ x _ _ hx1 hpx1).mono ?_
        rintro e w2 ⟨rfl, hb2⟩
        replace hb := below_step hb hb2
        rw [hf]
        clear hc0 hc1 hc2 hx1 hb2 hf
        go_wp2_with fail
        go_roundw
        case rel => exact ⟨k + 1, by omega, by go_num, hnx.out, hb⟩
        case measure => simp [intOf]; omega
      · have hfin := Lib.hid (findI_hit (p := fitB x) (0, 0, 0) HA.out (by have := HL.out; omega) (by rw [HT.out, hf]))
        go_wp2_with fail
        refine (firstRow1_any _ _ _ x _ _ hx1 hpx1).mono ?_
        rintro e w2 ⟨rfl, hb2⟩
        replace hb := below_step hb hb2
        rw [hf]
        clear hc0 hc1 hc2 hx1 hb2 hf
        go_wp2_with fail
        go_ret
        exact ⟨by unfold firstI; rw [hfin.out]; rfl, hb⟩
    · obtain rfl : n = k := by omega
      have hfin := Lib.hid (findI_miss (p := fitB x) (zs := rowsOf zs n) (by have := HA.out; rwa [List.take_of_length_le (by have := HL.out; omega)] at this))
      clear HA
      go_wp2_with fail
      go_ret
      exact ⟨by unfold firstI; rw [hfin.out]; rfl, hb⟩
theorem firstRow_any (A : Option Addr) (n c : Nat) (zs : List Int) (x : Int) (w : World) (hr : Rd w w.heap.size 3 A n (ints zs)) (hn : n ≤ 2097152) :
    Calls Try.prog 64 #[.slice A n c, .int .i64 x] w fun e w' => e = .returned (.int .i64 (firstI x zs n)) ∧ Below w.heap.size w w' := by
  have hmf : ∀ (fn : Fn) (first cap : Array Value) (w : World), (Instr.makeFunc fn first cap).run Try.prog w = .ok (.func fn first cap) w := fun _ _ _ _ => rfl
  go_enter Try.func64, Try.ntmps64
  go_wp2_with fail
  refine (indexRow_any _ _ _ zs x _ _ ?_ hn ?_ ?_).mono ?_
  · exact ((hr.alloc (Nat.le_refl _) _).more (by simp))
  · go_simp
  · simp
  · rintro e w' ⟨rfl, hb⟩
    go_wp2_with fail
    go_ret
    exact ⟨rfl, below_step ((Below.refl w.heap.size w).alloc (Nat.le_refl _) _) hb⟩
set_option maxHeartbeats 800000 in
theorem l05First_any (A : Option Addr) (n c : Nat) (zs : List Int) (x : Int) (w : World) (hr : Rd w w.heap.size 3 A n (ints zs)) (hn : n ≤ 2097152) :
    Calls Try.prog 61 #[.slice A n c, .int .i64 x] w fun e w' => e = .returned (.int .i64 (firstI x zs n)) ∧ Below w.heap.size w w' := by
  have HL := Lib.hid (rowsOf_length zs n)
  go_enter Try.func61, Try.ntmps61
  go_wp2
  go_loopw [5, 8] (fun _ i wr => ∃ k : Nat, k ≤ n ∧ i = .int .i64 k ∧ ((rowsOf zs n).take k).any (fitB x) = false ∧ Below w.heap.size w wr) (fun _ i _ => n - (intOf i).toNat)
  case atStart => exact ⟨0, Nat.zero_le _, rfl, rfl, Below.refl _ _⟩
  case round =>
    obtain ⟨k, hk, rfl, ha, hb⟩ := hrel
    have HA := Lib.hid ha
    clear ha
    by_cases hlt : k < n
    · obtain ⟨ad, rfl, _, hc0, hc1, hc2⟩ := (hr.below hb).row hlt
      have HAT := Lib.hid (rowsOf_at (zs := zs) hlt)
      obtain ⟨f0, h0⟩ : ∃ x, x = fld zs k 0 := ⟨_, rfl⟩
      obtain ⟨f1, h1⟩ : ∃ x, x = fld zs k 1 := ⟨_, rfl⟩
      obtain ⟨f2, h2⟩ : ∃ x, x = fld zs k 2 := ⟨_, rfl⟩
      have HT := Lib.hid (show (rowsOf zs n)[k]?.getD (0, 0, 0) = (f0, f1, f2) by rw [h0, h1, h2]; exact HAT.out)
      rw [← h0] at hc0
      rw [← h1] at hc1
      have i1 : (0 : Int) ≤ k := by omega
      have i2 : (k : Int) < n := by omega
      clear hr h0 h1 h2 HAT hc2
      cases hf : fitB x (f0, f1, f2)
      · have hnx := Lib.hid (any_snoc (p := fitB x) (0, 0, 0) HA.out (by have := HL.out; omega) (by rw [HT.out, hf]))
        have hf2 : (bits .and .i64 x f0 == f1) = false := hf
        clear hf
        go_wp2_with fail
        go_quiet (fail)
        have hbq := below_drewN hb nq
        go_wp2_with fail
        go_roundw
        case rel => exact ⟨k + 1, by omega, by go_num, hnx.out, hbq⟩
        case measure => simp [intOf]; omega
      · have hfin := Lib.hid (findI_hit (p := fitB x) (0, 0, 0) HA.out (by have := HL.out; omega) (by rw [HT.out, hf]))
        have hf2 : (bits .and .i64 x f0 == f1) = true := hf
        clear hf
        go_wp2_with fail
        go_quiet (fail)
        have hbq := below_drewN hb nq
        go_wp2_with fail
        go_ret
        exact ⟨by unfold firstI; rw [hfin.out]; rfl, hbq⟩
    · obtain rfl : n = k := by omega
      have hfin := Lib.hid (findI_miss (p := fitB x) (zs := rowsOf zs n) (by have := HA.out; rwa [List.take_of_length_le (by have := HL.out; omega)] at this))
      clear HA
      go_wp2_with fail
      go_ret
      exact ⟨by unfold firstI; rw [hfin.out]; rfl, hb⟩
end Go.Proofs.Ytjngepglbmjagaa
