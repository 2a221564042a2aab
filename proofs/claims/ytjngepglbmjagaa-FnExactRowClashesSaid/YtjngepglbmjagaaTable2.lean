/-
  THE CHECK OF A TABLE OF ROWS, of the program and of the reference.
-/
import Derived.Test.YtjngepglbmjagaaTable
namespace Go.Proofs.Ytjngepglbmjagaa
open Go.ChangeShapes Go.WideShapes Go.ChangeAt Go.RowKit
set_option linter.unusedVariables false

def rowB (last : Int) (t : Int × Int × Int) : Bool := inB t.1 0 last && inB t.2.1 0 last && (bits .andNot .i64 t.2.1 t.1 == 0) && inB t.2.2 0 100
def rowG (last : Int) (t : Int × Int × Int) : Bool := inB t.1 0 last && inB t.2.1 0 t.1 && (bits .and .i64 t.2.1 t.1 == t.2.1) && inB t.2.2 0 100
theorem rowB_eq (last : Int) (t : Int × Int × Int) (h : last ≤ 4611686018427387904) : rowB last t = rowG last t := by
  obtain ⟨c, i, r⟩ := t
  unfold rowB rowG
  dsimp only
  cases hc : inB c 0 last
  · simp
  have c1 := inB_iff.1 hc
  have key : (inB i 0 last && (bits .andNot .i64 i c == 0)) = (inB i 0 c && (bits .and .i64 i c == i)) := by
    rw [Bool.eq_iff_iff]
    simp only [Bool.and_eq_true, beq_iff_eq]
    constructor
    · rintro ⟨h1, h2⟩
      have i1 := inB_iff.1 h1
      have h3 := (and_self i1.1 (by omega) c1.1 (by omega)).1 h2
      exact ⟨inB_iff.2 ⟨i1.1, and_le i1.1 (by omega) c1.1 (by omega) h3⟩, h3⟩
    · rintro ⟨h1, h2⟩
      have i1 := inB_iff.1 h1
      exact ⟨inB_iff.2 (by omega), (and_self i1.1 (by omega) c1.1 (by omega)).2 h2⟩
  rw [Bool.true_and, Bool.true_and, key]
def lastOf (c : Nat) : Int := 2 ^ c - 1
def tableOk (cs : Int) (zs : List Int) (n : Nat) : Bool := inB cs 1 8 && decide (1 ≤ n) && decide (n ≤ 32) && (rowsOf zs n).all (rowB (lastOf cs.toNat))
theorem pow_bd {c : Nat} (h1 : 1 ≤ c) (h2 : c ≤ 8) : (2 : Int) ≤ 2 ^ c ∧ (2 : Int) ^ c ≤ 256 := by
  have : c = 1 ∨ c = 2 ∨ c = 3 ∨ c = 4 ∨ c = 5 ∨ c = 6 ∨ c = 7 ∨ c = 8 := by omega
  rcases this with rfl | rfl | rfl | rfl | rfl | rfl | rfl | rfl <;> decide
set_option maxHeartbeats 800000 in
theorem areRows1_any (c i r last : Int) (px : Addr) (w : World) (hx : w.cell? px = some (.int .i64 last)) (hpx : px.block < w.heap.size) :
    Calls Try.prog 74 #[.agg #[.int .i64 c, .int .i64 i, .int .i64 r], .pointer (some px)] w fun e w' => e = .returned (.bool (!rowB last (c, i, r))) ∧ Below w.heap.size w w' := by
  have hx2 := (World.cell?_alloc_lt w (.cells #[.int .i64 c, .int .i64 i, .int .i64 r] 63) px hpx).trans hx
  have hB := Lib.hid ((Below.refl w.heap.size w).alloc (Nat.le_refl _) (.cells #[.int .i64 c, .int .i64 i, .int .i64 r] 63))
  cases h1 : inB c 0 last
  · have hfin := Lib.hid (show rowB last (c, i, r) = false by simp [rowB, h1])
    go_enter Try.func74, Try.ntmps74
    go_wp2_with (go_at_call 47; refine (within_any _ _ _ _).mono ?_; rintro e w' ⟨rfl, rfl⟩)
    go_ret
    exact ⟨by rw [hfin.out]; rfl, hB.out⟩
  cases h2 : inB i 0 last
  · have hfin := Lib.hid (show rowB last (c, i, r) = false by simp [rowB, h2])
    go_enter Try.func74, Try.ntmps74
    go_wp2_with (go_at_call 47; refine (within_any _ _ _ _).mono ?_; rintro e w' ⟨rfl, rfl⟩)
    go_ret
    exact ⟨by rw [hfin.out]; rfl, hB.out⟩
  cases h3 : (bits .andNot .i64 i c == 0)
  · have hfin := Lib.hid (show rowB last (c, i, r) = false by simp [rowB, h3])
    have h3b : (bits .andNot .i64 i c != 0) = true := by unfold bne; rw [h3]; rfl
    clear h3
    go_enter Try.func74, Try.ntmps74
    go_wp2_with (go_at_call 47; refine (within_any _ _ _ _).mono ?_; rintro e w' ⟨rfl, rfl⟩)
    go_ret
    exact ⟨by rw [hfin.out]; rfl, hB.out⟩
  have hfin := Lib.hid (show rowB last (c, i, r) = inB r 0 100 by simp [rowB, h1, h2, h3])
  have h3b : (bits .andNot .i64 i c != 0) = false := by unfold bne; rw [h3]; rfl
  clear h3
  go_enter Try.func74, Try.ntmps74
  go_wp2_with (go_at_call 47; refine (within_any _ _ _ _).mono ?_; rintro e w' ⟨rfl, rfl⟩)
  go_ret
  exact ⟨by rw [hfin.out]; rfl, hB.out⟩
set_option maxHeartbeats 800000 in
theorem indexBad_any (A : Option Addr) (n c : Nat) (zs : List Int) (x : Int) (px : Addr) (w : World) (hr : Rd w w.heap.size 3 A n (ints zs)) (hn : n ≤ 2097152) (hx : w.cell? px = some (.int .i64 x)) (hpx : px.block < w.heap.size) :
    Calls Try.prog 75 #[.slice A n c, .func (.func 74) #[] #[.pointer (some px)]] w fun e w' => e = .returned (.int .i64 (findI (fun t => !rowB x t) (rowsOf zs n))) ∧ Below w.heap.size w w' := by
  have HL := Lib.hid (rowsOf_length zs n)
  go_enter Try.func75, Try.ntmps75
  go_wp2
  go_loopw [5, 8] (fun _ i wr => ∃ k : Nat, k ≤ n ∧ i = .int .i64 k ∧ ((rowsOf zs n).take k).any (fun t => !rowB x t) = false ∧ Below w.heap.size w wr) (fun _ i _ => n - (intOf i).toNat)
  case atStart => exact ⟨0, Nat.zero_le _, rfl, rfl, Below.refl _ _⟩
  case round =>
    obtain ⟨k, hk, rfl, ha, hb⟩ := hrel
    have HA := Lib.hid ha
    clear ha
    by_cases hlt : k < n
    · obtain ⟨ad, rfl, _, hc0, hc1, hc2⟩ := (hr.below hb).row hlt
      have hx1 := (hb.cell hpx).trans hx
      have hpx1 := Nat.lt_of_lt_of_le hpx hb.size
      have HAT := Lib.hid (rowsOf_at (zs := zs) hlt)
      obtain ⟨f0, h0⟩ : ∃ x, x = fld zs k 0 := ⟨_, rfl⟩
      obtain ⟨f1, h1⟩ : ∃ x, x = fld zs k 1 := ⟨_, rfl⟩
      obtain ⟨f2, h2⟩ : ∃ x, x = fld zs k 2 := ⟨_, rfl⟩
      have HT := Lib.hid (show (rowsOf zs n)[k]?.getD (0, 0, 0) = (f0, f1, f2) by rw [h0, h1, h2]; exact HAT.out)
      rw [← h0] at hc0
      rw [← h1] at hc1
      rw [← h2] at hc2
      clear hr h0 h1 h2 HAT hx
      cases hf : rowB x (f0, f1, f2)
      · have hfin := Lib.hid (findI_hit (p := fun t => !rowB x t) (0, 0, 0) HA.out (by have := HL.out; omega) (by rw [HT.out, hf]; rfl))
        go_wp2_with fail
        refine (areRows1_any _ _ _ x _ _ hx1 hpx1).mono ?_
        rintro e w2 ⟨rfl, hb2⟩
        replace hb := below_step hb hb2
        rw [hf]
        clear hc0 hc1 hc2 hx1 hb2 hf
        go_wp2_with fail
        go_ret
        exact ⟨by rw [hfin.out]; rfl, hb⟩
      · have hnx := Lib.hid (any_snoc (p := fun t => !rowB x t) (0, 0, 0) HA.out (by have := HL.out; omega) (by rw [HT.out, hf]; rfl))
        go_wp2_with fail
        refine (areRows1_any _ _ _ x _ _ hx1 hpx1).mono ?_
        rintro e w2 ⟨rfl, hb2⟩
        replace hb := below_step hb hb2
        rw [hf]
        clear hc0 hc1 hc2 hx1 hb2 hf
        go_wp2_with fail
        go_roundw
        case rel => exact ⟨k + 1, by omega, by go_num, hnx.out, hb⟩
        case measure => simp [intOf]; omega
    · obtain rfl : n = k := by omega
      have hfin := Lib.hid (findI_miss (p := fun t => !rowB x t) (zs := rowsOf zs n) (by have := HA.out; rwa [List.take_of_length_le (by have := HL.out; omega)] at this))
      clear HA
      go_wp2_with fail
      go_ret
      exact ⟨by rw [hfin.out]; rfl, hb⟩
theorem containsBad_any (A : Option Addr) (n c : Nat) (zs : List Int) (x : Int) (px : Addr) (w : World) (hr : Rd w w.heap.size 3 A n (ints zs)) (hn : n ≤ 2097152) (hx : w.cell? px = some (.int .i64 x)) (hpx : px.block < w.heap.size) :
    Calls Try.prog 73 #[.slice A n c, .func (.func 74) #[] #[.pointer (some px)]] w fun e w' => e = .returned (.bool (!(rowsOf zs n).all (rowB x))) ∧ Below w.heap.size w w' := by
  have hfin := Lib.hid (findI_nonneg (p := fun t => !rowB x t) (zs := rowsOf zs n))
  go_enter Try.func73, Try.ntmps73
  go_wp2_with fail
  refine (indexBad_any _ _ _ zs x _ _ hr hn hx hpx).mono ?_
  rintro e w2 ⟨rfl, hb2⟩
  go_wp2_with fail
  go_ret
  refine ⟨ret_bool ?_, hb2⟩
  have h := hfin.out
  rw [show (rowsOf zs n).any (fun t => !rowB x t) = !(rowsOf zs n).all (rowB x) by simp [List.any_eq_not_all_not]] at h
  simpa using h
set_option maxHeartbeats 800000 in
theorem AreRows_any (cs : Int) (A : Option Addr) (n c : Nat) (zs : List Int) (w : World) (hr : Rd w w.heap.size 3 A n (ints zs)) (hn : n ≤ 2097152) :
    Calls Try.prog 63 #[.int .i64 cs, .slice A n c] w fun e w' => e = .returned (.bool (tableOk cs zs n)) ∧ Below w.heap.size w w' := by
  have hmf : ∀ (fn : Fn) (first cap : Array Value) (w : World), (Instr.makeFunc fn first cap).run Try.prog w = .ok (.func fn first cap) w := fun _ _ _ _ => rfl
  cases h1 : inB cs 1 8
  · have hfin := Lib.hid (show tableOk cs zs n = false by simp [tableOk, h1])
    go_enter Try.func63, Try.ntmps63
    go_wp2_with (go_at_call 47; refine (within_any _ _ _ _).mono ?_; rintro e w' ⟨rfl, rfl⟩)
    go_ret
    exact ⟨by rw [hfin.out]; rfl, Below.refl _ _⟩
  by_cases h2 : n < 1
  · have hfin := Lib.hid (show tableOk cs zs n = false by simp [tableOk]; omega)
    go_enter Try.func63, Try.ntmps63
    go_wp2_with (go_at_call 47; refine (within_any _ _ _ _).mono ?_; rintro e w' ⟨rfl, rfl⟩)
    go_ret
    exact ⟨by rw [hfin.out]; rfl, Below.refl _ _⟩
  by_cases h3 : 32 < n
  · have hfin := Lib.hid (show tableOk cs zs n = false by simp [tableOk]; omega)
    go_enter Try.func63, Try.ntmps63
    go_wp2_with (go_at_call 47; refine (within_any _ _ _ _).mono ?_; rintro e w' ⟨rfl, rfl⟩)
    go_ret
    exact ⟨by rw [hfin.out]; rfl, Below.refl _ _⟩
  have c0 := inB_iff.1 h1
  obtain ⟨q, rfl⟩ := Int.eq_ofNat_of_zero_le (by omega : 0 ≤ cs)
  have hfin := Lib.hid (show tableOk (q : Int) zs n = (rowsOf zs n).all (rowB (lastOf q)) by simp [tableOk, h1]; intro _; omega)
  have hp := pow_bd (c := q) (by omega) (by omega)
  go_enter Try.func63, Try.ntmps63
  go_wp2_with (go_at_call 47; refine (within_any _ _ _ _).mono ?_; rintro e w' ⟨rfl, rfl⟩)
  refine (containsBad_any _ _ _ zs (2 ^ q - 1) _ _ ((hr.alloc (Nat.le_refl _) _).more (by simp)) hn ?_ ?_).mono ?_
  · go_simp
  · simp
  · rintro e w' ⟨rfl, hb⟩
    go_wp2_with fail
    go_ret
    exact ⟨by rw [hfin.out]; simp [lastOf], below_step ((Below.refl w.heap.size w).alloc (Nat.le_refl _) _) hb⟩
theorem l00In_is {n lo hi : Int} {b : Bool} (h : inB n lo hi = b) (w : World) : Calls Try.prog 46 #[.int .i64 n, .int .i64 lo, .int .i64 hi] w fun e w' => e = .returned (.bool b) ∧ w' = w := by
  subst h
  exact (l00In_any _ _ _ _).mono fun e w' h => ⟨h.1, h.2.symm⟩
end Go.Proofs.Ytjngepglbmjagaa
