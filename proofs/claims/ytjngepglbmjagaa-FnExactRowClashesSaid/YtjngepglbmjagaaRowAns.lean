/-
  RowAnswer, RowGaps: what the program's and the reference's function return.
-/
import Derived.Test.YtjngepglbmjagaaTable3
namespace Go.Proofs.Ytjngepglbmjagaa
open Go.ChangeShapes Go.WideShapes Go.ChangeAt Go.RowKit
set_option linter.unusedVariables false

theorem findI_bd {α : Type} (p : α → Bool) (zs : List α) : -1 ≤ findI p zs ∧ findI p zs < zs.length := by
  unfold findI
  cases h : zs.findIdx? p with
  | none => simp; omega
  | some i =>
    rw [List.findIdx?_eq_some_iff_getElem] at h
    obtain ⟨h1, _⟩ := h
    simp; omega
theorem firstI_bd (x : Int) (zs : List Int) (n : Nat) : -1 ≤ firstI x zs n ∧ firstI x zs n < n := by
  have := findI_bd (fitB x) (rowsOf zs n)
  rw [rowsOf_length] at this
  exact this
/-- how many rows -/
def rn (zs : List Int) : Nat := zs.length / 3
theorem Rd.rn3 {w : World} {B n : Nat} {A : Option Addr} {zs : List Int} (h : Rd w B 3 A n (ints zs)) : rn zs = n := by
  have := h.len3; unfold rn; omega
theorem table_c {cs : Int} {zs : List Int} {n : Nat} (h : tableOk cs zs n = true) : (1 ≤ cs ∧ cs ≤ 8) ∧ n ≤ 32 := by
  simp only [tableOk, Bool.and_eq_true, decide_eq_true_eq] at h
  exact ⟨inB_iff.1 h.1.1.1, h.1.2⟩
theorem pow_nat {q : Nat} (h1 : 1 ≤ q) (h2 : q ≤ 8) : ∃ M : Nat, (2 : Int) ^ q = M ∧ 2 ≤ M ∧ M ≤ 256 ∧ 2 ^ q = M := by
  have : q = 1 ∨ q = 2 ∨ q = 3 ∨ q = 4 ∨ q = 5 ∨ q = 6 ∨ q = 7 ∨ q = 8 := by omega
  rcases this with rfl | rfl | rfl | rfl | rfl | rfl | rfl | rfl <;> exact ⟨_, rfl, by decide, by decide, rfl⟩

/-! ### RowAnswer -/
def ansOk (cs : Int) (zs : List Int) (x : Int) : Bool := tableOk cs zs (rn zs) && inB x 0 (2 ^ cs.toNat - 1) && decide (0 ≤ firstI x zs (rn zs))
def RowAnswer_r0 (cs : Int) (zs : List Int) (x : Int) : Int := if ansOk cs zs x then fld zs (firstI x zs (rn zs)).toNat 2 else 0
def RowAnswer_r1 (cs : Int) (zs : List Int) (x : Int) : Bool := ansOk cs zs x
theorem ans_no {cs : Int} {zs : List Int} {x : Int} (h : ansOk cs zs x = false) : RowAnswer_r0 cs zs x = 0 ∧ RowAnswer_r1 cs zs x = false := by unfold RowAnswer_r0 RowAnswer_r1; rw [h]; exact ⟨rfl, rfl⟩
theorem ans_yes {cs : Int} {zs : List Int} {x : Int} {k : Nat} (h : ansOk cs zs x = true) (hk : firstI x zs (rn zs) = k) : RowAnswer_r0 cs zs x = fld zs k 2 ∧ RowAnswer_r1 cs zs x = true := by
  unfold RowAnswer_r0 RowAnswer_r1; rw [h, hk]; exact ⟨by simp, rfl⟩
set_option maxHeartbeats 800000 in
theorem impl_RowAnswer (cs : Int) (A : Option Addr) (n c : Nat) (zs : List Int) (x : Int) (w : World) (b0 : -9223372036854775808 ≤ cs ∧ cs ≤ 9223372036854775807) (hr : Rd w w.heap.size 3 A n (ints zs)) (hn : n ≤ 1048576) (hz : I64s zs) (b1 : -9223372036854775808 ≤ x ∧ x ≤ 9223372036854775807) :
    Calls Try.prog 33 #[.int .i64 cs, .slice A n c, .int .i64 x] w fun E w' => E = .returned (.tuple #[.int .i64 (RowAnswer_r0 cs zs x), .bool (RowAnswer_r1 cs zs x)]) ∧ Below w.heap.size w w' := by
  have HN := Lib.hid hr.rn3
  have hB : Below w.heap.size w w := Below.refl _ _
  cases h1 : tableOk cs zs n
  · have hfin := Lib.hid (ans_no (cs := cs) (zs := zs) (x := x) (by simp [ansOk, HN.out, h1]))
    go_enter Try.func33, Try.ntmps33
    go_wp2_with fail
    refine (AreRows_any _ _ _ _ zs _ hr (by omega)).mono ?_
    rintro e w1 ⟨rfl, hb⟩
    rw [h1]
    go_wp2_with fail
    go_ret2
    exact ⟨by rw [hfin.out.1, hfin.out.2]; rfl, hb⟩
  obtain ⟨c0, c1⟩ := table_c h1
  obtain ⟨q, rfl⟩ := Int.eq_ofNat_of_zero_le (by omega : 0 ≤ cs)
  obtain ⟨M, hM, m1, m2, _⟩ := pow_nat (q := q) (by omega) (by omega)
  cases h2 : inB x 0 (M - 1)
  · have hfin := Lib.hid (ans_no (cs := q) (zs := zs) (x := x) (by simp [ansOk, hM, h2]))
    go_enter Try.func33, Try.ntmps33
    go_wp2_with fail
    refine (AreRows_any _ _ _ _ zs _ hr (by omega)).mono ?_
    rintro e w1 ⟨rfl, hb⟩
    rw [h1]
    go_wp2_with (go_at_call 47; refine (within_any _ _ _ _).mono ?_; rintro e w' ⟨rfl, rfl⟩)
    go_ret2
    exact ⟨by rw [hfin.out.1, hfin.out.2]; rfl, hb⟩
  obtain ⟨f, hf⟩ : ∃ f, f = firstI x zs n := ⟨_, rfl⟩
  have hfb := firstI_bd x zs n
  rw [← hf] at hfb
  have HF := Lib.hid hf
  clear hf
  by_cases h3 : f < 0
  · have hfin := Lib.hid (ans_no (cs := q) (zs := zs) (x := x) (by simp [ansOk, HN.out, ← HF.out]; intros; omega))
    go_enter Try.func33, Try.ntmps33
    go_wp2_with fail
    refine (AreRows_any _ _ _ _ zs _ hr (by omega)).mono ?_
    rintro e w1 ⟨rfl, hb⟩
    replace hB := below_step hB hb
    rw [h1]
    go_wp2_with (go_at_call 47; refine (within_any _ _ _ _).mono ?_; rintro e w' ⟨rfl, rfl⟩)
    refine (firstRow_any _ _ _ zs x _ ((hr.below hB).more hB.size) (by omega)).mono ?_
    rintro e w2 ⟨rfl, hb⟩
    replace hB := below_step hB hb
    rw [← HF.out]
    go_wp2_with fail
    go_ret2
    exact ⟨by rw [hfin.out.1, hfin.out.2]; rfl, hB⟩
  obtain ⟨k, rfl⟩ := Int.eq_ofNat_of_zero_le (by omega : 0 ≤ f)
  have hfin := Lib.hid (ans_yes (cs := q) (zs := zs) (x := x) (k := k) (by simp [ansOk, HN.out, h1, hM, h2, ← HF.out]) (by rw [HN.out, ← HF.out]))
  go_enter Try.func33, Try.ntmps33
  go_wp2_with fail
  refine (AreRows_any _ _ _ _ zs _ hr (by omega)).mono ?_
  rintro e w1 ⟨rfl, hb⟩
  replace hB := below_step hB hb
  rw [h1]
  go_wp2_with (go_at_call 47; refine (within_any _ _ _ _).mono ?_; rintro e w' ⟨rfl, rfl⟩)
  refine (firstRow_any _ _ _ zs x _ ((hr.below hB).more hB.size) (by omega)).mono ?_
  rintro e w2 ⟨rfl, hb⟩
  replace hB := below_step hB hb
  rw [← HF.out]
  go_wp2_with fail; refine (firstRow_any _ _ _ zs x _ ((hr.below hB).more hB.size) (by omega)).mono ?_; rintro e w3 ⟨rfl, hb⟩; replace hB := below_step hB hb; rw [← HF.out]
  obtain ⟨ad, rfl, _, hc0, hc1, hc2⟩ := (hr.below hB).row (k := k) (by omega)
  go_wp2_with fail
  go_ret2
  exact ⟨by rw [hfin.out.1, hfin.out.2]; rfl, hB⟩
set_option maxHeartbeats 800000 in
theorem spec_RowAnswer (cs : Int) (A : Option Addr) (n c : Nat) (zs : List Int) (x : Int) (w : World) (b0 : -9223372036854775808 ≤ cs ∧ cs ≤ 9223372036854775807) (hr : Rd w w.heap.size 3 A n (ints zs)) (hn : n ≤ 1048576) (hz : I64s zs) (b1 : -9223372036854775808 ≤ x ∧ x ≤ 9223372036854775807) :
    Calls Try.prog 31 #[.int .i64 cs, .slice A n c, .int .i64 x] w fun E w' => E = .returned (.tuple #[.int .i64 (RowAnswer_r0 cs zs x), .bool (RowAnswer_r1 cs zs x)]) ∧ Below w.heap.size w w' := by
  have HN := Lib.hid hr.rn3
  have hB : Below w.heap.size w w := Below.refl _ _
  cases h1 : tableOk cs zs n
  · have hfin := Lib.hid (ans_no (cs := cs) (zs := zs) (x := x) (by simp [ansOk, HN.out, h1]))
    go_enter Try.func31, Try.ntmps31
    go_wp2_with fail
    refine (l05Rows_any _ _ _ _ zs _ hr (by omega)).mono ?_
    rintro e w1 ⟨rfl, hb⟩
    rw [h1]
    go_wp2_with fail
    go_ret2
    exact ⟨by rw [hfin.out.1, hfin.out.2]; rfl, hb⟩
  obtain ⟨c0, c1⟩ := table_c h1
  obtain ⟨q, rfl⟩ := Int.eq_ofNat_of_zero_le (by omega : 0 ≤ cs)
  obtain ⟨M, hM, m1, m2, _⟩ := pow_nat (q := q) (by omega) (by omega)
  cases h2 : inB x 0 (M - 1)
  · have hfin := Lib.hid (ans_no (cs := q) (zs := zs) (x := x) (by simp [ansOk, hM, h2]))
    go_enter Try.func31, Try.ntmps31
    go_wp2_with fail
    refine (l05Rows_any _ _ _ _ zs _ hr (by omega)).mono ?_
    rintro e w1 ⟨rfl, hb⟩
    rw [h1]
    go_wp2_with (go_at_call 46; refine (l00In_any _ _ _ _).mono ?_; rintro e w' ⟨rfl, rfl⟩)
    go_ret2
    exact ⟨by rw [hfin.out.1, hfin.out.2]; rfl, hb⟩
  obtain ⟨f, hf⟩ : ∃ f, f = firstI x zs n := ⟨_, rfl⟩
  have hfb := firstI_bd x zs n
  rw [← hf] at hfb
  have HF := Lib.hid hf
  clear hf
  by_cases h3 : f < 0
  · have hfin := Lib.hid (ans_no (cs := q) (zs := zs) (x := x) (by simp [ansOk, HN.out, ← HF.out]; intros; omega))
    go_enter Try.func31, Try.ntmps31
    go_wp2_with fail
    refine (l05Rows_any _ _ _ _ zs _ hr (by omega)).mono ?_
    rintro e w1 ⟨rfl, hb⟩
    replace hB := below_step hB hb
    rw [h1]
    go_wp2_with (go_at_call 46; refine (l00In_any _ _ _ _).mono ?_; rintro e w' ⟨rfl, rfl⟩)
    refine (l05First_any _ _ _ zs x _ ((hr.below hB).more hB.size) (by omega)).mono ?_
    rintro e w2 ⟨rfl, hb⟩
    replace hB := below_step hB hb
    rw [← HF.out]
    go_wp2_with fail
    go_ret2
    exact ⟨by rw [hfin.out.1, hfin.out.2]; rfl, hB⟩
  obtain ⟨k, rfl⟩ := Int.eq_ofNat_of_zero_le (by omega : 0 ≤ f)
  have hfin := Lib.hid (ans_yes (cs := q) (zs := zs) (x := x) (k := k) (by simp [ansOk, HN.out, h1, hM, h2, ← HF.out]) (by rw [HN.out, ← HF.out]))
  go_enter Try.func31, Try.ntmps31
  go_wp2_with fail
  refine (l05Rows_any _ _ _ _ zs _ hr (by omega)).mono ?_
  rintro e w1 ⟨rfl, hb⟩
  replace hB := below_step hB hb
  rw [h1]
  go_wp2_with (go_at_call 46; refine (l00In_any _ _ _ _).mono ?_; rintro e w' ⟨rfl, rfl⟩)
  refine (l05First_any _ _ _ zs x _ ((hr.below hB).more hB.size) (by omega)).mono ?_
  rintro e w2 ⟨rfl, hb⟩
  replace hB := below_step hB hb
  rw [← HF.out]
  skip
  obtain ⟨ad, rfl, _, hc0, hc1, hc2⟩ := (hr.below hB).row (k := k) (by omega)
  go_wp2_with fail
  go_ret2
  exact ⟨by rw [hfin.out.1, hfin.out.2]; rfl, hB⟩
end Go.Proofs.Ytjngepglbmjagaa
