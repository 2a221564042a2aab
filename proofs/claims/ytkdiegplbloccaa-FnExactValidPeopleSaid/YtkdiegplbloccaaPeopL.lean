/-
  PEOPLE, what the laws' own helpers do: the size, the copy, the comparison; an argument that is people, opened.
-/
import Derived.Test.YtkdiegplbloccaaPeop
import Derived.Test.YtkdiegplbloccaaFrame
import Derived.Test.YtkdiegplbloccaaLawF
import Derived.Test.YtkdiegplbloccaaRuLaw
import Derived.Test.YtkdiegplbloccaaRuOpen
namespace Go.Proofs.Ytkdiegplbloccaa
open Fl
open Go.ChangeShapes Go.WideShapes Go.ChangeAt Go.RowKit
set_option linter.unusedVariables false
set_option linter.unusedSimpArgs false

theorem szFloat32S_any (A : Option Addr) (n c : Nat) (k : Int) (w : World) (hk : 0 ≤ k ∧ k ≤ 1048576) (hn : n ≤ 9223372036854775807) :
    Calls Try.prog 59 #[.slice A n c, .int .i64 k] w fun e w' => e = .returned (.int .i64 (if k < n then -1 else k - n)) ∧ w = w' := by
  by_cases h : k < n
  · rw [if_pos h]
    go_enter Try.func59, Try.ntmps59
    go_wp2
    go_ret
    exact ⟨rfl, rfl⟩
  · rw [if_neg h]
    go_enter Try.func59, Try.ntmps59
    go_wp2
    go_ret
    exact ⟨rfl, rfl⟩
structure PpW (p : Pp) : Prop where
  n0 : p.n ≤ 9223372036854775807
  n1 : p.m ≤ 9223372036854775807
  n2 : p.k ≤ 9223372036854775807
  f0 : F32s p.xs
  f1 : F32s p.ys
  f2 : F32s p.zs
def szP (p : Pp) : Nat := p.n + p.m + p.k
set_option maxHeartbeats 800000 in
theorem szPeople_no (p : Pp) (k : Int) (w : World) (hk : 0 ≤ k ∧ k ≤ 1048576) (hp : PpW p) (h : k < szP p) :
    Calls Try.prog 15 #[p.V, .int .i64 k] w fun e w' => e = .returned (.int .i64 (-1)) ∧ Below w.heap.size w w' := by
  obtain ⟨A, n, c, xs, B, m, d, ys, C, q, e0, zs⟩ := p
  obtain ⟨n0, n1, n2, _, _, _⟩ := hp
  unfold szP at h
  unfold Pp.V
  dsimp only at n0 n1 n2 h ⊢
  by_cases h1 : k < n
  · go_enter Try.func15, Try.ntmps15
    go_wp2_with fail
    refine (szFloat32S_any _ _ _ _ _ hk n0).mono ?_
    rintro e w1 ⟨rfl, rfl⟩
    rw [if_pos h1]
    go_wp2_with fail
    go_ret
    exact ⟨rfl, bl_1 _⟩
  by_cases h2 : k - n < m
  · go_enter Try.func15, Try.ntmps15
    go_wp2_with fail
    refine (szFloat32S_any _ _ _ _ _ hk n0).mono ?_
    rintro e w1 ⟨rfl, rfl⟩
    rw [if_neg (by omega)]
    go_wp2_with fail
    refine (szFloat32S_any _ _ _ _ _ (by omega) n1).mono ?_
    rintro e w1 ⟨rfl, rfl⟩
    rw [if_pos h2]
    go_wp2_with fail
    go_ret
    exact ⟨rfl, bl_1 _⟩
  · go_enter Try.func15, Try.ntmps15
    go_wp2_with fail
    refine (szFloat32S_any _ _ _ _ _ hk n0).mono ?_
    rintro e w1 ⟨rfl, rfl⟩
    rw [if_neg (by omega)]
    go_wp2_with fail
    refine (szFloat32S_any _ _ _ _ _ (by omega) n1).mono ?_
    rintro e w1 ⟨rfl, rfl⟩
    rw [if_neg (by omega)]
    go_wp2_with fail
    refine (szFloat32S_any _ _ _ _ _ (by omega) n2).mono ?_
    rintro e w1 ⟨rfl, rfl⟩
    rw [if_pos (by omega)]
    go_wp2_with fail
    go_ret
    exact ⟨rfl, bl_1 _⟩
set_option maxHeartbeats 800000 in
theorem szPeople_yes (p : Pp) (k : Int) (w : World) (hk : 0 ≤ k ∧ k ≤ 1048576) (hp : PpW p) (h : (szP p : Int) ≤ k) :
    Calls Try.prog 15 #[p.V, .int .i64 k] w fun e w' => ∃ l : Int, e = .returned (.int .i64 l) ∧ (0 ≤ l ∧ l ≤ 1048576) ∧ l = k - szP p ∧ Below w.heap.size w w' := by
  obtain ⟨A, n, c, xs, B, m, d, ys, C, q, e0, zs⟩ := p
  obtain ⟨n0, n1, n2, _, _, _⟩ := hp
  have HS := Lib.hid (show ∀ l : Int, l = k - n - m - q → l = k - szP ⟨A, n, c, xs, B, m, d, ys, C, q, e0, zs⟩ from fun l hl => by unfold szP; simp only; omega)
  unfold szP at h
  unfold Pp.V
  dsimp only at n0 n1 n2 h ⊢
  go_enter Try.func15, Try.ntmps15
  go_wp2_with fail
  refine (szFloat32S_any _ _ _ _ _ hk n0).mono ?_
  rintro e w1 ⟨rfl, rfl⟩
  rw [if_neg (by omega)]
  go_wp2_with fail
  refine (szFloat32S_any _ _ _ _ _ (by omega) n1).mono ?_
  rintro e w1 ⟨rfl, rfl⟩
  rw [if_neg (by omega)]
  go_wp2_with fail
  refine (szFloat32S_any _ _ _ _ _ (by omega) n2).mono ?_
  rintro e w1 ⟨rfl, rfl⟩
  rw [if_neg (by omega)]
  go_wp2_with fail
  go_ret
  exact ⟨_, rfl, by omega, HS.out _ rfl, bl_1 _⟩
/-- the same people, in other memory -/
structure Same (p q : Pp) : Prop where
  x : q.xs = p.xs
  y : q.ys = p.ys
  z : q.zs = p.zs
  n : q.n = p.n
  m : q.m = p.m
  k : q.k = p.k
theorem Same.b {p q : Pp} (h : Same p q) (b : PpB p) : PpB q := ⟨by rw [h.n]; exact b.n0, by rw [h.m]; exact b.n1, by rw [h.k]; exact b.n2, by rw [h.x]; exact b.f0, by rw [h.y]; exact b.f1, by rw [h.z]; exact b.f2⟩
theorem frozen_set' (w : World) (b o : Nat) (u : Value) (x : Addr) : (w.setCell ⟨b, o, none⟩ u).frozen? x = w.frozen? x := by simp
set_option maxHeartbeats 3200000 in
theorem toPeople_any (p : Pp) (w : World) (hr : PpRd w p) (hb : PpB p) :
    Calls Try.prog 17 #[p.V] w fun e w' => ∃ q : Pp, e = .returned q.V ∧ PpRd w' q ∧ Same p q ∧ Below w.heap.size w w' := by
  obtain ⟨A, n, c, xs, B, m, d, ys, C, k, e0, zs⟩ := p
  obtain ⟨n0, n1, n2, f0, f1, f2⟩ := hb
  have hb3 : Below w.heap.size w (((w.alloc (.cells #[.slice A n c, .slice B m d, .slice C k e0] 24)).alloc (.cells #[.slice none 0 0, .slice none 0 0, .slice none 0 0] 27)).alloc (.cells #[.slice none 0 0, .slice none 0 0, .slice none 0 0] 27)) :=
    below_step (bl_2 _ _) (bl_1 _)
  obtain ⟨r0, r1, r2⟩ := hr
  dsimp only at r0 r1 r2 n0 n1 n2
  have HB3 := Lib.hid hb3
  have R := Lib.hid (And.intro r0 (And.intro r1 r2))
  clear r0 r1 r2 hb3 f0 f1 f2
  unfold Pp.V
  dsimp only
  go_enter Try.func17, Try.ntmps17
  go_wp2_with fail
  refine (toFloat32S_any _ _ _ xs _ ((R.out.1.below HB3.out).more HB3.out.size) n0).mono ?_
  rintro e w1 ⟨g1, rfl, o1, hb1⟩
  obtain ⟨hc1, hf1⟩ := bcell hb1
  have hz1 : w.heap.size + 2 < w1.heap.size := by have := hb1.size; simp at this; omega
  have k1_0_1 : w1.cell? ⟨w.heap.size, 1, none⟩ = some (.slice B m d) := (hc1 _ _ (by simp <;> omega)).trans (by go_simp)
  have k1_0_2 : w1.cell? ⟨w.heap.size, 2, none⟩ = some (.slice C k e0) := (hc1 _ _ (by simp <;> omega)).trans (by go_simp)
  have k1_1_0 : w1.cell? ⟨w.heap.size + 1, 0, none⟩ = some (.slice none 0 0) := (hc1 _ _ (by simp <;> omega)).trans (by go_simp)
  have f1_1_0 : w1.frozen? ⟨w.heap.size + 1, 0, none⟩ = false := (hf1 _ _ (by simp <;> omega)).trans (by go_simp)
  have k1_1_1 : w1.cell? ⟨w.heap.size + 1, 1, none⟩ = some (.slice none 0 0) := (hc1 _ _ (by simp <;> omega)).trans (by go_simp)
  have f1_1_1 : w1.frozen? ⟨w.heap.size + 1, 1, none⟩ = false := (hf1 _ _ (by simp <;> omega)).trans (by go_simp)
  have k1_1_2 : w1.cell? ⟨w.heap.size + 1, 2, none⟩ = some (.slice none 0 0) := (hc1 _ _ (by simp <;> omega)).trans (by go_simp)
  have f1_1_2 : w1.frozen? ⟨w.heap.size + 1, 2, none⟩ = false := (hf1 _ _ (by simp <;> omega)).trans (by go_simp)
  have k1_2_0 : w1.cell? ⟨w.heap.size + 1 + 1, 0, none⟩ = some (.slice none 0 0) := (hc1 _ _ (by simp <;> omega)).trans (by go_simp)
  have f1_2_0 : w1.frozen? ⟨w.heap.size + 1 + 1, 0, none⟩ = false := (hf1 _ _ (by simp <;> omega)).trans (by go_simp)
  have k1_2_1 : w1.cell? ⟨w.heap.size + 1 + 1, 1, none⟩ = some (.slice none 0 0) := (hc1 _ _ (by simp <;> omega)).trans (by go_simp)
  have f1_2_1 : w1.frozen? ⟨w.heap.size + 1 + 1, 1, none⟩ = false := (hf1 _ _ (by simp <;> omega)).trans (by go_simp)
  have k1_2_2 : w1.cell? ⟨w.heap.size + 1 + 1, 2, none⟩ = some (.slice none 0 0) := (hc1 _ _ (by simp <;> omega)).trans (by go_simp)
  have f1_2_2 : w1.frozen? ⟨w.heap.size + 1 + 1, 2, none⟩ = false := (hf1 _ _ (by simp <;> omega)).trans (by go_simp)
  clear hc1 hf1
  have HO1 := Lib.hid (own_base (base' := w.heap.size + 3) o1 (by simp))
  have HB4 := Lib.hid (below_step HB3.out hb1)
  clear o1 hb1
  go_wp2_with fail
  have HB5 := Lib.hid (Below.setCell HB4.out (p := ⟨w.heap.size + 2, 0, none⟩) (by simp) (.slice (some ⟨g1, 0, none⟩) n n))
  have HO1' := Lib.hid (own_far HO1.out (p := ⟨w.heap.size + 2, 0, none⟩) (by simp) (.slice (some ⟨g1, 0, none⟩) n n))
  refine (toFloat32S_any _ _ _ ys _ ((R.out.2.1.below HB5.out).more HB5.out.size) n1).mono ?_
  rintro e w2 ⟨g2, rfl, o2, hb2⟩
  obtain ⟨hc2, hf2⟩ := bcell hb2
  have hz2 : w.heap.size + 2 < w2.heap.size := by have := hb2.size; simp at this; omega
  have k2_0_2 : w2.cell? ⟨w.heap.size, 2, none⟩ = some (.slice C k e0) := (hc2 _ _ (by simp <;> omega)).trans ((World.cell?_setCell_far _ ⟨w.heap.size + 1 + 1, 0, none⟩ ⟨w.heap.size, 2, none⟩ _ (by simp only; omega)).trans k1_0_2)
  have k2_1_0 : w2.cell? ⟨w.heap.size + 1, 0, none⟩ = some (.slice none 0 0) := (hc2 _ _ (by simp <;> omega)).trans ((World.cell?_setCell_far _ ⟨w.heap.size + 1 + 1, 0, none⟩ ⟨w.heap.size + 1, 0, none⟩ _ (by simp only; omega)).trans k1_1_0)
  have f2_1_0 : w2.frozen? ⟨w.heap.size + 1, 0, none⟩ = false := (hf2 _ _ (by simp <;> omega)).trans ((frozen_set' _ _ _ _ _).trans f1_1_0)
  have k2_1_1 : w2.cell? ⟨w.heap.size + 1, 1, none⟩ = some (.slice none 0 0) := (hc2 _ _ (by simp <;> omega)).trans ((World.cell?_setCell_far _ ⟨w.heap.size + 1 + 1, 0, none⟩ ⟨w.heap.size + 1, 1, none⟩ _ (by simp only; omega)).trans k1_1_1)
  have f2_1_1 : w2.frozen? ⟨w.heap.size + 1, 1, none⟩ = false := (hf2 _ _ (by simp <;> omega)).trans ((frozen_set' _ _ _ _ _).trans f1_1_1)
  have k2_1_2 : w2.cell? ⟨w.heap.size + 1, 2, none⟩ = some (.slice none 0 0) := (hc2 _ _ (by simp <;> omega)).trans ((World.cell?_setCell_far _ ⟨w.heap.size + 1 + 1, 0, none⟩ ⟨w.heap.size + 1, 2, none⟩ _ (by simp only; omega)).trans k1_1_2)
  have f2_1_2 : w2.frozen? ⟨w.heap.size + 1, 2, none⟩ = false := (hf2 _ _ (by simp <;> omega)).trans ((frozen_set' _ _ _ _ _).trans f1_1_2)
  have k2_2_0 : w2.cell? ⟨w.heap.size + 1 + 1, 0, none⟩ = some (.slice (some ⟨g1, 0, none⟩) n n) := (hc2 _ _ (by simp <;> omega)).trans (World.cell?_setCell_same _ ⟨w.heap.size + 1 + 1, 0, none⟩ _ k1_2_0)
  have f2_2_0 : w2.frozen? ⟨w.heap.size + 1 + 1, 0, none⟩ = false := (hf2 _ _ (by simp <;> omega)).trans ((frozen_set' _ _ _ _ _).trans f1_2_0)
  have k2_2_1 : w2.cell? ⟨w.heap.size + 1 + 1, 1, none⟩ = some (.slice none 0 0) := (hc2 _ _ (by simp <;> omega)).trans ((World.cell?_setCell_other _ ⟨w.heap.size + 1 + 1, 0, none⟩ ⟨w.heap.size + 1 + 1, 1, none⟩ _ (by simp)).trans k1_2_1)
  have f2_2_1 : w2.frozen? ⟨w.heap.size + 1 + 1, 1, none⟩ = false := (hf2 _ _ (by simp <;> omega)).trans ((frozen_set' _ _ _ _ _).trans f1_2_1)
  have k2_2_2 : w2.cell? ⟨w.heap.size + 1 + 1, 2, none⟩ = some (.slice none 0 0) := (hc2 _ _ (by simp <;> omega)).trans ((World.cell?_setCell_other _ ⟨w.heap.size + 1 + 1, 0, none⟩ ⟨w.heap.size + 1 + 1, 2, none⟩ _ (by simp)).trans k1_2_2)
  have f2_2_2 : w2.frozen? ⟨w.heap.size + 1 + 1, 2, none⟩ = false := (hf2 _ _ (by simp <;> omega)).trans ((frozen_set' _ _ _ _ _).trans f1_2_2)
  clear hc2 hf2
  clear k1_0_1 k1_0_2 k1_1_0 k1_1_1 k1_1_2 k1_2_0 k1_2_1 k1_2_2 f1_1_0 f1_1_1 f1_1_2 f1_2_0 f1_2_1 f1_2_2
  have HO1'' := Lib.hid (own_on HO1'.out hb2)
  have HO2 := Lib.hid (own_base (base' := w.heap.size + 3) o2 (by simp; omega))
  have HB6 := Lib.hid (below_step HB5.out hb2)
  clear o2 hb2
  go_wp2_with fail
  have HB7 := Lib.hid (Below.setCell HB6.out (p := ⟨w.heap.size + 2, 1, none⟩) (by simp) (.slice (some ⟨g2, 0, none⟩) m m))
  have HP1 := Lib.hid (own_far HO1''.out (p := ⟨w.heap.size + 2, 1, none⟩) (by simp) (.slice (some ⟨g2, 0, none⟩) m m))
  have HP2 := Lib.hid (own_far HO2.out (p := ⟨w.heap.size + 2, 1, none⟩) (by simp) (.slice (some ⟨g2, 0, none⟩) m m))
  refine (toFloat32S_any _ _ _ zs _ ((R.out.2.2.below HB7.out).more HB7.out.size) n2).mono ?_
  rintro e w3 ⟨g3, rfl, o3, hb3⟩
  obtain ⟨hc3, hf3⟩ := bcell hb3
  have hz3 : w.heap.size + 2 < w3.heap.size := by have := hb3.size; simp at this; omega
  have k3_1_0 : w3.cell? ⟨w.heap.size + 1, 0, none⟩ = some (.slice none 0 0) := (hc3 _ _ (by simp <;> omega)).trans ((World.cell?_setCell_far _ ⟨w.heap.size + 1 + 1, 1, none⟩ ⟨w.heap.size + 1, 0, none⟩ _ (by simp only; omega)).trans k2_1_0)
  have f3_1_0 : w3.frozen? ⟨w.heap.size + 1, 0, none⟩ = false := (hf3 _ _ (by simp <;> omega)).trans ((frozen_set' _ _ _ _ _).trans f2_1_0)
  have k3_1_1 : w3.cell? ⟨w.heap.size + 1, 1, none⟩ = some (.slice none 0 0) := (hc3 _ _ (by simp <;> omega)).trans ((World.cell?_setCell_far _ ⟨w.heap.size + 1 + 1, 1, none⟩ ⟨w.heap.size + 1, 1, none⟩ _ (by simp only; omega)).trans k2_1_1)
  have f3_1_1 : w3.frozen? ⟨w.heap.size + 1, 1, none⟩ = false := (hf3 _ _ (by simp <;> omega)).trans ((frozen_set' _ _ _ _ _).trans f2_1_1)
  have k3_1_2 : w3.cell? ⟨w.heap.size + 1, 2, none⟩ = some (.slice none 0 0) := (hc3 _ _ (by simp <;> omega)).trans ((World.cell?_setCell_far _ ⟨w.heap.size + 1 + 1, 1, none⟩ ⟨w.heap.size + 1, 2, none⟩ _ (by simp only; omega)).trans k2_1_2)
  have f3_1_2 : w3.frozen? ⟨w.heap.size + 1, 2, none⟩ = false := (hf3 _ _ (by simp <;> omega)).trans ((frozen_set' _ _ _ _ _).trans f2_1_2)
  have k3_2_0 : w3.cell? ⟨w.heap.size + 1 + 1, 0, none⟩ = some (.slice (some ⟨g1, 0, none⟩) n n) := (hc3 _ _ (by simp <;> omega)).trans ((World.cell?_setCell_other _ ⟨w.heap.size + 1 + 1, 1, none⟩ ⟨w.heap.size + 1 + 1, 0, none⟩ _ (by simp)).trans k2_2_0)
  have f3_2_0 : w3.frozen? ⟨w.heap.size + 1 + 1, 0, none⟩ = false := (hf3 _ _ (by simp <;> omega)).trans ((frozen_set' _ _ _ _ _).trans f2_2_0)
  have k3_2_1 : w3.cell? ⟨w.heap.size + 1 + 1, 1, none⟩ = some (.slice (some ⟨g2, 0, none⟩) m m) := (hc3 _ _ (by simp <;> omega)).trans (World.cell?_setCell_same _ ⟨w.heap.size + 1 + 1, 1, none⟩ _ k2_2_1)
  have f3_2_1 : w3.frozen? ⟨w.heap.size + 1 + 1, 1, none⟩ = false := (hf3 _ _ (by simp <;> omega)).trans ((frozen_set' _ _ _ _ _).trans f2_2_1)
  have k3_2_2 : w3.cell? ⟨w.heap.size + 1 + 1, 2, none⟩ = some (.slice none 0 0) := (hc3 _ _ (by simp <;> omega)).trans ((World.cell?_setCell_other _ ⟨w.heap.size + 1 + 1, 1, none⟩ ⟨w.heap.size + 1 + 1, 2, none⟩ _ (by simp)).trans k2_2_2)
  have f3_2_2 : w3.frozen? ⟨w.heap.size + 1 + 1, 2, none⟩ = false := (hf3 _ _ (by simp <;> omega)).trans ((frozen_set' _ _ _ _ _).trans f2_2_2)
  clear hc3 hf3
  clear k2_0_2 k2_1_0 k2_1_1 k2_1_2 k2_2_0 k2_2_1 k2_2_2 f2_1_0 f2_1_1 f2_1_2 f2_2_0 f2_2_1 f2_2_2
  have HQ1 := Lib.hid (own_on HP1.out hb3)
  have HQ2 := Lib.hid (own_on HP2.out hb3)
  have HQ3 := Lib.hid (own_base (base' := w.heap.size + 3) o3 (by simp; omega))
  have HB8 := Lib.hid (below_step HB7.out hb3)
  clear o3 hb3
  go_wp2_with fail
  (try simp only [Exit.inBlock, Exit.then])
  refine bodyPost_ret (v := .agg #[.slice (some ⟨g1, 0, none⟩) n n, .slice (some ⟨g2, 0, none⟩) m m, .slice (some ⟨g3, 0, none⟩) k k]) (results_cell1 rfl _ _ rfl ?_) rfl ⟨⟨some ⟨g1, 0, none⟩, n, n, xs, some ⟨g2, 0, none⟩, m, m, ys, some ⟨g3, 0, none⟩, k, k, zs⟩, rfl, ⟨Rd.of_own (base := w.heap.size + 3) (e := 32) (c := n) ?_, Rd.of_own (base := w.heap.size + 3) (e := 32) (c := m) ?_, Rd.of_own (base := w.heap.size + 3) (e := 32) (c := k) ?_⟩, ⟨rfl, rfl, rfl, rfl, rfl, rfl⟩, ?_⟩
  · go_simp
  · repeat (refine own_far ?_ (by simp only; omega) _)
    exact HQ1.out
  · repeat (refine own_far ?_ (by simp only; omega) _)
    exact HQ2.out
  · repeat (refine own_far ?_ (by simp only; omega) _)
    exact HQ3.out
  · repeat (refine Below.setCell ?_ (by simp only; omega) _)
    exact HB8.out
set_option maxHeartbeats 1600000 in
theorem eqPeople_yes (p q : Pp) (w : World) (hp : PpRd w p) (hq : PpRd w q) (bp : PpB p) (hs : Same p q) :
    Calls Try.prog 19 #[p.V, q.V] w fun e w' => e = .returned (.bool true) ∧ Below w.heap.size w w' := by
  obtain ⟨A, n, c, xs, B, m, d, ys, C, k, e0, zs⟩ := p
  obtain ⟨A', n', c', xs', B', m', d', ys', C', k', e', zs'⟩ := q
  obtain ⟨h1, h2, h3, h4, h5, h6⟩ := hs
  dsimp only at h1 h2 h3 h4 h5 h6
  subst h1 h2 h3 h4 h5 h6
  have hbb := bl_2 (w := w) (.cells #[.slice A n' c, .slice B m' d, .slice C k' e0] 27) (.cells #[.slice A' n' c', .slice B' m' d', .slice C' k' e'] 27)
  have hp2 := hp.on hbb
  have hq2 := hq.on hbb
  obtain ⟨r0, r1, r2⟩ := hp2
  obtain ⟨s0, s1, s2⟩ := hq2
  obtain ⟨n0, n1, n2, f0, f1, f2⟩ := bp
  dsimp only at r0 r1 r2 s0 s1 s2 n0 n1 n2
  have HK := Lib.hid (show ∀ w', Below ((w.alloc (.cells #[.slice A n' c, .slice B m' d, .slice C k' e0] 27)).alloc (.cells #[.slice A' n' c', .slice B' m' d', .slice C' k' e'] 27)).heap.size ((w.alloc (.cells #[.slice A n' c, .slice B m' d, .slice C k' e0] 27)).alloc (.cells #[.slice A' n' c', .slice B' m' d', .slice C' k' e'] 27)) w' →
      w'.cell? ⟨w.heap.size, 1, none⟩ = some (.slice B m' d) ∧ w'.cell? ⟨w.heap.size, 2, none⟩ = some (.slice C k' e0) ∧ w'.cell? ⟨w.heap.size + 1, 1, none⟩ = some (.slice B' m' d') ∧ w'.cell? ⟨w.heap.size + 1, 2, none⟩ = some (.slice C' k' e') from fun w' hb =>
    ⟨(hb.cell (p := ⟨w.heap.size, 1, none⟩) (by simp; omega)).trans (by go_simp), (hb.cell (p := ⟨w.heap.size, 2, none⟩) (by simp; omega)).trans (by go_simp), (hb.cell (p := ⟨w.heap.size + 1, 1, none⟩) (by simp)).trans (by go_simp), (hb.cell (p := ⟨w.heap.size + 1, 2, none⟩) (by simp)).trans (by go_simp)⟩)
  have R := Lib.hid (And.intro r0 (And.intro r1 (And.intro r2 (And.intro s0 (And.intro s1 s2)))))
  have HB := Lib.hid hbb
  clear hp hq r0 r1 r2 s0 s1 s2 f0 f1 f2 hbb
  unfold Pp.V
  dsimp only
  go_enter Try.func19, Try.ntmps19
  go_wp2_with fail
  refine (eqFloat32S_yes _ _ _ _ _ xs' _ R.out.1 R.out.2.2.2.1 (by omega)).mono ?_
  rintro e w1 ⟨rfl, hb⟩
  obtain ⟨x1, x2, x3, x4⟩ := HK.out _ hb
  have HB1 := Lib.hid hb
  clear hb
  go_wp2_with fail
  refine (eqFloat32S_yes _ _ _ _ _ ys' _ (R.out.2.1.on HB1.out) (R.out.2.2.2.2.1.on HB1.out) (by omega)).mono ?_
  rintro e w2 ⟨rfl, hb⟩
  have HB2 := Lib.hid (below_step HB1.out hb)
  obtain ⟨y1, y2, y3, y4⟩ := HK.out _ HB2.out
  clear hb x1 x2 x3 x4
  go_wp2_with fail
  refine (eqFloat32S_yes _ _ _ _ _ zs' _ (R.out.2.2.1.on HB2.out) (R.out.2.2.2.2.2.on HB2.out) (by omega)).mono ?_
  rintro e w3 ⟨rfl, hb⟩
  go_wp2_with fail
  go_ret
  exact ⟨rfl, below_step HB.out (below_step HB2.out hb)⟩
/-- people in a block of its own -/
structure PBox (w : World) (g : Nat) (p : Pp) : Prop where
  lt : g < w.heap.size
  c0 : w.cell? ⟨g, 0, none⟩ = some (.slice p.A p.n p.c)
  c1 : w.cell? ⟨g, 1, none⟩ = some (.slice p.B p.m p.d)
  c2 : w.cell? ⟨g, 2, none⟩ = some (.slice p.C p.k p.e)
theorem PBox.on {w w' : World} {g : Nat} {p : Pp} (h : PBox w g p) (hb : Below w.heap.size w w') : PBox w' g p :=
  ⟨Nat.lt_of_lt_of_le h.lt hb.size, (hb.cell (p := ⟨g, 0, none⟩) h.lt).trans h.c0, (hb.cell (p := ⟨g, 1, none⟩) h.lt).trans h.c1, (hb.cell (p := ⟨g, 2, none⟩) h.lt).trans h.c2⟩
theorem PBox.new (w : World) (p : Pp) (t : TypeId) {g : Nat} (hg : g = w.heap.size) : PBox (w.alloc (.cells #[.slice p.A p.n p.c, .slice p.B p.m p.d, .slice p.C p.k p.e] t)) g p := by
  subst hg
  exact ⟨by simp, by go_simp, by go_simp, by go_simp⟩
theorem Same.back {p v t : Pp} (h : Same p v) (k : Same p t) : Same v t := ⟨by rw [k.x, h.x], by rw [k.y, h.y], by rw [k.z, h.z], by rw [k.n, h.n], by rw [k.m, h.m], by rw [k.k, h.k]⟩
theorem spec_SamePeople' {b : Bool} (p q : Pp) (w : World) (hp : PpRd w p) (hq : PpRd w q) (bp : PpB p) (bq : PpB q) (h : SamePeople_r0 p q = b) :
    Calls Try.prog 16 #[p.V, q.V] w fun e w' => e = .returned (.bool b) ∧ Below w.heap.size w w' := by
  subst h; exact spec_SamePeople p q w hp hq bp bq
theorem impl_SamePeople' {b : Bool} (p q : Pp) (w : World) (hp : PpRd w p) (hq : PpRd w q) (bp : PpB p) (bq : PpB q) (h : SamePeople_r0 p q = b) :
    Calls Try.prog 18 #[p.V, q.V] w fun e w' => e = .returned (.bool b) ∧ Below w.heap.size w w' := by
  subst h; exact impl_SamePeople p q w hp hq bp bq
theorem same_r0 {p q p' q' : Pp} (h : Same p p') (k : Same q q') : SamePeople_r0 p' q' = SamePeople_r0 p q := by
  unfold SamePeople_r0; rw [h.x, h.y, h.z, k.x, k.y, k.z]
/-! ### an argument that is people -/
section
variable {H : Type} {enc : TypeId × Value → H} {P : Program} {W : World}
theorem trod_flts {base : Nat} {n : Nat} {t e : TypeId} {v : Value} {y : DataW H × List MemPlace} (ht : P.underlying t = some (.slice e)) (he : P.underlying e = some (.float .f32)) (hc : P.cellsOf e = 1)
    (h : DataW.trod enc P W base (fun _ => true) true n t [v] = some y) : ∃ A m c bs, v = .slice A m c ∧ Rd W W.heap.size 1 A m (flts bs) ∧ F32s bs ∧ m ≤ 9223372036854775807 := by
  rcases Deep.open_slice1 ht hc h with ⟨hcs, _⟩ | ⟨a, len, cap, m, n', V, D, Pl, hcs, _, hl, hcap, hm, _, hx⟩
  · injection hcs with hv
    exact ⟨none, 0, 0, [], hv, Rd.nil_, (fun z hz => by cases hz), by omega⟩
  · injection hcs with hv
    simp only [if_true] at hm
    have hb : ∀ i, i < len → ∃ b, V i = .float .f32 b ∧ b < 4294967296 := fun i hi => by
      obtain ⟨b, h1, h2⟩ := trod_flt he (hx i (by omega)).2
      exact ⟨b, by simpa using h1, h2⟩
    obtain ⟨g, hg⟩ := Deep.choose_lt (α := Nat) (p := fun i b => V i = .float .f32 b ∧ b < 4294967296) hb
    refine ⟨some a, len, cap, (List.range len).map g, hv, ⟨by simp [flts], fun hn => ⟨a, rfl, ?_, fun j u hu => ?_⟩⟩, fun z hz => ?_, by unfold maxLen at hcap; omega⟩
    · have h0 := block_lt_of_cell (hx 0 (by omega)).1
      rwa [add_block] at h0
    · rw [flts_at] at hu
      by_cases hj : j < len
      · rw [(hx j (by omega)).1, (hg j hj).1]
        simpa [hj] using hu
      · rw [List.getElem?_eq_none (by simp; omega)] at hu
        cases hu
    · simp only [List.mem_map, List.mem_range] at hz
      obtain ⟨i, hi, rfl⟩ := hz
      exact (hg i hi).2
theorem field_flts {base : Nat} {n j : Nat} {t e : TypeId} {cs : List Value} {y : DataW H × List MemPlace} (ht : P.underlying t = some (.slice e)) (he : P.underlying e = some (.float .f32)) (hc : P.cellsOf e = 1) (hj : j < cs.length)
    (h : DataW.trod enc P W base (fun _ => true) true n t ((cs.drop j).take 1) = some y) : ∃ A m c bs, cs[j]? = some (.slice A m c) ∧ Rd W W.heap.size 1 A m (flts bs) ∧ F32s bs ∧ m ≤ 9223372036854775807 := by
  obtain ⟨A, m, c, zs, hv, h1, h2, h3⟩ := trod_flts ht he hc (field_one hj h)
  exact ⟨A, m, c, zs, by rw [List.getElem?_eq_getElem hj, hv], h1, h2, h3⟩
theorem open_people {t ei : TypeId} {f0 f1 f2 : Field} {v : Value} {d : DataW H} {p : List MemPlace} {base : Nat} (he : P.underlying t = some (.struct #[f0, f1, f2])) (hc : P.cellsOf t = 3)
    (o0 : f0.offset = 0) (o1 : f1.offset = 1) (o2 : f2.offset = 2) (k0 : P.cellsOf f0.type = 1) (k1 : P.cellsOf f1.type = 1) (k2 : P.cellsOf f2.type = 1)
    (t0 : P.underlying f0.type = some (.slice ei)) (t1 : P.underlying f1.type = some (.slice ei)) (t2 : P.underlying f2.type = some (.slice ei)) (ti : P.underlying ei = some (.float .f32)) (ki : P.cellsOf ei = 1)
    (hv : Value.okWide P W .any base t v) (h : DataW.Trod enc P W 0 (fun _ => true) true t v d p) :
    ∃ q : Pp, v = q.V ∧ PpRd W q ∧ PpW q := by
  obtain ⟨cs, rfl, hs⟩ := okWide_struct he hv
  obtain ⟨fuel, hf⟩ := h
  rw [hc] at hs
  have hf' : DataW.trod enc P W 0 (fun _ => true) true fuel t cs.toList = some (d, p) := hf
  have hlen : cs.toList.length = 3 := by simpa using hs
  obtain ⟨xs, n', _, _, _, hxl, hfs⟩ := DataW.trod_struct he hf'
  have hx : ∀ j, j < 3 → ∃ y, xs[j]? = some y := fun j hj => ⟨_, List.getElem?_eq_getElem (by rw [hxl]; exact hj)⟩
  obtain ⟨y0, hy0⟩ := hx 0 (by omega)
  obtain ⟨y1, hy1⟩ := hx 1 (by omega)
  obtain ⟨y2, hy2⟩ := hx 2 (by omega)
  have g0 := hfs 0 f0 rfl
  have g1 := hfs 1 f1 rfl
  have g2 := hfs 2 f2 rfl
  rw [o0, k0, hy0] at g0
  rw [o1, k1, hy1] at g1
  rw [o2, k2, hy2] at g2
  obtain ⟨A, a, a', as', e0, w0, b0, c0⟩ := field_flts t0 ti ki (by omega) g0
  obtain ⟨B, b, b', bs, e1, w1, b1, c1⟩ := field_flts t1 ti ki (by omega) g1
  obtain ⟨C, c, c', cs', e2, w2, b2, c2⟩ := field_flts t2 ti ki (by omega) g2
  refine ⟨⟨A, a, a', as', B, b, b', bs, C, c, c', cs'⟩, ?_, ⟨w0, w1, w2⟩, ⟨c0, c1, c2, b0, b1, b2⟩⟩
  have e : cs.toList = [.slice A a a', .slice B b b', .slice C c c'] := by
    refine List.ext_getElem? fun j => ?_
    match j with
    | 0 => exact e0
    | 1 => exact e1
    | 2 => exact e2
    | j + 3 => rw [List.getElem?_eq_none (by omega), List.getElem?_eq_none (by simp)]
  have e2 : cs = #[.slice A a a', .slice B b b', .slice C c c'] := by
    apply Array.ext'
    rw [e]
  rw [e2]; rfl
end
end Go.Proofs.Ytkdiegplbloccaa
