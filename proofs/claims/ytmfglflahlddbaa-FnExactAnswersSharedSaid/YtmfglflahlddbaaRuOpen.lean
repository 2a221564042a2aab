/-
  AN ARGUMENT THAT IS A SLICE OF RULES, OR A RULE, opened.
-/
import Derived.Test.YtmfglflahlddbaaRuLaw2
import Derived.Deep.Slices
import Derived.ChangeSame
namespace Go.Proofs.Ytmfglflahlddbaa
open Go.ChangeShapes Go.WideShapes Go.ChangeAt Go.RowKit Go.Deep
set_option linter.unusedVariables false

def I64b (z : Int) : Prop := -9223372036854775808 ≤ z ∧ z ≤ 9223372036854775807
structure RuB (r : Ru) : Prop where
  hd : I64b r.hd
  fr : I64b r.fr
  tt : I64b r.tt
  rk : I64b r.rk
  ifs : I64s r.ifs
  n : r.n ≤ 9223372036854775807
section
variable {H : Type} {enc : TypeId × Value → H} {P : Program} {W : World}
theorem field_one {base : Nat} {spare : Nat → Bool} {held : Bool} {n j : Nat} {t : TypeId} {cs : List Value} {y : DataW H × List MemPlace} (hj : j < cs.length)
    (h : DataW.trod enc P W base spare held n t ((cs.drop j).take 1) = some y) : DataW.trod enc P W base spare held n t [cs[j]] = some y := by
  rw [List.drop_eq_getElem_cons hj] at h
  exact h
theorem field_num {base : Nat} {spare : Nat → Bool} {held : Bool} {n j : Nat} {t : TypeId} {cs : List Value} {y : DataW H × List MemPlace} (ht : P.underlying t = some (.int .i64)) (hj : j < cs.length)
    (h : DataW.trod enc P W base spare held n t ((cs.drop j).take 1) = some y) : ∃ z : Int, cs[j]? = some (.int .i64 z) ∧ I64b z := by
  obtain ⟨z, hz, _, hw⟩ := DataW.trod_int ht (field_one hj h)
  refine ⟨z, ?_, i64_bounds hw⟩
  rw [List.getElem?_eq_getElem hj]
  injection hz with h3
  rw [h3]
theorem trod_nums {base : Nat} {n : Nat} {t e : TypeId} {v : Value} {y : DataW H × List MemPlace} (ht : P.underlying t = some (.slice e)) (he : P.underlying e = some (.int .i64)) (hc : P.cellsOf e = 1)
    (h : DataW.trod enc P W base (fun _ => true) true n t [v] = some y) : ∃ A m c zs, v = .slice A m c ∧ Rd W W.heap.size 1 A m (ints zs) ∧ I64s zs ∧ m ≤ 9223372036854775807 := by
  rcases open_ints ht he hc h with ⟨hcs, _⟩ | ⟨a, len, cap, zs, hcs, _, hl, hcap, hz, _, hcell, hwz⟩
  · injection hcs with hv
    exact ⟨none, 0, 0, [], hv, Rd.nil_, (fun z hz => by cases hz), by omega⟩
  · injection hcs with hv
    simp only [if_true] at hz
    refine ⟨some a, len, cap, zs.take len, hv, ⟨by simp [ints]; omega, fun hn => ⟨a, rfl, ?_, fun j u hu => ?_⟩⟩, fun z h => i64_bounds (hwz z (List.mem_of_mem_take h)), by unfold maxLen at hcap; omega⟩
    · have h0 := block_lt_of_cell (hcell 0 (by omega))
      rwa [add_block] at h0
    · rw [ints_at, List.getElem?_take] at hu
      split at hu
      · rename_i hj
        rw [hcell j (by omega), ← hu]
        simp [List.getD, List.getElem?_eq_getElem (show j < zs.length by omega)]
      · cases hu
theorem field_nums {base : Nat} {n j : Nat} {t e : TypeId} {cs : List Value} {y : DataW H × List MemPlace} (ht : P.underlying t = some (.slice e)) (he : P.underlying e = some (.int .i64)) (hc : P.cellsOf e = 1) (hj : j < cs.length)
    (h : DataW.trod enc P W base (fun _ => true) true n t ((cs.drop j).take 1) = some y) : ∃ A m c zs, cs[j]? = some (.slice A m c) ∧ Rd W W.heap.size 1 A m (ints zs) ∧ I64s zs ∧ m ≤ 9223372036854775807 := by
  obtain ⟨A, m, c, zs, hv, h1, h2, h3⟩ := trod_nums ht he hc (field_one hj h)
  exact ⟨A, m, c, zs, by rw [List.getElem?_eq_getElem hj, hv], h1, h2, h3⟩
/-- the five cells of a rule -/
theorem rule_cells {base : Nat} {fuel : Nat} {e ei : TypeId} {f0 f1 f2 f3 f4 : Field} {cs : List Value} {y : DataW H × List MemPlace} (he : P.underlying e = some (.struct #[f0, f1, f2, f3, f4])) (hlen : cs.length = 5)
    (o0 : f0.offset = 0) (o1 : f1.offset = 1) (o2 : f2.offset = 2) (o3 : f3.offset = 3) (o4 : f4.offset = 4) (k0 : P.cellsOf f0.type = 1) (k1 : P.cellsOf f1.type = 1) (k2 : P.cellsOf f2.type = 1) (k3 : P.cellsOf f3.type = 1) (k4 : P.cellsOf f4.type = 1)
    (t0 : P.underlying f0.type = some (.int .i64)) (t1 : P.underlying f1.type = some (.slice ei)) (t2 : P.underlying f2.type = some (.int .i64)) (t3 : P.underlying f3.type = some (.int .i64)) (t4 : P.underlying f4.type = some (.int .i64)) (ti : P.underlying ei = some (.int .i64)) (ki : P.cellsOf ei = 1)
    (h : DataW.trod enc P W base (fun _ => true) true fuel e cs = some y) : ∃ r : Ru, RuB r ∧ Rd W W.heap.size 1 r.A r.n (ints r.ifs) ∧ ∀ j, j < 5 → cs[j]? = r.cells[j]? := by
  obtain ⟨xs, n', _, _, _, hxl, hfs⟩ := DataW.trod_struct he h
  have hx : ∀ j, j < 5 → ∃ y, xs[j]? = some y := fun j hj => ⟨_, List.getElem?_eq_getElem (by rw [hxl]; exact hj)⟩
  obtain ⟨y0, hy0⟩ := hx 0 (by omega)
  obtain ⟨y1, hy1⟩ := hx 1 (by omega)
  obtain ⟨y2, hy2⟩ := hx 2 (by omega)
  obtain ⟨y3, hy3⟩ := hx 3 (by omega)
  obtain ⟨y4, hy4⟩ := hx 4 (by omega)
  have g0 := hfs 0 f0 rfl
  have g1 := hfs 1 f1 rfl
  have g2 := hfs 2 f2 rfl
  have g3 := hfs 3 f3 rfl
  have g4 := hfs 4 f4 rfl
  rw [o0, k0, hy0] at g0
  rw [o1, k1, hy1] at g1
  rw [o2, k2, hy2] at g2
  rw [o3, k3, hy3] at g3
  rw [o4, k4, hy4] at g4
  obtain ⟨z0, e0, w0⟩ := field_num t0 (by omega) g0
  obtain ⟨A, m, c, zs, e1, w1, b1, c1⟩ := field_nums t1 ti ki (by omega) g1
  obtain ⟨z2, e2, w2⟩ := field_num t2 (by omega) g2
  obtain ⟨z3, e3, w3⟩ := field_num t3 (by omega) g3
  obtain ⟨z4, e4, w4⟩ := field_num t4 (by omega) g4
  refine ⟨⟨z0, z2, z3, z4, A, m, c, zs⟩, ⟨w0, w2, w3, w4, b1, c1⟩, w1, fun j hj => ?_⟩
  have : j = 0 ∨ j = 1 ∨ j = 2 ∨ j = 3 ∨ j = 4 := by omega
  rcases this with rfl | rfl | rfl | rfl | rfl
  · exact e0
  · exact e1
  · exact e2
  · exact e3
  · exact e4
theorem open_rd_rules {t e ei : TypeId} {f0 f1 f2 f3 f4 : Field} {v : Value} {d : DataW H} {p : List MemPlace} {base : Nat} (ht : P.underlying t = some (.slice e)) (he : P.underlying e = some (.struct #[f0, f1, f2, f3, f4])) (hc : P.cellsOf e = 5)
    (o0 : f0.offset = 0) (o1 : f1.offset = 1) (o2 : f2.offset = 2) (o3 : f3.offset = 3) (o4 : f4.offset = 4) (k0 : P.cellsOf f0.type = 1) (k1 : P.cellsOf f1.type = 1) (k2 : P.cellsOf f2.type = 1) (k3 : P.cellsOf f3.type = 1) (k4 : P.cellsOf f4.type = 1)
    (t0 : P.underlying f0.type = some (.int .i64)) (t1 : P.underlying f1.type = some (.slice ei)) (t2 : P.underlying f2.type = some (.int .i64)) (t3 : P.underlying f3.type = some (.int .i64)) (t4 : P.underlying f4.type = some (.int .i64)) (ti : P.underlying ei = some (.int .i64)) (ki : P.cellsOf ei = 1)
    (hv : Value.okWide P W .any base t v) (h : DataW.Trod enc P W 0 (fun _ => true) true t v d p) :
    ∃ A m c rs, v = .slice A m c ∧ RRd W W.heap.size A m rs ∧ (∀ r ∈ rs, RuB r) ∧ m ≤ 9223372036854775807 := by
  obtain ⟨A, n, c, rfl⟩ := okWide_slice ht hv
  obtain ⟨fuel, hf⟩ := h
  refine ⟨A, n, c, ?_⟩
  rcases open_slice ht hf with ⟨hcs, _⟩ | ⟨a, len, cap, m, _, D, Pl, hcs, _, hl, hcap, hm, _, hi⟩
  · simp [Value.cells] at hcs
    obtain ⟨rfl, rfl, rfl⟩ := hcs
    exact ⟨[], rfl, RRd.nil_, (fun z hz => by cases hz), by omega⟩
  · simp [Value.cells] at hcs
    obtain ⟨rfl, rfl, rfl⟩ := hcs
    simp only [if_true] at hm
    subst hm
    have key : ∀ i, ∃ r : Ru, i < n → (∀ j, j < 5 → W.cell? (a.add (i * 5 + j)) = r.cells[j]?) ∧ Rd W W.heap.size 1 r.A r.n (ints r.ifs) ∧ RuB r := by
      intro i
      by_cases hlt : i < n
      · obtain ⟨cs', hcells, htr⟩ := hi i (by omega)
        rw [hc] at hcells
        obtain ⟨_, hlen, hat⟩ := World.cells?_some hcells
        obtain ⟨r, h1, h2, h3⟩ := rule_cells he hlen o0 o1 o2 o3 o4 k0 k1 k2 k3 k4 t0 t1 t2 t3 t4 ti ki htr
        refine ⟨r, fun _ => ⟨fun j hj => ?_, h2, h1⟩⟩
        have hadd := hat j hj
        rw [add_twice] at hadd
        exact hadd.trans (h3 j hj)
      · exact ⟨⟨0, 0, 0, 0, none, 0, 0, []⟩, fun h => absurd h hlt⟩
    obtain ⟨g, hg⟩ := Classical.axiomOfChoice key
    have hmem : ∀ r ∈ (List.range n).map g, ∃ i, i < n ∧ r = g i := fun r hr => by
      simp only [List.mem_map, List.mem_range] at hr
      obtain ⟨i, hi, rfl⟩ := hr
      exact ⟨i, hi, rfl⟩
    have hat : ∀ i, i < n → ((List.range n).map g)[i]? = some (g i) := fun i hi => by simp [hi]
    refine ⟨(List.range n).map g, rfl, ⟨⟨by rw [flat_length]; simp, fun hn => ⟨a, rfl, ?_, fun j u hu => ?_⟩⟩, fun r hr => ?_⟩, fun r hr => ?_, by unfold maxLen at hcap; omega⟩
    · have h0 := block_lt_of_cell (((hg 0 hn).1 0 (by omega)).trans (show (g 0).cells[0]? = some (.int .i64 (g 0).hd) from rfl))
      rwa [add_block] at h0
    · have hj : j < n * 5 := by
        have := (List.getElem?_eq_some_iff.1 hu).1
        rw [flat_length] at this; simpa using this
      have h1 := (hg (j / 5) (by omega)).1 (j % 5) (by omega)
      have h2 := flat_at (hat (j / 5) (by omega)) (j % 5) (by omega)
      have e : j / 5 * 5 + j % 5 = j := by omega
      rw [e] at h1 h2
      rw [h1, ← h2, hu]
    · obtain ⟨i, hi, rfl⟩ := hmem r hr
      exact (hg i hi).2.1
    · obtain ⟨i, hi, rfl⟩ := hmem r hr
      exact (hg i hi).2.2
end
end Go.Proofs.Ytmfglflahlddbaa
