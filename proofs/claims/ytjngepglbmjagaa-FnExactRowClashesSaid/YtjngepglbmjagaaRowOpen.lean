/-
  AN ARGUMENT THAT IS A SLICE OF ROWS, opened: a flat list of numbers, three to a row.
-/
import Derived.Test.YtjngepglbmjagaaRow
import Derived.Test.YtjngepglbmjagaaFrame
import Derived.Deep.Slices
import Derived.ChangeSame
namespace Go.Proofs.Ytjngepglbmjagaa
open Go.ChangeShapes Go.WideShapes Go.ChangeAt Go.RowKit Go.Deep
set_option linter.unusedVariables false

def sel3 (t : Int × Int × Int) (r : Nat) : Int := if r = 0 then t.1 else if r = 1 then t.2.1 else t.2.2
def flat3 (g : Nat → Int × Int × Int) (n : Nat) : List Int := (List.range (n * 3)).map fun j => sel3 (g (j / 3)) (j % 3)
theorem flat3_at (g : Nat → Int × Int × Int) (n j : Nat) (h : j < n * 3) : (flat3 g n)[j]? = some (sel3 (g (j / 3)) (j % 3)) := by simp [flat3, h]
section
variable {H : Type} {enc : TypeId × Value → H} {P : Program} {W : World}
/-- the one cell of a field -/
theorem field_int {base : Nat} {spare : Nat → Bool} {held : Bool} {n j : Nat} {t : TypeId} {cs : List Value} {y : DataW H × List MemPlace} (ht : P.underlying t = some (.int .i64)) (hj : j < cs.length)
    (h : DataW.trod enc P W base spare held n t ((cs.drop j).take 1) = some y) : ∃ z : Int, cs[j]? = some (.int .i64 z) ∧ (Lit.int .i64 z).wf = true := by
  obtain ⟨z, hz, _, hw⟩ := DataW.trod_int ht h
  refine ⟨z, ?_, hw⟩
  rw [List.drop_eq_getElem_cons hj] at hz
  have h2 : [cs[j]] = [Value.int .i64 z] := hz
  rw [List.getElem?_eq_getElem hj]
  injection h2 with h3
  rw [h3]
theorem open_rd_rows {t e : TypeId} {f0 f1 f2 : Field} {v : Value} {d : DataW H} {p : List MemPlace} {base : Nat} (ht : P.underlying t = some (.slice e)) (he : P.underlying e = some (.struct #[f0, f1, f2])) (hc : P.cellsOf e = 3)
    (o0 : f0.offset = 0) (o1 : f1.offset = 1) (o2 : f2.offset = 2) (k0 : P.cellsOf f0.type = 1) (k1 : P.cellsOf f1.type = 1) (k2 : P.cellsOf f2.type = 1)
    (t0 : P.underlying f0.type = some (.int .i64)) (t1 : P.underlying f1.type = some (.int .i64)) (t2 : P.underlying f2.type = some (.int .i64))
    (hv : Value.okWide P W .any base t v) (h : DataW.Trod enc P W 0 (fun _ => true) true t v d p) :
    ∃ A n c zs, v = .slice A n c ∧ Rd W W.heap.size 3 A n (ints zs) ∧ I64s zs ∧ n ≤ 9223372036854775807 := by
  obtain ⟨A, n, c, rfl⟩ := okWide_slice ht hv
  obtain ⟨fuel, hf⟩ := h
  refine ⟨A, n, c, ?_⟩
  rcases open_slice ht hf with ⟨hcs, _⟩ | ⟨a, len, cap, m, _, D, Pl, hcs, _, hl, hcap, hm, _, hi⟩
  · simp [Value.cells] at hcs
    obtain ⟨rfl, rfl, rfl⟩ := hcs
    exact ⟨[], rfl, Rd.nil_, (fun z hz => by cases hz), by omega⟩
  · simp [Value.cells] at hcs
    obtain ⟨rfl, rfl, rfl⟩ := hcs
    simp only [if_true] at hm
    subst hm
    have key : ∀ i, ∃ t : Int × Int × Int, i < m → ∀ r, r < 3 → W.cell? (a.add (i * 3 + r)) = some (.int .i64 (sel3 t r)) ∧ (-9223372036854775808 ≤ sel3 t r ∧ sel3 t r ≤ 9223372036854775807) := by
      intro i
      by_cases hlt : i < m
      · obtain ⟨cs', hcells, htr⟩ := hi i hlt
        rw [hc] at hcells
        obtain ⟨_, hlen, hat⟩ := World.cells?_some hcells
        obtain ⟨xs, n', _, _, _, hxl, hfs⟩ := DataW.trod_struct he htr
        have hx : ∀ j, j < 3 → ∃ y, xs[j]? = some y := fun j hj => ⟨_, List.getElem?_eq_getElem (by rw [hxl]; exact hj)⟩
        obtain ⟨y0, hy0⟩ := hx 0 (by omega)
        obtain ⟨y1, hy1⟩ := hx 1 (by omega)
        obtain ⟨y2, hy2⟩ := hx 2 (by omega)
        have g0 := hfs 0 f0 rfl
        have g1 := hfs 1 f1 rfl
        have g2 := hfs 2 f2 rfl
        rw [o0, k0, hy0] at g0
        rw [o1, k1, hy1] at g1
        rw [o2, k2, hy2] at g2
        obtain ⟨z0, e0, w0⟩ := field_int t0 (by omega) g0
        obtain ⟨z1, e1, w1⟩ := field_int t1 (by omega) g1
        obtain ⟨z2, e2, w2⟩ := field_int t2 (by omega) g2
        refine ⟨(z0, z1, z2), fun _ r hr => ?_⟩
        have hadd := hat r hr
        rw [add_twice] at hadd
        have : r = 0 ∨ r = 1 ∨ r = 2 := by omega
        rcases this with rfl | rfl | rfl
        · exact ⟨hadd.trans e0, i64_bounds w0⟩
        · exact ⟨hadd.trans e1, i64_bounds w1⟩
        · exact ⟨hadd.trans e2, i64_bounds w2⟩
      · exact ⟨(0, 0, 0), fun h => absurd h hlt⟩
    obtain ⟨g, hg⟩ := Classical.axiomOfChoice key
    refine ⟨flat3 g n, rfl, ⟨by simp [ints, flat3], fun hn => ⟨a, rfl, ?_, fun j u hu => ?_⟩⟩, fun z hz => ?_, by unfold maxLen at hcap; omega⟩
    · have h0 := block_lt_of_cell (hg 0 (by omega) 0 (by omega)).1
      rwa [add_block] at h0
    · rw [ints_at] at hu
      by_cases hj : j < n * 3
      · rw [flat3_at g n j hj] at hu
        have h1 := (hg (j / 3) (by omega) (j % 3) (by omega)).1
        have e : j / 3 * 3 + j % 3 = j := by omega
        rw [e] at h1
        rw [h1, ← hu]; rfl
      · rw [List.getElem?_eq_none (by simp [flat3]; omega)] at hu
        cases hu
    · simp only [flat3, List.mem_map, List.mem_range] at hz
      obtain ⟨j, hj, rfl⟩ := hz
      exact (hg (j / 3) (by omega) (j % 3) (by omega)).2
end
end Go.Proofs.Ytjngepglbmjagaa
