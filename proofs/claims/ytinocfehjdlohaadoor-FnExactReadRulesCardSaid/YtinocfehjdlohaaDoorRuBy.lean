/-
  A RULE BY VALUE: the law's test of its size, its opening, its box (parts of the text on AmendRule, for seats that lack that function).
-/
import Derived.Test.YtinocfehjdlohaaDoorRuAre
namespace Go.Proofs.YtinocfehjdlohaaDoor
open Go.ChangeShapes Go.WideShapes Go.ChangeAt Go.RowKit Go.Deep
set_option linter.unusedVariables false
set_option linter.unusedSimpArgs false

/-! ### a rule by value: the law's test of its size, its opening -/
theorem szRl_no {W0 : World} {B : Nat} (hd fr tt rk : Int) (A : Option Addr) (n c : Nat) (ifs : List Int) (k : Int) (w : World) (hr : Rd W0 B 1 A n (ints ifs)) (hk : 0 ≤ k ∧ k ≤ 1048576) (hb : RlB ⟨hd, ifs, fr, tt, rk⟩) (h : k < n) :
    Calls Tryd.prog 7 #[.agg #[.int .i64 hd, .slice A n c, .int .i64 fr, .int .i64 tt, .int .i64 rk], .int .i64 k] w fun e w' => e = .returned (.int .i64 (-1)) ∧ Below w.heap.size w w' :=
  (szRule_any hd fr tt rk A n c k w hk (by have := hr.ilen; have h2 : ifs.length ≤ 9223372036854775807 := hb.len; omega)).mono fun e w' ⟨he, hb⟩ => ⟨by rw [he, if_pos h], hb⟩
theorem szRl_yes {W0 : World} {B : Nat} (hd fr tt rk : Int) (A : Option Addr) (n c : Nat) (ifs : List Int) (k : Int) (w : World) (hr : Rd W0 B 1 A n (ints ifs)) (hk : 0 ≤ k ∧ k ≤ 1048576) (hb : RlB ⟨hd, ifs, fr, tt, rk⟩) (h : (n : Int) ≤ k) :
    Calls Tryd.prog 7 #[.agg #[.int .i64 hd, .slice A n c, .int .i64 fr, .int .i64 tt, .int .i64 rk], .int .i64 k] w fun e w' => ∃ l : Int, e = .returned (.int .i64 l) ∧ l = k - n ∧ (0 ≤ l ∧ l ≤ 1048576) ∧ Below w.heap.size w w' :=
  (szRule_any hd fr tt rk A n c k w hk (by have := hr.ilen; have h2 : ifs.length ≤ 9223372036854775807 := hb.len; omega)).mono fun e w' ⟨he, hb⟩ => ⟨_, by rw [he, if_neg (by omega)], rfl, by omega, hb⟩
section
variable {H : Type} {enc : TypeId × Value → H} {P : Program} {W : World}
theorem open_rl {t ei : TypeId} {f0 f1 f2 f3 f4 : Field} {v : Value} {d : DataW H} {p : List MemPlace} {base : Nat} (he : P.underlying t = some (.struct #[f0, f1, f2, f3, f4])) (hc : P.cellsOf t = 5)
    (o0 : f0.offset = 0) (o1 : f1.offset = 1) (o2 : f2.offset = 2) (o3 : f3.offset = 3) (o4 : f4.offset = 4) (k0 : P.cellsOf f0.type = 1) (k1 : P.cellsOf f1.type = 1) (k2 : P.cellsOf f2.type = 1) (k3 : P.cellsOf f3.type = 1) (k4 : P.cellsOf f4.type = 1)
    (t0 : P.underlying f0.type = some (.int .i64)) (t1 : P.underlying f1.type = some (.slice ei)) (t2 : P.underlying f2.type = some (.int .i64)) (t3 : P.underlying f3.type = some (.int .i64)) (t4 : P.underlying f4.type = some (.int .i64)) (ti : P.underlying ei = some (.int .i64)) (ki : P.cellsOf ei = 1)
    (hv : Value.okWide P W .any base t v) (h : DataW.Trod enc P W 0 (fun _ => true) true t v d p) :
    ∃ hd fr tt rk A n c ifs, v = .agg #[.int .i64 hd, .slice A n c, .int .i64 fr, .int .i64 tt, .int .i64 rk] ∧ Rd W W.heap.size 1 A n (ints ifs) ∧ RlB ⟨hd, ifs, fr, tt, rk⟩ := by
  obtain ⟨cs, rfl, hs⟩ := okWide_struct he hv
  obtain ⟨fuel, hf⟩ := h
  rw [hc] at hs
  have hf' : DataW.trod enc P W 0 (fun _ => true) true fuel t cs.toList = some (d, p) := hf
  obtain ⟨r, hb, hr, hj⟩ := rule_cells he (by simpa using hs) o0 o1 o2 o3 o4 k0 k1 k2 k3 k4 t0 t1 t2 t3 t4 ti ki hf'
  have e : cs.toList = r.cells := by
    refine List.ext_getElem? fun j => ?_
    by_cases h5 : j < 5
    · exact hj j h5
    · rw [List.getElem?_eq_none (by simp; omega), List.getElem?_eq_none (by rw [cells_length]; omega)]
  have e2 : cs = #[.int .i64 r.hd, .slice r.A r.n r.c, .int .i64 r.fr, .int .i64 r.tt, .int .i64 r.rk] := by
    apply Array.ext'
    rw [e]; rfl
  refine ⟨_, _, _, _, _, _, _, r.ifs, by rw [e2], hr, hb.hd, hb.fr, hb.tt, hb.rk, hb.ifs, ?_⟩
  have := hr.ilen
  have := hb.n
  show r.ifs.length ≤ _
  omega
end
theorem cell_new5 (w : World) (r : Ru) (t : TypeId) : ∀ j, j < 5 → (w.alloc (.cells #[.int .i64 r.hd, .slice r.A r.n r.c, .int .i64 r.fr, .int .i64 r.tt, .int .i64 r.rk] t)).cell? ⟨w.heap.size, j, none⟩ = r.cells[j]? := by
  intro j hj
  rw [World.cell?_alloc_at _ _ _ _ rfl]
  match j, hj with
  | 0, _ => rfl
  | 1, _ => rfl
  | 2, _ => rfl
  | 3, _ => rfl
  | 4, _ => rfl
/-! ### a rule in a block of its own -/
structure Box (w : World) (g : Nat) (r : Ru) : Prop where
  c0 : w.cell? ⟨g, 0, none⟩ = some (.int .i64 r.hd)
  c1 : w.cell? ⟨g, 1, none⟩ = some (.slice r.A r.n r.c)
  c2 : w.cell? ⟨g, 2, none⟩ = some (.int .i64 r.fr)
  c3 : w.cell? ⟨g, 3, none⟩ = some (.int .i64 r.tt)
  c4 : w.cell? ⟨g, 4, none⟩ = some (.int .i64 r.rk)
theorem Box.new (w : World) (r : Ru) (t : TypeId) : Box (w.alloc (.cells #[.int .i64 r.hd, .slice r.A r.n r.c, .int .i64 r.fr, .int .i64 r.tt, .int .i64 r.rk] t)) w.heap.size r :=
  ⟨cell_new5 w r t 0 (by omega), cell_new5 w r t 1 (by omega), cell_new5 w r t 2 (by omega), cell_new5 w r t 3 (by omega), cell_new5 w r t 4 (by omega)⟩
theorem Box.below {w w' : World} {g B : Nat} {r : Ru} (h : Box w g r) (hb : Below B w w') (hg : g < B) : Box w' g r :=
  ⟨(hb.cell (p := ⟨g, 0, none⟩) hg).trans h.c0, (hb.cell (p := ⟨g, 1, none⟩) hg).trans h.c1, (hb.cell (p := ⟨g, 2, none⟩) hg).trans h.c2, (hb.cell (p := ⟨g, 3, none⟩) hg).trans h.c3, (hb.cell (p := ⟨g, 4, none⟩) hg).trans h.c4⟩
theorem Box.set2 {w : World} {g : Nat} {r : Ru} (h : Box w g r) (z : Int) : Box (w.setCell ⟨g, 2, none⟩ (.int .i64 z)) g { r with fr := z } :=
  ⟨(World.cell?_setCell_other _ ⟨g, 2, none⟩ ⟨g, 0, none⟩ _ (by simp)).trans h.c0, (World.cell?_setCell_other _ ⟨g, 2, none⟩ ⟨g, 1, none⟩ _ (by simp)).trans h.c1, World.cell?_setCell_same _ _ _ h.c2, (World.cell?_setCell_other _ ⟨g, 2, none⟩ ⟨g, 3, none⟩ _ (by simp)).trans h.c3, (World.cell?_setCell_other _ ⟨g, 2, none⟩ ⟨g, 4, none⟩ _ (by simp)).trans h.c4⟩

theorem validRule_is {b : Bool} (hd fr tt rk : Int) (A : Option Addr) (n c : Nat) (ifs : List Int) (w : World) (hr : Rd w w.heap.size 1 A n (ints ifs)) (hn : n ≤ 1048576) (hz : I64s ifs) (h : validB ⟨hd, ifs, fr, tt, rk⟩ = b) :
    Calls Tryd.prog 29 #[.agg #[.int .i64 hd, .slice A n c, .int .i64 fr, .int .i64 tt, .int .i64 rk]] w fun e w' => e = .returned (.bool b) ∧ Below w.heap.size w w' := by
  subst h; exact validRule_any hd fr tt rk A n c ifs w hr hn hz
structure BoxF (w : World) (g : Nat) (r : Ru) : Prop where
  box : Box w g r
  fz : ∀ o, w.frozen? ⟨g, o, none⟩ = false
theorem BoxF.new (w : World) (r : Ru) (t : TypeId) : BoxF (w.alloc (.cells #[.int .i64 r.hd, .slice r.A r.n r.c, .int .i64 r.fr, .int .i64 r.tt, .int .i64 r.rk] t)) w.heap.size r := ⟨Box.new w r t, fun o => World.frozen?_alloc_at _ _ _ _ rfl⟩
theorem BoxF.below {w w' : World} {g B : Nat} {r : Ru} (h : BoxF w g r) (hb : Below B w w') (hg : g < B) : BoxF w' g r := ⟨h.box.below hb hg, fun o => (hb.frozen (p := ⟨g, o, none⟩) hg).trans (h.fz o)⟩
theorem BoxF.drewN {w : World} {g : Nat} {r : Ru} (h : BoxF w g r) (n : Nat) : BoxF (w.drewN n) g r := ⟨⟨h.box.c0, h.box.c1, h.box.c2, h.box.c3, h.box.c4⟩, h.fz⟩
theorem frozen_set (w : World) (b o : Nat) (u : Value) (x : Addr) : (w.setCell ⟨b, o, none⟩ u).frozen? x = w.frozen? x := by simp
theorem BoxF.set2 {w : World} {g : Nat} {r : Ru} (h : BoxF w g r) (z : Int) : BoxF (w.setCell ⟨g, 2, none⟩ (.int .i64 z)) g { r with fr := z } := ⟨h.box.set2 z, fun o => (frozen_set w g 2 _ _).trans (h.fz o)⟩
theorem BoxF.far {w : World} {g b o : Nat} {r : Ru} (h : BoxF w g r) (hne : b ≠ g) (u : Value) : BoxF (w.setCell ⟨b, o, none⟩ u) g r :=
  ⟨⟨(World.cell?_setCell_far w ⟨b, o, none⟩ ⟨g, 0, none⟩ u hne).trans h.box.c0, (World.cell?_setCell_far w ⟨b, o, none⟩ ⟨g, 1, none⟩ u hne).trans h.box.c1, (World.cell?_setCell_far w ⟨b, o, none⟩ ⟨g, 2, none⟩ u hne).trans h.box.c2, (World.cell?_setCell_far w ⟨b, o, none⟩ ⟨g, 3, none⟩ u hne).trans h.box.c3, (World.cell?_setCell_far w ⟨b, o, none⟩ ⟨g, 4, none⟩ u hne).trans h.box.c4⟩, fun q => (frozen_set w b o _ _).trans (h.fz q)⟩
theorem BoxF.only {w w' : World} {lo hi g : Nat} {r : Ru} (h : BoxF w g r) (ho : Only lo hi w w') (hg : g < w.heap.size) (hd : g < lo ∨ hi ≤ g) : BoxF w' g r := by
  have e := ho.block g hg (by omega)
  exact ⟨⟨(World.cell?_of_block (a := ⟨g, 0, none⟩) e).trans h.box.c0, (World.cell?_of_block (a := ⟨g, 1, none⟩) e).trans h.box.c1, (World.cell?_of_block (a := ⟨g, 2, none⟩) e).trans h.box.c2, (World.cell?_of_block (a := ⟨g, 3, none⟩) e).trans h.box.c3, (World.cell?_of_block (a := ⟨g, 4, none⟩) e).trans h.box.c4⟩, fun o => (World.frozen?_of_block (a := ⟨g, o, none⟩) e).trans (h.fz o)⟩
end Go.Proofs.YtinocfehjdlohaaDoor
