/-
  AmendRule: what the program's and the reference's functions return; a rule that comes in by value.
-/
import Derived.Test.YtkdiegplbloccaaRuEnd
namespace Go.Proofs.Ytkdiegplbloccaa
open Go.ChangeShapes Go.WideShapes Go.ChangeAt Go.RowKit Go.Deep
set_option linter.unusedVariables false
set_option linter.unusedSimpArgs false

/-! ### a rule by value: the law's test of its size, its opening -/
theorem szRl_no {W0 : World} {B : Nat} (hd fr tt rk : Int) (A : Option Addr) (n c : Nat) (ifs : List Int) (k : Int) (w : World) (hr : Rd W0 B 1 A n (ints ifs)) (hk : 0 ≤ k ∧ k ≤ 1048576) (hb : RlB ⟨hd, ifs, fr, tt, rk⟩) (h : k < n) :
    Calls Try.prog 49 #[.agg #[.int .i64 hd, .slice A n c, .int .i64 fr, .int .i64 tt, .int .i64 rk], .int .i64 k] w fun e w' => e = .returned (.int .i64 (-1)) ∧ Below w.heap.size w w' :=
  (szRule_any hd fr tt rk A n c k w hk (by have := hr.ilen; have h2 : ifs.length ≤ 9223372036854775807 := hb.len; omega)).mono fun e w' ⟨he, hb⟩ => ⟨by rw [he, if_pos h], hb⟩
theorem szRl_yes {W0 : World} {B : Nat} (hd fr tt rk : Int) (A : Option Addr) (n c : Nat) (ifs : List Int) (k : Int) (w : World) (hr : Rd W0 B 1 A n (ints ifs)) (hk : 0 ≤ k ∧ k ≤ 1048576) (hb : RlB ⟨hd, ifs, fr, tt, rk⟩) (h : (n : Int) ≤ k) :
    Calls Try.prog 49 #[.agg #[.int .i64 hd, .slice A n c, .int .i64 fr, .int .i64 tt, .int .i64 rk], .int .i64 k] w fun e w' => ∃ l : Int, e = .returned (.int .i64 l) ∧ l = k - n ∧ (0 ≤ l ∧ l ≤ 1048576) ∧ Below w.heap.size w w' :=
  (szRule_any hd fr tt rk A n c k w hk (by have := hr.ilen; have h2 : ifs.length ≤ 9223372036854775807 := hb.len; omega)).mono fun e w' ⟨he, hb⟩ => ⟨_, by rw [he, if_neg (by omega)], rfl, by omega, hb⟩
section
variable {H : Type} {enc : TypeId × Value → H} {P : Program} {W : World}
theorem open_rl {t ei : TypeId} {f0 f1 f2 f3 f4 : Field} {v : Value} {d : DataW H} {p : List MemPlace} {base : Nat} (he : P.underlying t = some (.struct #[f0, f1, f2, f3, f4])) (hc : P.cellsOf t = 5)
    (o0 : f0.offset = 0) (o1 : f1.offset = 1) (o2 : f2.offset = 2) (o3 : f3.offset = 3) (o4 : f4.offset = 4) (k0 : P.cellsOf f0.type = 1) (k1 : P.cellsOf f1.type = 1) (k2 : P.cellsOf f2.type = 1) (k3 : P.cellsOf f3.type = 1) (k4 : P.cellsOf f4.type = 1)
    (t0 : P.underlying f0.type = some (.int .i64)) (t1 : P.underlying f1.type = some (.slice ei)) (t2 : P.underlying f2.type = some (.int .i64)) (t3 : P.underlying f3.type = some (.int .i64)) (t4 : P.underlying f4.type = some (.int .i64)) (ti : P.underlying ei = some (.int .i64)) (ki : P.cellsOf ei = 1)
    (hv : Value.okWide P W .any base t v) (h : DataW.Trod enc P W 0 (fun _ => true) true t v d p) :
    ∃ hd fr tt rk A n c ifs, v = .agg #[.int .i64 hd, .slice A n c, .int .i64 fr, .int .i64 tt, .int .i64 rk] ∧ Rd W W.heap.size 1 A n (ints ifs) ∧ RlB ⟨hd, ifs, fr, tt, rk⟩ := by
  obtain ⟨cs, rfl, hs⟩ := okWide_struct he hv
  obtain ⟨fuel, hf⟩ := h
  rw [hc] at hs
  have hf' : DataW.trod enc P W 0 (fun _ => true) true fuel t cs.toList = some (d, p) := hf
  obtain ⟨r, hb, hr, hj⟩ := rule_cells he (by simpa using hs) o0 o1 o2 o3 o4 k0 k1 k2 k3 k4 t0 t1 t2 t3 t4 ti ki hf'
  have e : cs.toList = r.cells := by
    refine List.ext_getElem? fun j => ?_
    by_cases h5 : j < 5
    · exact hj j h5
    · rw [List.getElem?_eq_none (by simp; omega), List.getElem?_eq_none (by rw [cells_length]; omega)]
  have e2 : cs = #[.int .i64 r.hd, .slice r.A r.n r.c, .int .i64 r.fr, .int .i64 r.tt, .int .i64 r.rk] := by
    apply Array.ext'
    rw [e]; rfl
  refine ⟨_, _, _, _, _, _, _, r.ifs, by rw [e2], hr, hb.hd, hb.fr, hb.tt, hb.rk, hb.ifs, ?_⟩
  have := hr.ilen
  have := hb.n
  show r.ifs.length ≤ _
  omega
end
theorem cell_new5g (w : World) (r : Ru) (t : TypeId) {g : Nat} (hg : g = w.heap.size) : ∀ j, j < 5 → (w.alloc (.cells #[.int .i64 r.hd, .slice r.A r.n r.c, .int .i64 r.fr, .int .i64 r.tt, .int .i64 r.rk] t)).cell? ⟨g, j, none⟩ = r.cells[j]? := by
  subst hg; exact cell_new5 w r t
/-! ### a rule in a block of its own -/
structure Box (w : World) (g : Nat) (r : Ru) : Prop where
  c0 : w.cell? ⟨g, 0, none⟩ = some (.int .i64 r.hd)
  c1 : w.cell? ⟨g, 1, none⟩ = some (.slice r.A r.n r.c)
  c2 : w.cell? ⟨g, 2, none⟩ = some (.int .i64 r.fr)
  c3 : w.cell? ⟨g, 3, none⟩ = some (.int .i64 r.tt)
  c4 : w.cell? ⟨g, 4, none⟩ = some (.int .i64 r.rk)
theorem Box.new (w : World) (r : Ru) (t : TypeId) : Box (w.alloc (.cells #[.int .i64 r.hd, .slice r.A r.n r.c, .int .i64 r.fr, .int .i64 r.tt, .int .i64 r.rk] t)) w.heap.size r :=
  ⟨cell_new5 w r t 0 (by omega), cell_new5 w r t 1 (by omega), cell_new5 w r t 2 (by omega), cell_new5 w r t 3 (by omega), cell_new5 w r t 4 (by omega)⟩
theorem Box.below {w w' : World} {g B : Nat} {r : Ru} (h : Box w g r) (hb : Below B w w') (hg : g < B) : Box w' g r :=
  ⟨(hb.cell (p := ⟨g, 0, none⟩) hg).trans h.c0, (hb.cell (p := ⟨g, 1, none⟩) hg).trans h.c1, (hb.cell (p := ⟨g, 2, none⟩) hg).trans h.c2, (hb.cell (p := ⟨g, 3, none⟩) hg).trans h.c3, (hb.cell (p := ⟨g, 4, none⟩) hg).trans h.c4⟩
theorem Box.set2 {w : World} {g : Nat} {r : Ru} (h : Box w g r) (z : Int) : Box (w.setCell ⟨g, 2, none⟩ (.int .i64 z)) g { r with fr := z } :=
  ⟨(World.cell?_setCell_other _ ⟨g, 2, none⟩ ⟨g, 0, none⟩ _ (by simp)).trans h.c0, (World.cell?_setCell_other _ ⟨g, 2, none⟩ ⟨g, 1, none⟩ _ (by simp)).trans h.c1, World.cell?_setCell_same _ _ _ h.c2, (World.cell?_setCell_other _ ⟨g, 2, none⟩ ⟨g, 3, none⟩ _ (by simp)).trans h.c3, (World.cell?_setCell_other _ ⟨g, 2, none⟩ ⟨g, 4, none⟩ _ (by simp)).trans h.c4⟩

/-! ### what AmendRule answers -/
def amendOk (ds : List Rl) (i day : Int) (d : Rl) : Bool := endOk ds i day && (validB { d with fr := day } && !decide (ds.length = 24))
def AmendRule_r0 (ds : List Rl) (i day : Int) (d : Rl) : List Rl := if amendOk ds i day d then endedAt ds i day ++ [{ d with fr := day }] else []
def AmendRule_r1 (ds : List Rl) (i day : Int) (d : Rl) : Bool := amendOk ds i day d
theorem am_no {ds : List Rl} {i day : Int} {d : Rl} (h : amendOk ds i day d = false) : AmendRule_r0 ds i day d = [] ∧ AmendRule_r1 ds i day d = false := by simp [AmendRule_r0, AmendRule_r1, h]
theorem am_yes {ds : List Rl} {i day : Int} {d : Rl} (h : amendOk ds i day d = true) : AmendRule_r0 ds i day d = endedAt ds i day ++ [{ d with fr := day }] ∧ AmendRule_r1 ds i day d = true := by simp [AmendRule_r0, AmendRule_r1, h]
theorem AmendRule_size (ds : List Rl) (i day : Int) (d : Rl) : szD (AmendRule_r0 ds i day d) ≤ 175 := by
  unfold AmendRule_r0
  split
  · rename_i h
    have h0 := h
    unfold amendOk at h
    simp only [Bool.and_eq_true] at h
    obtain ⟨h1, h2, h3⟩ := h
    have h4 := RepealRule_size ds i day
    unfold RepealRule_r0 at h4
    rw [if_pos h1] at h4
    have h5 := valid_len h2
    unfold szD sumD at h4 ⊢
    rw [List.length_append, List.map_append, List.sum_append]
    simp only [List.map_cons, List.map_nil, List.sum_cons, List.sum_nil, List.length_singleton]
    have h6 : ({ d with fr := day } : Rl).ifs.length = d.ifs.length := rfl
    omega
  · simp [szD, sumD]
/-- the ended list is valid -/
theorem ended_valid {ds : List Rl} {i day : Int} (h : endOk ds i day = true) : (endedAt ds i day).all validB = true := by
  obtain ⟨h1, h2, h3⟩ := endOk_rules h
  have hall := rules_all h1
  have hv := hall _ (at_mem h3)
  unfold endOk at h
  simp only [Bool.and_eq_true, decide_eq_true_eq] at h
  obtain ⟨_, _, _, h4, h5⟩ := h
  rw [List.all_eq_true]
  intro e he
  unfold endedAt at he
  rcases List.mem_or_eq_of_mem_set he with h6 | h6
  · exact hall e h6
  · rw [h6]
    unfold validB at hv ⊢
    simp only [Bool.and_eq_true, decide_eq_true_eq, inB_iff] at hv ⊢
    refine ⟨hv.1, hv.2.1, hv.2.2.1, ?_, ?_, hv.2.2.2.2.2⟩ <;> omega
theorem rules_snoc {xs : List Rl} {d : Rl} (h : xs.all validB = true) (hl : xs.length ≤ 24) : rulesB (xs ++ [d]) = (validB d && !decide (xs.length = 24)) := by
  unfold rulesB
  rw [List.all_append, h, List.length_append, List.length_singleton]
  by_cases h2 : xs.length = 24
  · simp [h2]
  · have : xs.length + 1 ≤ 24 := by omega
    simp [h2, this]
theorem validRule_is {b : Bool} (hd fr tt rk : Int) (A : Option Addr) (n c : Nat) (ifs : List Int) (w : World) (hr : Rd w w.heap.size 1 A n (ints ifs)) (hn : n ≤ 1048576) (hz : I64s ifs) (h : validB ⟨hd, ifs, fr, tt, rk⟩ = b) :
    Calls Try.prog 80 #[.agg #[.int .i64 hd, .slice A n c, .int .i64 fr, .int .i64 tt, .int .i64 rk]] w fun e w' => e = .returned (.bool b) ∧ Below w.heap.size w w' := by
  subst h; exact validRule_any hd fr tt rk A n c ifs w hr hn hz
theorem ended_len (ds : List Rl) (i day : Int) : (endedAt ds i day).length = ds.length := by unfold endedAt; rw [List.length_set]
theorem OwnRs.far {w : World} {lo m : Nat} {v : Value} {rs : List Ru} (h : OwnRs w lo v m rs) {p : Addr} (hp : p.block < lo) (u : Value) : OwnRs (w.setCell p u) lo v m rs :=
  ⟨own_far h.outer hp u, fun r hr => own_far (h.inner r hr) hp u, h.apart⟩
set_option maxHeartbeats 3200000 in
theorem impl_AmendRule (A : Option Addr) (m c : Nat) (ds : List Rl) (i day : Int) (hd fr tt rk : Int) (A2 : Option Addr) (n c2 : Nat) (ifs : List Int) (w : World) (hr : RsRd w w.heap.size A m ds) (hz : szD ds ≤ 1048576) (hb : ∀ d ∈ ds, RlB d) (bi : -9223372036854775808 ≤ i ∧ i ≤ 9223372036854775807) (bd : -9223372036854775808 ≤ day ∧ day ≤ 9223372036854775807)
    (hs : Rd w w.heap.size 1 A2 n (ints ifs)) (hn : n ≤ 1048576) (hb2 : RlB ⟨hd, ifs, fr, tt, rk⟩) :
    Calls Try.prog 52 #[.slice A m c, .int .i64 i, .int .i64 day, .agg #[.int .i64 hd, .slice A2 n c2, .int .i64 fr, .int .i64 tt, .int .i64 rk]] w (RsEnds w (AmendRule_r0 ds i day ⟨hd, ifs, fr, tt, rk⟩) (AmendRule_r1 ds i day ⟨hd, ifs, fr, tt, rk⟩)) := by
  have HL := Lib.hid hr.len
  have hm := sz_len hz hr.len
  have HR := Lib.hid hr
  have HZ := Lib.hid hz
  have HRB := Lib.hid hb
  have HS := Lib.hid hs
  have HI := Lib.hid (show I64s ifs from hb2.ifs)
  clear hb hz hr hs hb2
  have HX := Lib.hid ((Below.refl w.heap.size w).alloc (Nat.le_refl _) (.cells #[.int .i64 hd, .slice A2 n c2, .int .i64 fr, .int .i64 tt, .int .i64 rk] tR))
  cases h1 : endOk ds i day
  case false =>
    have hfin := Lib.hid (am_no (ds := ds) (i := i) (day := day) (d := ⟨hd, ifs, fr, tt, rk⟩) (by unfold amendOk; rw [h1]; rfl))
    have hrr := Lib.hid (rr_no h1)
    go_enter Try.func52, Try.ntmps52
    go_wp2_with fail
    refine (ended_any _ _ _ ds i day _ (HR.out.on HX.out) HZ.out HRB.out bi bd).mono ?_
    rintro e w1 ⟨v, rfl, ho, hb1⟩
    rw [hrr.out.2]
    obtain ⟨A3, c3, rfl⟩ := ho.form
    have hbx := (Box.new w ⟨hd, fr, tt, rk, A2, n, c2, ifs⟩ tR).below hb1 (by simp)
    have HB := Lib.hid (HX.out.trans (hb1.mono (by simp)))
    obtain ⟨_, hf⟩ := bcell hb1
    have hz2 : w.heap.size < w1.heap.size := by have := hb1.size; simp at this; omega
    obtain ⟨k0, k1, k2, k3, k4⟩ := hbx
    dsimp only at k0 k1 k2 k3 k4
    clear hb1 ho
    go_wp2_with fail
    go_ret2
    rw [hfin.out.1, hfin.out.2]
    exact rs_no (Below.setCell HB.out (p := ⟨w.heap.size, 2, none⟩) (Nat.le_refl _) _)
  have hrr := Lib.hid (rr_yes h1)
  cases h2 : validB ⟨hd, ifs, day, tt, rk⟩
  case false =>
    have hfin := Lib.hid (am_no (ds := ds) (i := i) (day := day) (d := ⟨hd, ifs, fr, tt, rk⟩) (by unfold amendOk; rw [show validB { (⟨hd, ifs, fr, tt, rk⟩ : Rl) with fr := day } = false from h2]; simp))
    go_enter Try.func52, Try.ntmps52
    go_wp2_with fail
    refine (ended_any _ _ _ ds i day _ (HR.out.on HX.out) HZ.out HRB.out bi bd).mono ?_
    rintro e w1 ⟨v, rfl, ho, hb1⟩
    rw [hrr.out.2]
    obtain ⟨A3, c3, rfl⟩ := ho.form
    have hbx := (Box.new w ⟨hd, fr, tt, rk, A2, n, c2, ifs⟩ tR).below hb1 (by simp)
    have HB := Lib.hid (Below.setCell (HX.out.trans (hb1.mono (by simp))) (p := ⟨w.heap.size, 2, none⟩) (Nat.le_refl _) (.int .i64 day))
    obtain ⟨_, hf⟩ := bcell hb1
    have hz2 : w.heap.size < w1.heap.size := by have := hb1.size; simp at this; omega
    obtain ⟨k0, k1, k2, k3, k4⟩ := hbx
    dsimp only at k0 k1 k2 k3 k4
    clear hb1 ho
    go_wp2_with (go_at_call 80; refine (validRule_is hd day tt rk A2 n c2 ifs _ ((HS.out.below HB.out).more HB.out.size) hn HI.out h2).mono ?_; rintro e w2 ⟨rfl, hb3⟩)
    go_ret2
    rw [hfin.out.1, hfin.out.2]
    exact rs_no (below_step HB.out hb3)
  by_cases h24 : m = 24
  case pos =>
    have hfin := Lib.hid (am_no (ds := ds) (i := i) (day := day) (d := ⟨hd, ifs, fr, tt, rk⟩) (by unfold amendOk; rw [show validB { (⟨hd, ifs, fr, tt, rk⟩ : Rl) with fr := day } = true from h2, h1, HL.out]; simp [h24]))
    have H24 := Lib.hid (show ((m : Int) == 24) = true by simp; omega)
    have H25 := Lib.hid h24
    clear h24
    go_enter Try.func52, Try.ntmps52
    go_wp2_with fail
    refine (ended_any _ _ _ ds i day _ (HR.out.on HX.out) HZ.out HRB.out bi bd).mono ?_
    rintro e w1 ⟨v, rfl, ho, hb1⟩
    rw [hrr.out.2]
    rw [hrr.out.1, ended_len, HL.out] at ho
    obtain ⟨A3, c3, rfl⟩ := ho.form
    have hbx := (Box.new w ⟨hd, fr, tt, rk, A2, n, c2, ifs⟩ tR).below hb1 (by simp)
    have HBX := Lib.hid (hbx.set2 day)
    have HB := Lib.hid (Below.setCell (HX.out.trans (hb1.mono (by simp))) (p := ⟨w.heap.size, 2, none⟩) (Nat.le_refl _) (.int .i64 day))
    obtain ⟨_, hf⟩ := bcell hb1
    have hz2 : w.heap.size < w1.heap.size := by have := hb1.size; simp at this; omega
    obtain ⟨k0, k1, k2, k3, k4⟩ := hbx
    dsimp only at k0 k1 k2 k3 k4
    have HO := Lib.hid ho
    clear hb1 ho
    have h24 := H24.out
    have h25 := H25.out
    go_wp2_with (go_at_call 80; refine (validRule_is hd day tt rk A2 n c2 ifs _ ((HS.out.below HB.out).more HB.out.size) hn HI.out h2).mono ?_; rintro e w2 ⟨rfl, hb3⟩)
    go_ret2
    rw [hfin.out.1, hfin.out.2]
    exact rs_no (below_step HB.out hb3)
  case neg =>
    have hfin := Lib.hid (am_yes (ds := ds) (i := i) (day := day) (d := ⟨hd, ifs, fr, tt, rk⟩) (by unfold amendOk; rw [show validB { (⟨hd, ifs, fr, tt, rk⟩ : Rl) with fr := day } = true from h2, h1, HL.out]; simp [h24]))
    have H24 := Lib.hid (show ((m : Int) == 24) = false by simp; omega)
    have H25 := Lib.hid h24
    clear h24
    go_enter Try.func52, Try.ntmps52
    go_wp2_with fail
    refine (ended_any _ _ _ ds i day _ (HR.out.on HX.out) HZ.out HRB.out bi bd).mono ?_
    rintro e w1 ⟨v, rfl, ho, hb1⟩
    rw [hrr.out.2]
    rw [hrr.out.1, ended_len, HL.out] at ho
    obtain ⟨A3, c3, rfl⟩ := ho.form
    have hbx := (Box.new w ⟨hd, fr, tt, rk, A2, n, c2, ifs⟩ tR).below hb1 (by simp)
    have HBX := Lib.hid (hbx.set2 day)
    have HB := Lib.hid (Below.setCell (HX.out.trans (hb1.mono (by simp))) (p := ⟨w.heap.size, 2, none⟩) (Nat.le_refl _) (.int .i64 day))
    obtain ⟨_, hf⟩ := bcell hb1
    have hz2 : w.heap.size < w1.heap.size := by have := hb1.size; simp at this; omega
    obtain ⟨k0, k1, k2, k3, k4⟩ := hbx
    dsimp only at k0 k1 k2 k3 k4
    have HO := Lib.hid ho
    clear hb1 ho
    have h24 := H24.out
    have h25 := H25.out
    go_wp2_with (
      go_at_call 80
      refine (validRule_is hd day tt rk A2 n c2 ifs _ ((HS.out.below HB.out).more HB.out.size) hn HI.out h2).mono ?_
      rintro e w2 ⟨rfl, hb3⟩
      obtain ⟨j0, j1, j2, j3, j4⟩ := HBX.out.below hb3 (by simpa using hz2)
      dsimp only at j0 j1 j2 j3 j4
      have HB3 := Lib.hid hb3
      clear hb3 k0 k1 k2 k3 k4 hf
      go_wp2_with fail)
    have HB2 := Lib.hid (below_step HB.out HB3.out)
    obtain ⟨rs', o1, oi, od⟩ := HO.out
    have HO2 := Lib.hid (((o1.far (p := ⟨w.heap.size, 2, none⟩) (by simp) (.int .i64 day)).on HB3.out))
    have HOD := Lib.hid od
    clear o1 oi od
    refine (cloneRule_any hd day tt rk A2 n c2 ifs _ ((HS.out.below HB2.out).more HB2.out.size) hn).mono ?_
    rintro e w3 ⟨A4, c4, rfl, ho4, hb4⟩
    have HB4 := Lib.hid (below_step HB2.out hb4)
    have HO3 := Lib.hid ((HO2.out.on hb4).base (lo' := w.heap.size) (by simp))
    have HI3 := Lib.hid ho4
    clear ho4 hb4
    go_wp2_with (at_builtin; refine append_rule rfl (.tmp 33) (.tmp 36) rfl w _ m rs' rfl (HO3.out.allocd _) (HB4.out.alloc HB4.out.size _) w3.heap.size _ ⟨hd, day, tt, rk, A4, n, c4, ifs⟩ rfl (cell_new5 _ ⟨hd, day, tt, rk, A4, n, c4, ifs⟩ _) (by omega) (World.ownsRow.alloc HI3.out _) HB2.out.size (fun a ha g hg => HO2.out.inR.2 a ha g hg) ?_; intro v' w' ho5 hb5)
    go_ret2
    rw [hfin.out.1, hfin.out.2]
    exact rs_yes ho5 (by rw [List.map_append, HOD.out]; rfl) hb5
/-- a rule in a block of its own that can be written -/
structure BoxF (w : World) (g : Nat) (r : Ru) : Prop where
  box : Box w g r
  fz : ∀ o, w.frozen? ⟨g, o, none⟩ = false
theorem BoxF.new (w : World) (r : Ru) (t : TypeId) : BoxF (w.alloc (.cells #[.int .i64 r.hd, .slice r.A r.n r.c, .int .i64 r.fr, .int .i64 r.tt, .int .i64 r.rk] t)) w.heap.size r := ⟨Box.new w r t, fun o => World.frozen?_alloc_at _ _ _ _ rfl⟩
theorem BoxF.below {w w' : World} {g B : Nat} {r : Ru} (h : BoxF w g r) (hb : Below B w w') (hg : g < B) : BoxF w' g r := ⟨h.box.below hb hg, fun o => (hb.frozen (p := ⟨g, o, none⟩) hg).trans (h.fz o)⟩
theorem BoxF.drewN {w : World} {g : Nat} {r : Ru} (h : BoxF w g r) (n : Nat) : BoxF (w.drewN n) g r := ⟨⟨h.box.c0, h.box.c1, h.box.c2, h.box.c3, h.box.c4⟩, h.fz⟩
theorem frozen_set (w : World) (b o : Nat) (u : Value) (x : Addr) : (w.setCell ⟨b, o, none⟩ u).frozen? x = w.frozen? x := by simp
theorem BoxF.set2 {w : World} {g : Nat} {r : Ru} (h : BoxF w g r) (z : Int) : BoxF (w.setCell ⟨g, 2, none⟩ (.int .i64 z)) g { r with fr := z } := ⟨h.box.set2 z, fun o => (frozen_set w g 2 _ _).trans (h.fz o)⟩
theorem BoxF.far {w : World} {g b o : Nat} {r : Ru} (h : BoxF w g r) (hne : b ≠ g) (u : Value) : BoxF (w.setCell ⟨b, o, none⟩ u) g r :=
  ⟨⟨(World.cell?_setCell_far w ⟨b, o, none⟩ ⟨g, 0, none⟩ u hne).trans h.box.c0, (World.cell?_setCell_far w ⟨b, o, none⟩ ⟨g, 1, none⟩ u hne).trans h.box.c1, (World.cell?_setCell_far w ⟨b, o, none⟩ ⟨g, 2, none⟩ u hne).trans h.box.c2, (World.cell?_setCell_far w ⟨b, o, none⟩ ⟨g, 3, none⟩ u hne).trans h.box.c3, (World.cell?_setCell_far w ⟨b, o, none⟩ ⟨g, 4, none⟩ u hne).trans h.box.c4⟩, fun q => (frozen_set w b o _ _).trans (h.fz q)⟩
theorem BoxF.only {w w' : World} {lo hi g : Nat} {r : Ru} (h : BoxF w g r) (ho : Only lo hi w w') (hg : g < w.heap.size) (hd : g < lo ∨ hi ≤ g) : BoxF w' g r := by
  have e := ho.block g hg (by omega)
  exact ⟨⟨(World.cell?_of_block (a := ⟨g, 0, none⟩) e).trans h.box.c0, (World.cell?_of_block (a := ⟨g, 1, none⟩) e).trans h.box.c1, (World.cell?_of_block (a := ⟨g, 2, none⟩) e).trans h.box.c2, (World.cell?_of_block (a := ⟨g, 3, none⟩) e).trans h.box.c3, (World.cell?_of_block (a := ⟨g, 4, none⟩) e).trans h.box.c4⟩, fun o => (World.frozen?_of_block (a := ⟨g, o, none⟩) e).trans (h.fz o)⟩
theorem ended_mem {ds : List Rl} {i day : Int} (h : endOk ds i day = true) : ∀ d ∈ endedAt ds i day, ∃ e ∈ ds, d.ifs = e.ifs := by
  obtain ⟨_, _, h3⟩ := endOk_rules h
  intro d hd
  unfold endedAt at hd
  rcases List.mem_or_eq_of_mem_set hd with h6 | h6
  · exact ⟨d, h6, rfl⟩
  · exact ⟨_, at_mem h3, by rw [h6]⟩
set_option maxHeartbeats 3200000 in
theorem spec_AmendRule (A : Option Addr) (m c : Nat) (ds : List Rl) (i day : Int) (hd fr tt rk : Int) (A2 : Option Addr) (n c2 : Nat) (ifs : List Int) (w : World) (hr : RsRd w w.heap.size A m ds) (hz : szD ds ≤ 1048576) (hb : ∀ d ∈ ds, RlB d) (bi : -9223372036854775808 ≤ i ∧ i ≤ 9223372036854775807) (bd : -9223372036854775808 ≤ day ∧ day ≤ 9223372036854775807)
    (hs : Rd w w.heap.size 1 A2 n (ints ifs)) (hn : n ≤ 1048576) (hb2 : RlB ⟨hd, ifs, fr, tt, rk⟩) :
    Calls Try.prog 50 #[.slice A m c, .int .i64 i, .int .i64 day, .agg #[.int .i64 hd, .slice A2 n c2, .int .i64 fr, .int .i64 tt, .int .i64 rk]] w (RsEnds w (AmendRule_r0 ds i day ⟨hd, ifs, fr, tt, rk⟩) (AmendRule_r1 ds i day ⟨hd, ifs, fr, tt, rk⟩)) := by
  have HL := Lib.hid hr.len
  have hm := sz_len hz hr.len
  have HR := Lib.hid hr
  have HZ := Lib.hid hz
  have HRB := Lib.hid hb
  have HS := Lib.hid hs
  have HSL := Lib.hid hs.ilen
  have HI := Lib.hid (show I64s ifs from hb2.ifs)
  clear hb hz hr hs hb2
  have HX := Lib.hid ((Below.refl w.heap.size w).alloc (Nat.le_refl _) (.cells #[.int .i64 hd, .slice A2 n c2, .int .i64 fr, .int .i64 tt, .int .i64 rk] tR))
  cases h1 : endOk ds i day
  case false =>
    have hfin := Lib.hid (am_no (ds := ds) (i := i) (day := day) (d := ⟨hd, ifs, fr, tt, rk⟩) (by unfold amendOk; rw [h1]; rfl))
    go_enter Try.func50, Try.ntmps50
    go_wp2_with fail
    refine (l05Ends_is _ _ _ ds i day _ (HR.out.on HX.out) HZ.out HRB.out bi bd h1).mono ?_
    rintro e w1 ⟨rfl, j, rfl⟩
    go_wp2_with fail
    go_ret2
    rw [hfin.out.1, hfin.out.2]
    exact rs_no (below_drewN HX.out j)
  obtain ⟨hrul, hd2, hi2⟩ := endOk_rules h1
  have HV := Lib.hid (rules_snoc (d := ⟨hd, ifs, day, tt, rk⟩) (ended_valid h1) (by rw [ended_len]; exact rules_len hrul))
  have HMEM := Lib.hid (show ∀ d ∈ endedAt ds i day ++ [(⟨hd, ifs, day, tt, rk⟩ : Rl)], d.ifs.length ≤ 1048576 ∧ I64s d.ifs from fun d hd' => by
    rcases List.mem_append.1 hd' with h | h
    · obtain ⟨e, he, e2⟩ := ended_mem h1 d h
      rw [e2]
      have h5 := valid_len (rules_all hrul e he)
      exact ⟨by omega, (HRB.out e he).ifs⟩
    · rw [List.mem_singleton.1 h]
      exact ⟨by show ifs.length ≤ _; have := HSL.out; omega, HI.out⟩)
  have HEND := Lib.hid (ended_len ds i day)
  rw [HL.out] at hi2
  obtain ⟨k, rfl⟩ := Int.eq_ofNat_of_zero_le hi2.1
  have hk : k < m := by omega
  have hk' : (0 : Int) ≤ k := by omega
  have hlt' : (k : Int) < m := by omega
  have HH1 := Lib.hid h1
  have hm24 : m ≤ 24 := by have := rules_len hrul; rwa [HL.out] at this
  clear hrul
  go_enter Try.func50, Try.ntmps50
  go_wp2_with fail
  refine (l05Ends_is _ _ _ ds (k : Int) day _ (HR.out.on HX.out) HZ.out HRB.out bi bd h1).mono ?_
  rintro e w0 ⟨rfl, hw0⟩
  have hbx : BoxF w0 w.heap.size ⟨hd, fr, tt, rk, A2, n, c2, ifs⟩ := by obtain ⟨j, rfl⟩ := hw0; exact (BoxF.new w ⟨hd, fr, tt, rk, A2, n, c2, ifs⟩ tR).drewN j
  have hB : Below w.heap.size w w0 := by obtain ⟨j, rfl⟩ := hw0; exact below_drewN HX.out j
  have hz2 : w.heap.size < w0.heap.size := by obtain ⟨j, rfl⟩ := hw0; simp
  have HBX := Lib.hid (hbx.set2 day)
  have HB := Lib.hid (Below.setCell hB (p := ⟨w.heap.size, 2, none⟩) (Nat.le_refl _) (.int .i64 day))
  have HR1 := Lib.hid (HR.out.on HB.out)
  obtain ⟨⟨k0, k1, k2, k3, k4⟩, fz⟩ := hbx
  dsimp only at k0 k1 k2 k3 k4
  have fz2 := fz 2
  clear hw0 hB fz
  go_wp2_with fail
  refine (l05OwnRules_any _ _ _ ds _ HR1.out HZ.out HRB.out).mono ?_
  rintro e w2 ⟨v, rs', rfl, ho, hdat, hb3⟩
  have hlo : w.heap.size < (w0.setCell ⟨w.heap.size, 2, none⟩ (.int .i64 day)).heap.size := by rw [World.size_setCell]; exact hz2
  have HB3 := Lib.hid (below_step HB.out hb3)
  obtain ⟨A', c', rfl⟩ := ho.form
  obtain ⟨g, rfl⟩ := own_head ho.outer (by omega)
  have hlen := ho.len
  have hrk : rs'[k]? = some rs'[k] := List.getElem?_eq_getElem (by omega)
  obtain ⟨r', hr'⟩ : ∃ r', r' = rs'[k] := ⟨_, rfl⟩
  rw [← hr'] at hrk
  have hst := ho.store (f := 3) (r' := { r' with tt := day - 1 }) (u := .int .i64 (day - 1)) hrk (by omega) rfl rfl rfl rfl
  obtain ⟨v3, hv3⟩ := own_cellN ho.outer (k := k * 5 + 3) (by omega)
  have hf3 := ho.outer.frozenAt (k * 5 + 3)
  have hgg := (own_blockN ho.outer).1
  have hne : g ≠ w.heap.size := by omega
  have hbx2 := (HBX.out.below hb3 hlo).far (o := k * 5 + 3) hne (.int .i64 (day - 1))
  have HBX2 := Lib.hid hbx2
  obtain ⟨⟨x0, x1, x2, x3, x4⟩, _⟩ := hbx2
  dsimp only at x0 x1 x2 x3 x4
  have HS1 := Lib.hid hst.1
  have HS2 := Lib.hid (below_grown HB3.out hst.2 (fun x hx => by cases hx; omega))
  have hz3 : w.heap.size < w2.heap.size := by have := hb3.size; omega
  have hdr := dat_at hrk
  rw [hdat] at hdr
  have HE := Lib.hid (show (rs'.set k { r' with tt := day - 1 }).map Ru.dat = endedAt ds (k : Int) day by
    rw [List.map_set, hdat]
    unfold endedAt atI
    rw [Int.toNat_natCast, hdr]; rfl)
  have HLO := Lib.hid hlo
  clear hst hdat hlen hr' hrk hdr ho hb3 k0 k1 k2 k3 k4 fz2 hlo hgg
  go_wp2_with (
    at_builtin
    refine append_intsA rfl (.tmp 26) (.tmp 28) rfl (w2.setCell ⟨g, k * 5 + 3, none⟩ (.int .i64 (day - 1))) (.slice (some ⟨w2.heap.size, 0, none⟩) 0 0) 0 [] rfl (own_empty2 _ _ (by simp)) ((Below.refl _ _).alloc (Nat.le_refl _) _) A2 n c2 ifs rfl (B := w.heap.size) ((HS.out.below HS2.out).alloc HS2.out.size _) (by omega) ?_
    intro v1 w4 h1 h2
    obtain ⟨A4, c4, hv4, _⟩ := own_form h1
    subst hv4
    simp only [Nat.zero_add, List.nil_append] at h1
    have b4 := HBX2.out.below h2 (by simpa using hz3)
    obtain ⟨⟨y0, y1, y2, y3, y4⟩, fy⟩ := b4
    dsimp only at y0 y1 y2 y3 y4
    have fy1 := fy 1
    have hz4 : w.heap.size < w4.heap.size := by have := h2.size; simp at this; omega
    have HO3 := Lib.hid HS1.out.inR
    have HO4 := Lib.hid (((HS1.out.on h2).far (p := ⟨w.heap.size, 1, none⟩) HLO.out (.slice A4 n c4)).base (lo' := w.heap.size) (Nat.le_of_lt HLO.out))
    have HW4 := Lib.hid (Below.setCell (below_step HS2.out h2) (p := ⟨w.heap.size, 1, none⟩) (Nat.le_refl _) (.slice A4 n c4))
    have HI4 := Lib.hid (own_far h1 (p := ⟨w.heap.size, 1, none⟩) (by simpa using hz3) (.slice A4 n c4))
    clear h1 h2 fy
    go_wp2_with (at_builtin; go_loud (refine append_rule rfl (.tmp 31) (.tmp 33) rfl w _ m _ rfl (HO4.out.allocd _) (HW4.out.alloc HW4.out.size _) w4.heap.size _ ⟨hd, day, tt, rk, A4, n, c4, ifs⟩ rfl (cell_new5g _ ⟨hd, day, tt, rk, A4, n, c4, ifs⟩ _ (by simp)) (by omega) (World.ownsRow.alloc HI4.out _) HS2.out.size (fun a ha g hg => HO3.out.2 a ha g hg) ?_; intro v' w5 ho5 hb5)))
  obtain ⟨A5, c5, rfl⟩ := ho5.form
  have hdd : (rs'.set k { r' with tt := day - 1 } ++ [(⟨hd, day, tt, rk, A4, n, c4, ifs⟩ : Ru)]).map Ru.dat = endedAt ds (k : Int) day ++ [(⟨hd, ifs, day, tt, rk⟩ : Rl)] := by rw [List.map_append, HE.out]; rfl
  refine (l05Rules_any _ _ _ _ _ ho5.rrd (by omega) (fun r hr => by
    have h5 := ho5.nlen r hr
    have h6 := HMEM.out r.dat (by rw [← hdd]; exact List.mem_map_of_mem hr)
    have h7 : r.dat.ifs = r.ifs := rfl
    rw [h7] at h6
    exact ⟨by omega, h6.2⟩)).mono ?_
  rintro e w6 ⟨rfl, j6, rfl⟩
  rw [hdd, HV.out]
  have hb6 := below_drewN hb5 j6
  cases h2 : (validB ⟨hd, ifs, day, tt, rk⟩ && !decide ((endedAt ds (k : Int) day).length = 24))
  · have hfin := Lib.hid (am_no (ds := ds) (i := (k : Int)) (day := day) (d := ⟨hd, ifs, fr, tt, rk⟩) (by unfold amendOk; rw [HH1.out]; rw [HEND.out] at h2; exact h2))
    go_wp2_with fail
    go_ret2
    rw [hfin.out.1, hfin.out.2]
    exact rs_no hb6
  · have hfin := Lib.hid (am_yes (ds := ds) (i := (k : Int)) (day := day) (d := ⟨hd, ifs, fr, tt, rk⟩) (by unfold amendOk; rw [HH1.out]; rw [HEND.out] at h2; exact h2))
    go_wp2_with fail
    go_ret2
    rw [hfin.out.1, hfin.out.2]
    exact rs_yes (ho5.on (below_drewN (Below.refl _ _) j6)) hdd hb6
end Go.Proofs.Ytkdiegplbloccaa
