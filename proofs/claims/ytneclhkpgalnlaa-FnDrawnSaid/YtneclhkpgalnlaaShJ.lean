/-
  shared: from its entry to its first loop.
-/
import Derived.Test.YtneclhkpgalnlaaShK
import Derived.Test.YtneclhkpgalnlaaLawI
import Derived.Conc.SmallLaws
import Derived.BigRegion
import Derived.RegionTactic
namespace Go.Proofs.Ytneclhkpgalnlaa
open Go.ChangeShapes Go.WideShapes Go.ChangeAt Go.RowKit Sm Go.Conc
set_option linter.unusedVariables false
theorem mk0 (w : World) : (Instr.makeChan 47 (.int .i64 0)).run Try.prog w = .ok (.chan (some w.heap.size)) (w.alloc (.chan 0 #[] false 0 0 false)) := by
  have h : (Try.prog.info? 4).map (·.bytes) = some 1 := by kernel_rfl
  obtain ⟨i, hi, hb⟩ := Option.map_eq_some_iff.1 h
  simpa using run_makeChan (P := Try.prog) (w := w) Try.underlying47 hi .i64 0 (by omega) (by rw [hb]; omega)

def preB (ops : Array Oper) (i j : Nat) : Bool := match ops[i]? with | some o => o.after.any fun e => Region.binds .any e && (e.on == j) | none => false
theorem pre_of {ops : Array Oper} {i j : Nat} {listed : Array Bool} (hc : preB ops i j = true) (h : ∃ o, ops[i]? = some o ∧ ∀ e ∈ o.after, Region.binds .any e = true → listed.getD e.on false = true) : listed.getD j true = true := by
  obtain ⟨o, ho, ha⟩ := h
  unfold preB at hc
  rw [ho] at hc
  obtain ⟨k, hk, h3⟩ := Array.any_eq_true.1 hc
  simp only [Bool.and_eq_true, beq_iff_eq] at h3
  have := ha _ (Array.getElem_mem hk) h3.1
  rw [h3.2, Array.getD_eq_getD_getElem?] at this
  rw [Array.getD_eq_getD_getElem?]
  cases hl : listed[j]? with
  | none => rfl
  | some b => rw [hl] at this; simpa using this
def lateB (ops : Array Oper) : Bool := (List.range ops.size).all fun i => match ops[i]? with | some o => o.after.all fun e => !(Region.binds .any e) || decide (e.on < i) | none => true
theorem lateB_of {ops : Array Oper} (h : lateB ops = true) : ∀ (i : Nat) o, ops[i]? = some o → ∀ e ∈ o.after, Region.binds .any e = true → e.on < i := by
  intro i o ho e he hb
  unfold lateB at h
  rw [List.all_eq_true] at h
  have h1 := h i (List.mem_range.2 (Array.getElem?_eq_some_iff.1 ho).1)
  simp only [ho] at h1
  obtain ⟨j, hj, rfl⟩ := Array.mem_iff_getElem.1 he
  have h2 := Array.all_eq_true.1 h1 j hj
  rw [hb] at h2
  simpa using h2
theorem s_r1 : sR1 = .region 1 (opsOf sR1) true := by kernel_rfl
theorem s_r1size : (opsOf sR1).size = 8 := by kernel_rfl
theorem s_r1late : lateB (opsOf sR1) = true := by kernel_rfl
noncomputable def mo (i : Nat) : Oper := match (opsOf sR1)[i]? with | some o => o | none => default
theorem mo_0 : (opsOf sR1)[0]? = some (mo 0) ∧ (mo 0).guard = none ∧ (mo 0).op = .load 22 (.tmp 3) ∧ (mo 0).dst = some 10 := ⟨by kernel_rfl, by kernel_rfl, by kernel_rfl, by kernel_rfl⟩
theorem mo_1 : (opsOf sR1)[1]? = some (mo 1) ∧ (mo 1).guard = none ∧ (mo 1).op = .call { callee := .builtin .len, args := #[.tmp 10], argTypes := #[22] } ∧ (mo 1).dst = some 11 := ⟨by kernel_rfl, by kernel_rfl, by kernel_rfl, by kernel_rfl⟩
theorem mo_2 : (opsOf sR1)[2]? = some (mo 2) ∧ (mo 2).guard = none ∧ (mo 2).op = .makeSlice 22 (.tmp 11) (.tmp 11) ∧ (mo 2).dst = some 12 := ⟨by kernel_rfl, by kernel_rfl, by kernel_rfl, by kernel_rfl⟩
theorem mo_3 : (opsOf sR1)[3]? = some (mo 3) ∧ (mo 3).guard = none ∧ (mo 3).op = .makeChan 47 (.const (.int .i64 0)) ∧ (mo 3).dst = some 13 := ⟨by kernel_rfl, by kernel_rfl, by kernel_rfl, by kernel_rfl⟩
theorem mo_4 : (opsOf sR1)[4]? = some (mo 4) ∧ (mo 4).guard = none ∧ (mo 4).op = .alloc 22 ∧ (mo 4).dst = some 7 := ⟨by kernel_rfl, by kernel_rfl, by kernel_rfl, by kernel_rfl⟩
theorem mo_5 : (opsOf sR1)[5]? = some (mo 5) ∧ (mo 5).guard = none ∧ (mo 5).op = .alloc 47 ∧ (mo 5).dst = some 8 := ⟨by kernel_rfl, by kernel_rfl, by kernel_rfl, by kernel_rfl⟩
theorem mo_6 : (opsOf sR1)[6]? = some (mo 6) ∧ (mo 6).guard = none ∧ (mo 6).op = .store 22 (.tmp 7) (.tmp 12) ∧ (mo 6).dst = none := ⟨by kernel_rfl, by kernel_rfl, by kernel_rfl, by kernel_rfl⟩
theorem mo_7 : (opsOf sR1)[7]? = some (mo 7) ∧ (mo 7).guard = none ∧ (mo 7).op = .store 47 (.tmp 8) (.tmp 13) ∧ (mo 7).dst = none := ⟨by kernel_rfl, by kernel_rfl, by kernel_rfl, by kernel_rfl⟩
structure MkInv (v : World) (A : Option Addr) (n c : Nat) (L : Array Bool) (s7 s8 s10 s11 s12 s13 : Value) (w : World) : Prop where
  old : OldSame v w
  l0 : L.getD 0 true = true → s10 = .slice A n c
  l1 : L.getD 1 true = true → s11 = .int .i64 n
  l2 : L.getD 2 true = true → ∃ g zs, v.heap.size ≤ g ∧ s12 = .slice (some ⟨g, 0, none⟩) n n ∧ zs.size = n ∧ w.heap[g]? = some (.cells zs 2 (0, 0))
  l3 : L.getD 3 true = true → ∃ g, v.heap.size ≤ g ∧ s13 = .chan (some g) ∧ w.heap[g]? = some (.chan 0 #[] false 0 0 false)
  l4 : L.getD 4 true = true → ∃ g, v.heap.size ≤ g ∧ s7 = .pointer (some ⟨g, 0, none⟩) ∧ w.heap[g]? = some (.cells #[if L.getD 6 true then s12 else .slice none 0 0] 22 (0, 0))
  l5 : L.getD 5 true = true → ∃ g, v.heap.size ≤ g ∧ s8 = .pointer (some ⟨g, 0, none⟩) ∧ w.heap[g]? = some (.cells #[if L.getD 7 true then s13 else .chan none] 47 (0, 0))
  l6 : L.getD 6 true = true → L.getD 2 true = true ∧ L.getD 4 true = true
  l7 : L.getD 7 true = true → L.getD 3 true = true ∧ L.getD 5 true = true
section
variable {v u : World} {A : Option Addr} {n c : Nat} {L : Array Bool} {s7 s8 s10 s11 s12 s13 : Value}
theorem al_old {u : World} {o o' : Obj} {g : Nat} (h : u.heap[g]? = some o) : (u.alloc o').heap[g]? = some o := by
  rw [Below.heap_alloc _ _ _ (Array.getElem?_eq_some_iff.1 h).1]; exact h
theorem al_new (u : World) (o : Obj) : (u.alloc o).heap[u.heap.size]? = some o := by
  show (u.heap.push o)[u.heap.size]? = _; simp
theorem al_same (u : World) (o : Obj) : OldSame u (u.alloc o) := .of_below (Below.alloc (Below.refl _ _) (Nat.le_refl _) _)
theorem st_ne {u : World} {g b : Nat} {x : Value} (h : b ≠ g) : (u.setCell ⟨g, 0, none⟩ x).heap[b]? = u.heap[b]? := Below.heap_setCell _ _ _ _ h
theorem st_at {u : World} {g : Nat} {x y : Value} {el : TypeId} {fz : Nat × Nat} (h : u.heap[g]? = some (.cells #[y] el fz)) : (u.setCell ⟨g, 0, none⟩ x).heap[g]? = some (.cells #[x] el fz) := by
  simp only [World.setCell, Array.getElem?_modify, if_true, h]
  rfl
theorem st_size {u : World} {a : Addr} {x : Value} : (u.setCell a x).heap.size = u.heap.size := by simp [World.setCell]
theorem MkInv.put0 (h : MkInv v A n c L s7 s8 s10 s11 s12 s13 u) (hs : L.size = 8) : MkInv v A n c (L.setIfInBounds 0 true) s7 s8 (.slice A n c) s11 s12 s13 u := by
  have e := fun j => set_at (l := L) (i := 0) (j := j) (by omega)
  exact ⟨h.old, fun _ => rfl, by have := h.l1; simpa [e] using this, by have := h.l2; simpa [e] using this, by have := h.l3; simpa [e] using this, by have := h.l4; simpa [e] using this, by have := h.l5; simpa [e] using this, fun hl => by
    have h6 := h.l6 (by simpa [e] using hl)
    exact ⟨by simp only [e]; split <;> first | rfl | exact h6.1, by simp only [e]; split <;> first | rfl | exact h6.2⟩, fun hl => by
    have h6 := h.l7 (by simpa [e] using hl)
    exact ⟨by simp only [e]; split <;> first | rfl | exact h6.1, by simp only [e]; split <;> first | rfl | exact h6.2⟩⟩
theorem MkInv.put1 (h : MkInv v A n c L s7 s8 s10 s11 s12 s13 u) (hs : L.size = 8) : MkInv v A n c (L.setIfInBounds 1 true) s7 s8 s10 (.int .i64 n) s12 s13 u := by
  have e := fun j => set_at (l := L) (i := 1) (j := j) (by omega)
  exact ⟨h.old, by have := h.l0; simpa [e] using this, fun _ => rfl, by have := h.l2; simpa [e] using this, by have := h.l3; simpa [e] using this, by have := h.l4; simpa [e] using this, by have := h.l5; simpa [e] using this, fun hl => by
    have h6 := h.l6 (by simpa [e] using hl)
    exact ⟨by simp only [e]; split <;> first | rfl | exact h6.1, by simp only [e]; split <;> first | rfl | exact h6.2⟩, fun hl => by
    have h6 := h.l7 (by simpa [e] using hl)
    exact ⟨by simp only [e]; split <;> first | rfl | exact h6.1, by simp only [e]; split <;> first | rfl | exact h6.2⟩⟩
theorem MkInv.put2 (h : MkInv v A n c L s7 s8 s10 s11 s12 s13 u) (hs : L.size = 8) (h2 : L.getD 2 true = false) {cs : Array Value} (hn : cs.size = n) : MkInv v A n c (L.setIfInBounds 2 true) s7 s8 s10 s11 (.slice (some ⟨u.heap.size, 0, none⟩) n n) s13 (u.alloc (.cells cs 2 (0, 0))) := by
  have e := fun j => set_at (l := L) (i := 2) (j := j) (by omega)
  exact ⟨h.old.trans (al_same _ _), by have := h.l0; simpa [e] using this, by have := h.l1; simpa [e] using this, fun _ => ⟨_, cs, h.old.size, rfl, hn, al_new _ _⟩, fun hl => by
    obtain ⟨g, p1, p2, p3⟩ := h.l3 (by simpa [e] using hl)
    exact ⟨g, p1, p2, al_old (by simpa [e] using p3)⟩, fun hl => by
    obtain ⟨g, p1, p2, p3⟩ := h.l4 (by simpa [e] using hl)
    have h6 : ¬ L.getD 6 true = true := fun h6 => by rw [(h.l6 h6).1] at h2; cases h2
    exact ⟨g, p1, p2, al_old (by simpa [e, h6] using p3)⟩, fun hl => by
    obtain ⟨g, p1, p2, p3⟩ := h.l5 (by simpa [e] using hl)
    exact ⟨g, p1, p2, al_old (by simpa [e] using p3)⟩, fun hl => by
    have h6 := h.l6 (by simpa [e] using hl)
    exact ⟨by simp only [e]; split <;> first | rfl | exact h6.1, by simp only [e]; split <;> first | rfl | exact h6.2⟩, fun hl => by
    have h6 := h.l7 (by simpa [e] using hl)
    exact ⟨by simp only [e]; split <;> first | rfl | exact h6.1, by simp only [e]; split <;> first | rfl | exact h6.2⟩⟩
theorem MkInv.put3 (h : MkInv v A n c L s7 s8 s10 s11 s12 s13 u) (hs : L.size = 8) (h2 : L.getD 3 true = false) : MkInv v A n c (L.setIfInBounds 3 true) s7 s8 s10 s11 s12 (.chan (some u.heap.size)) (u.alloc (.chan 0 #[] false 0 0 false)) := by
  have e := fun j => set_at (l := L) (i := 3) (j := j) (by omega)
  exact ⟨h.old.trans (al_same _ _), by have := h.l0; simpa [e] using this, by have := h.l1; simpa [e] using this, fun hl => by
    obtain ⟨g, zs, p1, p2, p3, p4⟩ := h.l2 (by simpa [e] using hl)
    exact ⟨g, zs, p1, p2, p3, al_old (by simpa [e] using p4)⟩, fun _ => ⟨_, h.old.size, rfl, al_new _ _⟩, fun hl => by
    obtain ⟨g, p1, p2, p3⟩ := h.l4 (by simpa [e] using hl)
    exact ⟨g, p1, p2, al_old (by simpa [e] using p3)⟩, fun hl => by
    obtain ⟨g, p1, p2, p3⟩ := h.l5 (by simpa [e] using hl)
    have h6 : ¬ L.getD 7 true = true := fun h6 => by rw [(h.l7 h6).1] at h2; cases h2
    exact ⟨g, p1, p2, al_old (by simpa [e, h6] using p3)⟩, fun hl => by
    have h6 := h.l6 (by simpa [e] using hl)
    exact ⟨by simp only [e]; split <;> first | rfl | exact h6.1, by simp only [e]; split <;> first | rfl | exact h6.2⟩, fun hl => by
    have h6 := h.l7 (by simpa [e] using hl)
    exact ⟨by simp only [e]; split <;> first | rfl | exact h6.1, by simp only [e]; split <;> first | rfl | exact h6.2⟩⟩
theorem MkInv.put4 (h : MkInv v A n c L s7 s8 s10 s11 s12 s13 u) (hs : L.size = 8) (h2 : L.getD 4 true = false) : MkInv v A n c (L.setIfInBounds 4 true) (.pointer (some ⟨u.heap.size, 0, none⟩)) s8 s10 s11 s12 s13 (u.alloc (.cells #[.slice none 0 0] 22 (0, 0))) := by
  have e := fun j => set_at (l := L) (i := 4) (j := j) (by omega)
  exact ⟨h.old.trans (al_same _ _), by have := h.l0; simpa [e] using this, by have := h.l1; simpa [e] using this, fun hl => by
    obtain ⟨g, zs, p1, p2, p3, p4⟩ := h.l2 (by simpa [e] using hl)
    exact ⟨g, zs, p1, p2, p3, al_old (by simpa [e] using p4)⟩, fun hl => by
    obtain ⟨g, p1, p2, p3⟩ := h.l3 (by simpa [e] using hl)
    exact ⟨g, p1, p2, al_old (by simpa [e] using p3)⟩, fun _ => ⟨_, h.old.size, rfl, by
    have h6 : ¬ L.getD 6 true = true := fun h6 => by rw [(h.l6 h6).2] at h2; cases h2
    simpa [e, h6] using al_new u (.cells #[.slice none 0 0] 22 (0, 0))⟩, fun hl => by
    obtain ⟨g, p1, p2, p3⟩ := h.l5 (by simpa [e] using hl)
    exact ⟨g, p1, p2, al_old (by simpa [e] using p3)⟩, fun hl => by
    have h6 := h.l6 (by simpa [e] using hl)
    exact ⟨by simp only [e]; split <;> first | rfl | exact h6.1, by simp only [e]; split <;> first | rfl | exact h6.2⟩, fun hl => by
    have h6 := h.l7 (by simpa [e] using hl)
    exact ⟨by simp only [e]; split <;> first | rfl | exact h6.1, by simp only [e]; split <;> first | rfl | exact h6.2⟩⟩
theorem MkInv.put5 (h : MkInv v A n c L s7 s8 s10 s11 s12 s13 u) (hs : L.size = 8) (h2 : L.getD 5 true = false) : MkInv v A n c (L.setIfInBounds 5 true) s7 (.pointer (some ⟨u.heap.size, 0, none⟩)) s10 s11 s12 s13 (u.alloc (.cells #[.chan none] 47 (0, 0))) := by
  have e := fun j => set_at (l := L) (i := 5) (j := j) (by omega)
  exact ⟨h.old.trans (al_same _ _), by have := h.l0; simpa [e] using this, by have := h.l1; simpa [e] using this, fun hl => by
    obtain ⟨g, zs, p1, p2, p3, p4⟩ := h.l2 (by simpa [e] using hl)
    exact ⟨g, zs, p1, p2, p3, al_old (by simpa [e] using p4)⟩, fun hl => by
    obtain ⟨g, p1, p2, p3⟩ := h.l3 (by simpa [e] using hl)
    exact ⟨g, p1, p2, al_old (by simpa [e] using p3)⟩, fun hl => by
    obtain ⟨g, p1, p2, p3⟩ := h.l4 (by simpa [e] using hl)
    exact ⟨g, p1, p2, al_old (by simpa [e] using p3)⟩, fun _ => ⟨_, h.old.size, rfl, by
    have h6 : ¬ L.getD 7 true = true := fun h6 => by rw [(h.l7 h6).2] at h2; cases h2
    simpa [e, h6] using al_new u (.cells #[.chan none] 47 (0, 0))⟩, fun hl => by
    have h6 := h.l6 (by simpa [e] using hl)
    exact ⟨by simp only [e]; split <;> first | rfl | exact h6.1, by simp only [e]; split <;> first | rfl | exact h6.2⟩, fun hl => by
    have h6 := h.l7 (by simpa [e] using hl)
    exact ⟨by simp only [e]; split <;> first | rfl | exact h6.1, by simp only [e]; split <;> first | rfl | exact h6.2⟩⟩

theorem MkInv.put6 (h : MkInv v A n c L s7 s8 s10 s11 s12 s13 u) (hs : L.size = 8) (h2 : L.getD 2 true = true) (h4 : L.getD 4 true = true) : ∃ g, s7 = .pointer (some ⟨g, 0, none⟩) ∧ (∃ y, u.heap[g]? = some (.cells #[y] 22 (0, 0))) ∧ MkInv v A n c (L.setIfInBounds 6 true) s7 s8 s10 s11 s12 s13 (u.setCell ⟨g, 0, none⟩ s12) := by
  have e := fun j => set_at (l := L) (i := 6) (j := j) (by omega)
  obtain ⟨g, q1, q2, q3⟩ := h.l4 h4
  have hold : OldSame v (u.setCell ⟨g, 0, none⟩ s12) := ⟨by rw [st_size]; exact h.old.size, fun b hb => by rw [st_ne (by omega)]; exact h.old.block b hb⟩
  refine ⟨g, q2, ⟨_, q3⟩, hold, by have := h.l0; simpa [e] using this, by have := h.l1; simpa [e] using this, fun hl => ?_, fun hl => ?_, fun _ => ?_, fun hl => ?_, fun _ => ?_, fun hl => ?_⟩
  · obtain ⟨g2, zs, p1, p2, p3, p4⟩ := h.l2 h2
    exact ⟨g2, zs, p1, p2, p3, by rw [st_ne (by rintro rfl; rw [q3] at p4; cases p4)]; exact p4⟩
  · obtain ⟨g2, p1, p2, p3⟩ := h.l3 (by simpa [e] using hl)
    exact ⟨g2, p1, p2, by rw [st_ne (by rintro rfl; rw [q3] at p3; cases p3)]; exact p3⟩
  · refine ⟨g, q1, q2, ?_⟩
    simp only [e]
    exact st_at q3
  · obtain ⟨g2, p1, p2, p3⟩ := h.l5 (by simpa [e] using hl)
    refine ⟨g2, p1, p2, ?_⟩
    rw [st_ne (by rintro rfl; rw [q3] at p3; simp at p3)]
    simpa [e] using p3
  · simp only [e]
    exact ⟨by simpa using h2, by simpa using h4⟩
  · have h6 := h.l7 (by simpa [e] using hl)
    exact ⟨by simp only [e]; split <;> first | rfl | exact h6.1, by simp only [e]; split <;> first | rfl | exact h6.2⟩
theorem MkInv.put7 (h : MkInv v A n c L s7 s8 s10 s11 s12 s13 u) (hs : L.size = 8) (h3 : L.getD 3 true = true) (h5 : L.getD 5 true = true) : ∃ g, s8 = .pointer (some ⟨g, 0, none⟩) ∧ (∃ y, u.heap[g]? = some (.cells #[y] 47 (0, 0))) ∧ MkInv v A n c (L.setIfInBounds 7 true) s7 s8 s10 s11 s12 s13 (u.setCell ⟨g, 0, none⟩ s13) := by
  have e := fun j => set_at (l := L) (i := 7) (j := j) (by omega)
  obtain ⟨g, q1, q2, q3⟩ := h.l5 h5
  have hold : OldSame v (u.setCell ⟨g, 0, none⟩ s13) := ⟨by rw [st_size]; exact h.old.size, fun b hb => by rw [st_ne (by omega)]; exact h.old.block b hb⟩
  refine ⟨g, q2, ⟨_, q3⟩, hold, by have := h.l0; simpa [e] using this, by have := h.l1; simpa [e] using this, fun hl => ?_, fun hl => ?_, fun hl => ?_, fun _ => ?_, fun hl => ?_, fun _ => ?_⟩
  · obtain ⟨g2, zs, p1, p2, p3, p4⟩ := h.l2 (by simpa [e] using hl)
    exact ⟨g2, zs, p1, p2, p3, by rw [st_ne (by rintro rfl; rw [q3] at p4; cases p4)]; exact p4⟩
  · obtain ⟨g2, p1, p2, p3⟩ := h.l3 h3
    exact ⟨g2, p1, p2, by rw [st_ne (by rintro rfl; rw [q3] at p3; cases p3)]; exact p3⟩
  · obtain ⟨g2, p1, p2, p3⟩ := h.l4 (by simpa [e] using hl)
    refine ⟨g2, p1, p2, ?_⟩
    rw [st_ne (by rintro rfl; rw [q3] at p3; simp at p3)]
    simpa [e] using p3
  · refine ⟨g, q1, q2, ?_⟩
    simp only [e]
    exact st_at q3
  · have h6 := h.l6 (by simpa [e] using hl)
    exact ⟨by simp only [e]; split <;> first | rfl | exact h6.1, by simp only [e]; split <;> first | rfl | exact h6.2⟩
  · simp only [e]
    exact ⟨by simpa using h3, by simpa using h5⟩
end
set_option maxHeartbeats 1600000 in
theorem s_make {K : Act → World → Prop} (z0 z1 z2 z4 z5 z6 x7 x8 x9 x10 x11 x12 x13 x14 x15 x16 x17 x18 x19 x20 x21 x22 x23 x24 x25 x26 : Value) (a3 : Addr) (A : Option Addr) (n c : Nat) (w : World) (hc : w.cell? a3 = some (.slice A n c)) (hn : n ≤ 60)
    (hK : ∀ y7 y8 y10 y11 y12 y13 w' L, (∀ i, i < 8 → L.getD i true = true) → MkInv w A n c L y7 y8 y10 y11 y12 y13 w' → K ⟨#[z0, z1, z2, .pointer (some a3), z4, z5, z6, y7, y8, x9, y10, y11, y12, y13, x14, x15, x16, x17, x18, x19, x20, x21, x22, x23, x24, x25, x26], []⟩ w') :
    sR1.wp Try.prog (QN K) ⟨#[z0, z1, z2, .pointer (some a3), z4, z5, z6, x7, x8, x9, x10, x11, x12, x13, x14, x15, x16, x17, x18, x19, x20, x21, x22, x23, x24, x25, x26], []⟩ w := by
  obtain ⟨i0, hi, hz0, hz1, hz2⟩ := info_parts info_i64
  have hmk := run_make_row (P := Try.prog) 22 2 i0 (.int .i64 0) Try.underlying22 hi hz0 hz1 rfl .i64 .i64 n (by rw [hz2]; omega) (by omega)
  have hmc := mk0
  rw [s_r1]
  refine wp_region_any (by kernel_rfl) ?_
  have hsz := s_r1size
  refine wpAny_inv (Inv := fun L a u => ∃ s7 s8 s10 s11 s12 s13, a = ⟨#[z0, z1, z2, .pointer (some a3), z4, z5, z6, s7, s8, x9, s10, s11, s12, s13, x14, x15, x16, x17, x18, x19, x20, x21, x22, x23, x24, x25, x26], []⟩ ∧ MkInv w A n c L s7 s8 s10 s11 s12 s13 u) (lateB_of s_r1late) ?_ ?_ _ _ _ _ (by simp) ?_ ?_
  · rintro L a u i hL ⟨s7, s8, s10, s11, s12, s13, rfl, hI⟩ hf hp
    have h8 : i < 8 := by obtain ⟨o, ho, _⟩ := hp; have := (Array.getElem?_eq_some_iff.1 ho).1; omega
    have h8' : L.size = 8 := by omega
    rcases i with _ | _ | _ | _ | _ | _ | _ | _ | i
    case' succ.succ.succ.succ.succ.succ.succ.succ => omega
    case zero =>
      obtain ⟨ho, hg, hop, hd⟩ := mo_0
      refine wpOp_value (v := .slice A n c) (w' := u) ho hg ?_ ?_
      · have := hI.old.cell hc
        unfold execOp; rw [hop]; dsimp only; go_simp
      · rw [hd]
        exact ⟨s7, s8, .slice A n c, s11, s12, s13, by simp only [Act.put, List.setIfInBounds_toArray, List.set_cons_zero, List.set_cons_succ], hI.put0 h8'⟩
    case succ.zero =>
      obtain ⟨ho, hg, hop, hd⟩ := mo_1
      obtain rfl := hI.l0 (pre_of (by kernel_rfl) hp)
      refine wpOp_value (v := .int .i64 n) (w' := u) ho hg ?_ ?_
      · unfold execOp; rw [hop]; dsimp only; go_simp
      · rw [hd]
        exact ⟨s7, s8, .slice A n c, .int .i64 n, s12, s13, by simp only [Act.put, List.setIfInBounds_toArray, List.set_cons_zero, List.set_cons_succ], hI.put1 h8'⟩
    case succ.succ.zero =>
      obtain ⟨ho, hg, hop, hd⟩ := mo_2
      obtain rfl := hI.l1 (pre_of (by kernel_rfl) hp)
      refine wpOp_value (v := .slice (some ⟨u.heap.size, 0, none⟩) n n) (w' := u.alloc (.cells (madeCells #[.int .i64 0] n) 2 (0, 0))) ho hg ?_ ?_
      · have := hmk u
        unfold execOp; rw [hop]; dsimp only; go_simp
      · rw [hd]
        exact ⟨s7, s8, s10, .int .i64 n, _, s13, by simp only [Act.put, List.setIfInBounds_toArray, List.set_cons_zero, List.set_cons_succ], hI.put2 h8' hf (by simp [madeCells])⟩
    case succ.succ.succ.zero =>
      obtain ⟨ho, hg, hop, hd⟩ := mo_3
      refine wpOp_value (v := .chan (some u.heap.size)) (w' := u.alloc (.chan 0 #[] false 0 0 false)) ho hg ?_ ?_
      · have := hmc u
        unfold execOp; rw [hop]; dsimp only; go_simp
      · rw [hd]
        exact ⟨s7, s8, s10, s11, s12, _, by simp only [Act.put, List.setIfInBounds_toArray, List.set_cons_zero, List.set_cons_succ], hI.put3 h8' hf⟩
    case succ.succ.succ.succ.zero =>
      obtain ⟨ho, hg, hop, hd⟩ := mo_4
      refine wpOp_value (v := .pointer (some ⟨u.heap.size, 0, none⟩)) (w' := u.alloc (.cells #[.slice none 0 0] 22 (0, 0))) ho hg ?_ ?_
      · unfold execOp; rw [hop]; dsimp only; go_simp
      · rw [hd]
        exact ⟨_, s8, s10, s11, s12, s13, by simp only [Act.put, List.setIfInBounds_toArray, List.set_cons_zero, List.set_cons_succ], hI.put4 h8' hf⟩
    case succ.succ.succ.succ.succ.zero =>
      obtain ⟨ho, hg, hop, hd⟩ := mo_5
      refine wpOp_value (v := .pointer (some ⟨u.heap.size, 0, none⟩)) (w' := u.alloc (.cells #[.chan none] 47 (0, 0))) ho hg ?_ ?_
      · unfold execOp; rw [hop]; dsimp only; go_simp
      · rw [hd]
        exact ⟨s7, _, s10, s11, s12, s13, by simp only [Act.put, List.setIfInBounds_toArray, List.set_cons_zero, List.set_cons_succ], hI.put5 h8' hf⟩
    case succ.succ.succ.succ.succ.succ.zero =>
      obtain ⟨ho, hg, hop, hd⟩ := mo_6
      obtain ⟨g, rfl, ⟨y, hy⟩, hI'⟩ := hI.put6 h8' (pre_of (by kernel_rfl) hp) (pre_of (by kernel_rfl) hp)
      obtain ⟨g2, zs, _, rfl, _, _⟩ := hI.l2 (pre_of (by kernel_rfl) hp)
      refine wpOp_skip (w' := u.setCell ⟨g, 0, none⟩ (.slice (some ⟨g2, 0, none⟩) n n)) ho hg ?_ ?_
      · have h1 := cell_of hy 0
        have h2 : u.frozen? ⟨g, 0, none⟩ = false := by unfold World.frozen?; rw [hy]; rfl
        simp only [List.getElem?_toArray, List.getElem?_cons_zero] at h1
        unfold execOp; rw [hop]; dsimp only; go_simp
      · rw [hd]
        exact ⟨_, s8, s10, s11, _, s13, rfl, hI'⟩
    case succ.succ.succ.succ.succ.succ.succ.zero =>
      obtain ⟨ho, hg, hop, hd⟩ := mo_7
      obtain ⟨g, rfl, ⟨y, hy⟩, hI'⟩ := hI.put7 h8' (pre_of (by kernel_rfl) hp) (pre_of (by kernel_rfl) hp)
      obtain ⟨g2, _, rfl, _⟩ := hI.l3 (pre_of (by kernel_rfl) hp)
      refine wpOp_skip (w' := u.setCell ⟨g, 0, none⟩ (.chan (some g2))) ho hg ?_ ?_
      · have h1 := cell_of hy 0
        have h2 : u.frozen? ⟨g, 0, none⟩ = false := by unfold World.frozen?; rw [hy]; rfl
        simp only [List.getElem?_toArray, List.getElem?_cons_zero] at h1
        unfold execOp; rw [hop]; dsimp only; go_simp
      · rw [hd]
        exact ⟨s7, _, s10, s11, s12, _, rfl, hI'⟩
  · rintro L a u hL ⟨s7, s8, s10, s11, s12, s13, rfl, hI⟩ hall
    exact ⟨rfl, hK _ _ _ _ _ _ u L (fun i hi => hall i (by omega)) hI⟩
  · unfold unl
    rw [List.filter_eq_self.2 (fun i hi => by
      have := List.mem_range.1 hi
      simp [Array.getD_eq_getD_getElem?, this])]
    simp
  · have e : ∀ i, i < 8 → (Array.replicate (opsOf sR1).size false).getD i true = false := fun i hi => by
      rw [hsz, Array.getD_eq_getD_getElem?]; simp [hi]
    refine ⟨x7, x8, x10, x11, x12, x13, rfl, OldSame.heap rfl, ?_, ?_, ?_, ?_, ?_, ?_, ?_, ?_⟩ <;> (intro h; rw [e _ (by omega)] at h; cases h)
end Go.Proofs.Ytneclhkpgalnlaa
