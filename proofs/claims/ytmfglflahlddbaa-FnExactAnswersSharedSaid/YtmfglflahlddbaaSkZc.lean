/-
  A region that draws its order, by what holds of the operations that have been.
-/
import Derived.Test.YtmfglflahlddbaaSkZb
import Derived.Test.YtmfglflahlddbaaLawI
import Derived.Conc.SmallLaws
import Derived.BigRegion
import Derived.RegionTactic
namespace Go.Proofs.Ytmfglflahlddbaa.Sm
open Go Go.Conc
set_option linter.unusedVariables false

theorem ready_some {md : Region.Mode} {ops : Array Oper} (hlt : ∀ (i : Nat) o, ops[i]? = some o → ∀ e ∈ o.after, Region.binds md e = true → e.on < i) {listed : Array Bool} (hs : listed.size = ops.size) :
    ∀ m, (∃ i, i < m ∧ i < ops.size ∧ listed.getD i true = false) → ∃ i, i ∈ Region.ready md ops listed := by
  intro m
  induction m with
  | zero => rintro ⟨i, h, _⟩; omega
  | succ m ihm =>
    rintro ⟨i, h1, h2, h3⟩
    by_cases hex : ∃ i, i < m ∧ i < ops.size ∧ listed.getD i true = false
    · exact ihm hex
    · have him : i = m := by
        rcases Nat.lt_or_ge i m with h | h
        · exact absurd ⟨i, h, h2, h3⟩ hex
        · omega
      subst him
      refine ⟨i, mem_ready.2 ⟨h3, ops[i]'(by omega), by simp, fun e he hb => ?_⟩⟩
      have hlt' := hlt i (ops[i]'(by omega)) (by simp) e he hb
      cases hd : listed.getD e.on true with
      | false => exact absurd ⟨e.on, hlt', by omega, hd⟩ hex
      | true =>
        rw [Array.getD_eq_getD_getElem?] at hd ⊢
        rw [Array.getElem?_eq_getElem (by omega)] at hd ⊢
        simpa using hd

theorem wpAny_inv {P : Program} {md : Region.Mode} {ops : Array Oper} {Q : Exit → Act → World → Prop} {Inv : Array Bool → Act → World → Prop} (hlt : ∀ (i : Nat) o, ops[i]? = some o → ∀ e ∈ o.after, Region.binds md e = true → e.on < i)
    (hstep : ∀ (listed : Array Bool) (a : Act) (w : World) (i : Nat), listed.size = ops.size → Inv listed a w → listed.getD i true = false → (∃ o, ops[i]? = some o ∧ ∀ e ∈ o.after, Region.binds md e = true → listed.getD e.on false = true) → wpOp P ops Q i (Inv (listed.setIfInBounds i true)) a w)
    (hend : ∀ (listed : Array Bool) (a : Act) (w : World), listed.size = ops.size → Inv listed a w → (∀ i, i < ops.size → listed.getD i true = true) → Q .normal a w) :
    ∀ (fuel : Nat) (listed : Array Bool) (a : Act) (w : World), listed.size = ops.size → fuel = (unl ops.size listed).length → Inv listed a w → wpAny P md ops Q fuel listed a w := by
  have all : ∀ listed : Array Bool, listed.size = ops.size → Region.ready md ops listed = [] → ∀ i, i < ops.size → listed.getD i true = true := by
    intro listed hs hr i hi
    cases h : listed.getD i true with
    | true => rfl
    | false =>
      obtain ⟨j, hj⟩ := ready_some hlt hs (i + 1) ⟨i, by omega, hi, h⟩
      rw [hr] at hj; cases hj
  intro fuel
  induction fuel with
  | zero =>
    intro listed a w hs hf hi
    have he : Region.ready md ops listed = [] := by
      rw [List.eq_nil_iff_forall_not_mem]
      intro i hm
      obtain ⟨h1, o, h2, _⟩ := mem_ready.1 hm
      have : i ∈ unl ops.size listed := List.mem_filter.2 ⟨List.mem_range.2 (Array.getElem?_eq_some_iff.1 h2).1, by rw [h1]; rfl⟩
      rw [List.eq_nil_of_length_eq_zero hf.symm] at this
      cases this
    exact ⟨he, hend listed a w hs hi (all listed hs he)⟩
  | succ fuel ih =>
    intro listed a w hs hf hi
    refine ⟨fun hr => hend listed a w hs hi (all listed hs hr), fun i hm => ?_⟩
    obtain ⟨h1, o, h2, h3⟩ := mem_ready.1 hm
    have hun := unl_set hs (Array.getElem?_eq_some_iff.1 h2).1 h1
    exact wpOp_mono (fun a w h => ih _ a w (by simpa using hs) (by omega) h) (hstep listed a w i hs hi h1 ⟨o, h2, h3⟩)

theorem wpOp_value {P : Program} {ops : Array Oper} {Q : Exit → Act → World → Prop} {i : Nat} {o : Oper} {K : Act → World → Prop} {a : Act} {w w' : World} {v : Value} (ho : ops[i]? = some o) (hg : o.guard = none) (hr : (execOp a.eval o).run P w = .ok (.value v) w') (hK : K (a.put o.dst v) w') : wpOp P ops Q i K a w := by
  unfold wpOp
  rw [ho]
  simp only [wanted_none hg, if_true]
  refine .inl ?_
  simp only [Oper.wp, Oper.upon, hr]
  exact hK
theorem wpOp_skip {P : Program} {ops : Array Oper} {Q : Exit → Act → World → Prop} {i : Nat} {o : Oper} {K : Act → World → Prop} {a : Act} {w w' : World} (ho : ops[i]? = some o) (hg : o.guard = none) (hr : (execOp a.eval o).run P w = .ok .skip w') (hK : K (a.put o.dst undef) w') : wpOp P ops Q i K a w := by
  unfold wpOp
  rw [ho]
  simp only [wanted_none hg, if_true]
  refine .inl ?_
  simp only [Oper.wp, Oper.upon, hr]
  exact hK
theorem set_at {l : Array Bool} {i j : Nat} (h : i < l.size) : (l.setIfInBounds i true).getD j true = (if j = i then true else l.getD j true) := by
  simp only [Array.getD_eq_getD_getElem?, Array.getElem?_setIfInBounds]
  by_cases e : i = j
  · subst e; simp [h]
  · simp [e, Ne.symm e]
end Go.Proofs.Ytmfglflahlddbaa.Sm
namespace Go.Proofs.Ytmfglflahlddbaa
open Go.ChangeShapes Go.WideShapes Go.ChangeAt Go.RowKit Sm Go.Conc
set_option linter.unusedVariables false
theorem mk0 (w : World) : (Instr.makeChan 74 (.int .i64 0)).run Try.prog w = .ok (.chan (some w.heap.size)) (w.alloc (.chan 0 #[] false 0 0 false)) := by
  have h : (Try.prog.info? 4).map (·.bytes) = some 1 := by kernel_rfl
  obtain ⟨i, hi, hb⟩ := Option.map_eq_some_iff.1 h
  simpa using run_makeChan (P := Try.prog) (w := w) Try.underlying74 hi .i64 0 (by omega) (by rw [hb]; omega)

def preB (ops : Array Oper) (i j : Nat) : Bool := match ops[i]? with | some o => o.after.any fun e => Region.binds .any e && (e.on == j) | none => false
theorem pre_of {ops : Array Oper} {i j : Nat} {listed : Array Bool} (hc : preB ops i j = true) (h : ∃ o, ops[i]? = some o ∧ ∀ e ∈ o.after, Region.binds .any e = true → listed.getD e.on false = true) : listed.getD j true = true := by
  obtain ⟨o, ho, ha⟩ := h
  unfold preB at hc
  rw [ho] at hc
  obtain ⟨k, hk, h3⟩ := Array.any_eq_true.1 hc
  simp only [Bool.and_eq_true, beq_iff_eq] at h3
  have := ha _ (Array.getElem_mem hk) h3.1
  rw [h3.2, Array.getD_eq_getD_getElem?] at this
  rw [Array.getD_eq_getD_getElem?]
  cases hl : listed[j]? with
  | none => rfl
  | some b => rw [hl] at this; simpa using this
def lateB (ops : Array Oper) : Bool := (List.range ops.size).all fun i => match ops[i]? with | some o => o.after.all fun e => !(Region.binds .any e) || decide (e.on < i) | none => true
theorem lateB_of {ops : Array Oper} (h : lateB ops = true) : ∀ (i : Nat) o, ops[i]? = some o → ∀ e ∈ o.after, Region.binds .any e = true → e.on < i := by
  intro i o ho e he hb
  unfold lateB at h
  rw [List.all_eq_true] at h
  have h1 := h i (List.mem_range.2 (Array.getElem?_eq_some_iff.1 ho).1)
  simp only [ho] at h1
  obtain ⟨j, hj, rfl⟩ := Array.mem_iff_getElem.1 he
  have h2 := Array.all_eq_true.1 h1 j hj
  rw [hb] at h2
  simpa using h2
theorem s_r1 : sR1 = .region 1 (opsOf sR1) true := by kernel_rfl
theorem s_r1size : (opsOf sR1).size = 8 := by kernel_rfl
theorem s_r1late : lateB (opsOf sR1) = true := by kernel_rfl
noncomputable def mo (i : Nat) : Oper := match (opsOf sR1)[i]? with | some o => o | none => default
theorem mo_0 : (opsOf sR1)[0]? = some (mo 0) ∧ (mo 0).guard = none ∧ (mo 0).op = .load 26 (.tmp 3) ∧ (mo 0).dst = some 10 := ⟨by kernel_rfl, by kernel_rfl, by kernel_rfl, by kernel_rfl⟩
theorem mo_1 : (opsOf sR1)[1]? = some (mo 1) ∧ (mo 1).guard = none ∧ (mo 1).op = .call { callee := .builtin .len, args := #[.tmp 10], argTypes := #[26] } ∧ (mo 1).dst = some 11 := ⟨by kernel_rfl, by kernel_rfl, by kernel_rfl, by kernel_rfl⟩
theorem mo_2 : (opsOf sR1)[2]? = some (mo 2) ∧ (mo 2).guard = none ∧ (mo 2).op = .makeSlice 26 (.tmp 11) (.tmp 11) ∧ (mo 2).dst = some 12 := ⟨by kernel_rfl, by kernel_rfl, by kernel_rfl, by kernel_rfl⟩
theorem mo_3 : (opsOf sR1)[3]? = some (mo 3) ∧ (mo 3).guard = none ∧ (mo 3).op = .makeChan 74 (.const (.int .i64 0)) ∧ (mo 3).dst = some 13 := ⟨by kernel_rfl, by kernel_rfl, by kernel_rfl, by kernel_rfl⟩
theorem mo_4 : (opsOf sR1)[4]? = some (mo 4) ∧ (mo 4).guard = none ∧ (mo 4).op = .alloc 26 ∧ (mo 4).dst = some 7 := ⟨by kernel_rfl, by kernel_rfl, by kernel_rfl, by kernel_rfl⟩
theorem mo_5 : (opsOf sR1)[5]? = some (mo 5) ∧ (mo 5).guard = none ∧ (mo 5).op = .alloc 74 ∧ (mo 5).dst = some 8 := ⟨by kernel_rfl, by kernel_rfl, by kernel_rfl, by kernel_rfl⟩
theorem mo_6 : (opsOf sR1)[6]? = some (mo 6) ∧ (mo 6).guard = none ∧ (mo 6).op = .store 26 (.tmp 7) (.tmp 12) ∧ (mo 6).dst = none := ⟨by kernel_rfl, by kernel_rfl, by kernel_rfl, by kernel_rfl⟩
theorem mo_7 : (opsOf sR1)[7]? = some (mo 7) ∧ (mo 7).guard = none ∧ (mo 7).op = .store 74 (.tmp 8) (.tmp 13) ∧ (mo 7).dst = none := ⟨by kernel_rfl, by kernel_rfl, by kernel_rfl, by kernel_rfl⟩
structure MkInv (v : World) (A : Option Addr) (n c : Nat) (L : Array Bool) (s7 s8 s10 s11 s12 s13 : Value) (w : World) : Prop where
  old : OldSame v w
  l0 : L.getD 0 true = true → s10 = .slice A n c
  l1 : L.getD 1 true = true → s11 = .int .i64 n
  l2 : L.getD 2 true = true → ∃ g zs, v.heap.size ≤ g ∧ s12 = .slice (some ⟨g, 0, none⟩) n n ∧ zs.size = n ∧ w.heap[g]? = some (.cells zs 2 (0, 0))
  l3 : L.getD 3 true = true → ∃ g, v.heap.size ≤ g ∧ s13 = .chan (some g) ∧ w.heap[g]? = some (.chan 0 #[] false 0 0 false)
  l4 : L.getD 4 true = true → ∃ g, v.heap.size ≤ g ∧ s7 = .pointer (some ⟨g, 0, none⟩) ∧ w.heap[g]? = some (.cells #[if L.getD 6 true then s12 else .slice none 0 0] 26 (0, 0))
  l5 : L.getD 5 true = true → ∃ g, v.heap.size ≤ g ∧ s8 = .pointer (some ⟨g, 0, none⟩) ∧ w.heap[g]? = some (.cells #[if L.getD 7 true then s13 else .chan none] 74 (0, 0))
  l6 : L.getD 6 true = true → L.getD 2 true = true ∧ L.getD 4 true = true
  l7 : L.getD 7 true = true → L.getD 3 true = true ∧ L.getD 5 true = true
section
variable {v u : World} {A : Option Addr} {n c : Nat} {L : Array Bool} {s7 s8 s10 s11 s12 s13 : Value}
theorem al_old {u : World} {o o' : Go.Obj} {g : Nat} (h : u.heap[g]? = some o) : (u.alloc o').heap[g]? = some o := by
  rw [Below.heap_alloc _ _ _ (Array.getElem?_eq_some_iff.1 h).1]; exact h
theorem al_new (u : World) (o : Go.Obj) : (u.alloc o).heap[u.heap.size]? = some o := by
  show (u.heap.push o)[u.heap.size]? = _; simp
theorem al_same (u : World) (o : Go.Obj) : OldSame u (u.alloc o) := .of_below (Below.alloc (Below.refl _ _) (Nat.le_refl _) _)
theorem st_ne {u : World} {g b : Nat} {x : Value} (h : b ≠ g) : (u.setCell ⟨g, 0, none⟩ x).heap[b]? = u.heap[b]? := Below.heap_setCell _ _ _ _ h
theorem st_at {u : World} {g : Nat} {x y : Value} {el : TypeId} {fz : Nat × Nat} (h : u.heap[g]? = some (.cells #[y] el fz)) : (u.setCell ⟨g, 0, none⟩ x).heap[g]? = some (.cells #[x] el fz) := by
  simp only [World.setCell, Array.getElem?_modify, if_true, h]
  rfl
theorem st_size {u : World} {a : Addr} {x : Value} : (u.setCell a x).heap.size = u.heap.size := by simp [World.setCell]
theorem MkInv.put0 (h : MkInv v A n c L s7 s8 s10 s11 s12 s13 u) (hs : L.size = 8) : MkInv v A n c (L.setIfInBounds 0 true) s7 s8 (.slice A n c) s11 s12 s13 u := by
  have e := fun j => Sm.set_at (l := L) (i := 0) (j := j) (by omega)
  exact ⟨h.old, fun _ => rfl, by have := h.l1; simpa [e] using this, by have := h.l2; simpa [e] using this, by have := h.l3; simpa [e] using this, by have := h.l4; simpa [e] using this, by have := h.l5; simpa [e] using this, fun hl => by
    have h6 := h.l6 (by simpa [e] using hl)
    exact ⟨by simp only [e]; split <;> first | rfl | exact h6.1, by simp only [e]; split <;> first | rfl | exact h6.2⟩, fun hl => by
    have h6 := h.l7 (by simpa [e] using hl)
    exact ⟨by simp only [e]; split <;> first | rfl | exact h6.1, by simp only [e]; split <;> first | rfl | exact h6.2⟩⟩
theorem MkInv.put1 (h : MkInv v A n c L s7 s8 s10 s11 s12 s13 u) (hs : L.size = 8) : MkInv v A n c (L.setIfInBounds 1 true) s7 s8 s10 (.int .i64 n) s12 s13 u := by
  have e := fun j => Sm.set_at (l := L) (i := 1) (j := j) (by omega)
  exact ⟨h.old, by have := h.l0; simpa [e] using this, fun _ => rfl, by have := h.l2; simpa [e] using this, by have := h.l3; simpa [e] using this, by have := h.l4; simpa [e] using this, by have := h.l5; simpa [e] using this, fun hl => by
    have h6 := h.l6 (by simpa [e] using hl)
    exact ⟨by simp only [e]; split <;> first | rfl | exact h6.1, by simp only [e]; split <;> first | rfl | exact h6.2⟩, fun hl => by
    have h6 := h.l7 (by simpa [e] using hl)
    exact ⟨by simp only [e]; split <;> first | rfl | exact h6.1, by simp only [e]; split <;> first | rfl | exact h6.2⟩⟩
theorem MkInv.put2 (h : MkInv v A n c L s7 s8 s10 s11 s12 s13 u) (hs : L.size = 8) (h2 : L.getD 2 true = false) {cs : Array Value} (hn : cs.size = n) : MkInv v A n c (L.setIfInBounds 2 true) s7 s8 s10 s11 (.slice (some ⟨u.heap.size, 0, none⟩) n n) s13 (u.alloc (.cells cs 2 (0, 0))) := by
  have e := fun j => Sm.set_at (l := L) (i := 2) (j := j) (by omega)
  exact ⟨h.old.trans (al_same _ _), by have := h.l0; simpa [e] using this, by have := h.l1; simpa [e] using this, fun _ => ⟨_, cs, h.old.size, rfl, hn, al_new _ _⟩, fun hl => by
    obtain ⟨g, p1, p2, p3⟩ := h.l3 (by simpa [e] using hl)
    exact ⟨g, p1, p2, al_old (by simpa [e] using p3)⟩, fun hl => by
    obtain ⟨g, p1, p2, p3⟩ := h.l4 (by simpa [e] using hl)
    have h6 : ¬ L.getD 6 true = true := fun h6 => by rw [(h.l6 h6).1] at h2; cases h2
    exact ⟨g, p1, p2, al_old (by simpa [e, h6] using p3)⟩, fun hl => by
    obtain ⟨g, p1, p2, p3⟩ := h.l5 (by simpa [e] using hl)
    exact ⟨g, p1, p2, al_old (by simpa [e] using p3)⟩, fun hl => by
    have h6 := h.l6 (by simpa [e] using hl)
    exact ⟨by simp only [e]; split <;> first | rfl | exact h6.1, by simp only [e]; split <;> first | rfl | exact h6.2⟩, fun hl => by
    have h6 := h.l7 (by simpa [e] using hl)
    exact ⟨by simp only [e]; split <;> first | rfl | exact h6.1, by simp only [e]; split <;> first | rfl | exact h6.2⟩⟩
theorem MkInv.put3 (h : MkInv v A n c L s7 s8 s10 s11 s12 s13 u) (hs : L.size = 8) (h2 : L.getD 3 true = false) : MkInv v A n c (L.setIfInBounds 3 true) s7 s8 s10 s11 s12 (.chan (some u.heap.size)) (u.alloc (.chan 0 #[] false 0 0 false)) := by
  have e := fun j => Sm.set_at (l := L) (i := 3) (j := j) (by omega)
  exact ⟨h.old.trans (al_same _ _), by have := h.l0; simpa [e] using this, by have := h.l1; simpa [e] using this, fun hl => by
    obtain ⟨g, zs, p1, p2, p3, p4⟩ := h.l2 (by simpa [e] using hl)
    exact ⟨g, zs, p1, p2, p3, al_old (by simpa [e] using p4)⟩, fun _ => ⟨_, h.old.size, rfl, al_new _ _⟩, fun hl => by
    obtain ⟨g, p1, p2, p3⟩ := h.l4 (by simpa [e] using hl)
    exact ⟨g, p1, p2, al_old (by simpa [e] using p3)⟩, fun hl => by
    obtain ⟨g, p1, p2, p3⟩ := h.l5 (by simpa [e] using hl)
    have h6 : ¬ L.getD 7 true = true := fun h6 => by rw [(h.l7 h6).1] at h2; cases h2
    exact ⟨g, p1, p2, al_old (by simpa [e, h6] using p3)⟩, fun hl => by
    have h6 := h.l6 (by simpa [e] using hl)
    exact ⟨by simp only [e]; split <;> first | rfl | exact h6.1, by simp only [e]; split <;> first | rfl | exact h6.2⟩, fun hl => by
    have h6 := h.l7 (by simpa [e] using hl)
    exact ⟨by simp only [e]; split <;> first | rfl | exact h6.1, by simp only [e]; split <;> first | rfl | exact h6.2⟩⟩
theorem MkInv.put4 (h : MkInv v A n c L s7 s8 s10 s11 s12 s13 u) (hs : L.size = 8) (h2 : L.getD 4 true = false) : MkInv v A n c (L.setIfInBounds 4 true) (.pointer (some ⟨u.heap.size, 0, none⟩)) s8 s10 s11 s12 s13 (u.alloc (.cells #[.slice none 0 0] 26 (0, 0))) := by
  have e := fun j => Sm.set_at (l := L) (i := 4) (j := j) (by omega)
  exact ⟨h.old.trans (al_same _ _), by have := h.l0; simpa [e] using this, by have := h.l1; simpa [e] using this, fun hl => by
    obtain ⟨g, zs, p1, p2, p3, p4⟩ := h.l2 (by simpa [e] using hl)
    exact ⟨g, zs, p1, p2, p3, al_old (by simpa [e] using p4)⟩, fun hl => by
    obtain ⟨g, p1, p2, p3⟩ := h.l3 (by simpa [e] using hl)
    exact ⟨g, p1, p2, al_old (by simpa [e] using p3)⟩, fun _ => ⟨_, h.old.size, rfl, by
    have h6 : ¬ L.getD 6 true = true := fun h6 => by rw [(h.l6 h6).2] at h2; cases h2
    simpa [e, h6] using al_new u (.cells #[.slice none 0 0] 26 (0, 0))⟩, fun hl => by
    obtain ⟨g, p1, p2, p3⟩ := h.l5 (by simpa [e] using hl)
    exact ⟨g, p1, p2, al_old (by simpa [e] using p3)⟩, fun hl => by
    have h6 := h.l6 (by simpa [e] using hl)
    exact ⟨by simp only [e]; split <;> first | rfl | exact h6.1, by simp only [e]; split <;> first | rfl | exact h6.2⟩, fun hl => by
    have h6 := h.l7 (by simpa [e] using hl)
    exact ⟨by simp only [e]; split <;> first | rfl | exact h6.1, by simp only [e]; split <;> first | rfl | exact h6.2⟩⟩
theorem MkInv.put5 (h : MkInv v A n c L s7 s8 s10 s11 s12 s13 u) (hs : L.size = 8) (h2 : L.getD 5 true = false) : MkInv v A n c (L.setIfInBounds 5 true) s7 (.pointer (some ⟨u.heap.size, 0, none⟩)) s10 s11 s12 s13 (u.alloc (.cells #[.chan none] 74 (0, 0))) := by
  have e := fun j => Sm.set_at (l := L) (i := 5) (j := j) (by omega)
  exact ⟨h.old.trans (al_same _ _), by have := h.l0; simpa [e] using this, by have := h.l1; simpa [e] using this, fun hl => by
    obtain ⟨g, zs, p1, p2, p3, p4⟩ := h.l2 (by simpa [e] using hl)
    exact ⟨g, zs, p1, p2, p3, al_old (by simpa [e] using p4)⟩, fun hl => by
    obtain ⟨g, p1, p2, p3⟩ := h.l3 (by simpa [e] using hl)
    exact ⟨g, p1, p2, al_old (by simpa [e] using p3)⟩, fun hl => by
    obtain ⟨g, p1, p2, p3⟩ := h.l4 (by simpa [e] using hl)
    exact ⟨g, p1, p2, al_old (by simpa [e] using p3)⟩, fun _ => ⟨_, h.old.size, rfl, by
    have h6 : ¬ L.getD 7 true = true := fun h6 => by rw [(h.l7 h6).2] at h2; cases h2
    simpa [e, h6] using al_new u (.cells #[.chan none] 74 (0, 0))⟩, fun hl => by
    have h6 := h.l6 (by simpa [e] using hl)
    exact ⟨by simp only [e]; split <;> first | rfl | exact h6.1, by simp only [e]; split <;> first | rfl | exact h6.2⟩, fun hl => by
    have h6 := h.l7 (by simpa [e] using hl)
    exact ⟨by simp only [e]; split <;> first | rfl | exact h6.1, by simp only [e]; split <;> first | rfl | exact h6.2⟩⟩

theorem MkInv.put6 (h : MkInv v A n c L s7 s8 s10 s11 s12 s13 u) (hs : L.size = 8) (h2 : L.getD 2 true = true) (h4 : L.getD 4 true = true) : ∃ g, s7 = .pointer (some ⟨g, 0, none⟩) ∧ (∃ y, u.heap[g]? = some (.cells #[y] 26 (0, 0))) ∧ MkInv v A n c (L.setIfInBounds 6 true) s7 s8 s10 s11 s12 s13 (u.setCell ⟨g, 0, none⟩ s12) := by
  have e := fun j => Sm.set_at (l := L) (i := 6) (j := j) (by omega)
  obtain ⟨g, q1, q2, q3⟩ := h.l4 h4
  have hold : OldSame v (u.setCell ⟨g, 0, none⟩ s12) := ⟨by rw [st_size]; exact h.old.size, fun b hb => by rw [st_ne (by omega)]; exact h.old.block b hb⟩
  refine ⟨g, q2, ⟨_, q3⟩, hold, by have := h.l0; simpa [e] using this, by have := h.l1; simpa [e] using this, fun hl => ?_, fun hl => ?_, fun _ => ?_, fun hl => ?_, fun _ => ?_, fun hl => ?_⟩
  · obtain ⟨g2, zs, p1, p2, p3, p4⟩ := h.l2 h2
    exact ⟨g2, zs, p1, p2, p3, by rw [st_ne (by rintro rfl; rw [q3] at p4; cases p4)]; exact p4⟩
  · obtain ⟨g2, p1, p2, p3⟩ := h.l3 (by simpa [e] using hl)
    exact ⟨g2, p1, p2, by rw [st_ne (by rintro rfl; rw [q3] at p3; cases p3)]; exact p3⟩
  · refine ⟨g, q1, q2, ?_⟩
    simp only [e]
    exact st_at q3
  · obtain ⟨g2, p1, p2, p3⟩ := h.l5 (by simpa [e] using hl)
    refine ⟨g2, p1, p2, ?_⟩
    rw [st_ne (by rintro rfl; rw [q3] at p3; simp at p3)]
    simpa [e] using p3
  · simp only [e]
    exact ⟨by simpa using h2, by simpa using h4⟩
  · have h6 := h.l7 (by simpa [e] using hl)
    exact ⟨by simp only [e]; split <;> first | rfl | exact h6.1, by simp only [e]; split <;> first | rfl | exact h6.2⟩
theorem MkInv.put7 (h : MkInv v A n c L s7 s8 s10 s11 s12 s13 u) (hs : L.size = 8) (h3 : L.getD 3 true = true) (h5 : L.getD 5 true = true) : ∃ g, s8 = .pointer (some ⟨g, 0, none⟩) ∧ (∃ y, u.heap[g]? = some (.cells #[y] 74 (0, 0))) ∧ MkInv v A n c (L.setIfInBounds 7 true) s7 s8 s10 s11 s12 s13 (u.setCell ⟨g, 0, none⟩ s13) := by
  have e := fun j => Sm.set_at (l := L) (i := 7) (j := j) (by omega)
  obtain ⟨g, q1, q2, q3⟩ := h.l5 h5
  have hold : OldSame v (u.setCell ⟨g, 0, none⟩ s13) := ⟨by rw [st_size]; exact h.old.size, fun b hb => by rw [st_ne (by omega)]; exact h.old.block b hb⟩
  refine ⟨g, q2, ⟨_, q3⟩, hold, by have := h.l0; simpa [e] using this, by have := h.l1; simpa [e] using this, fun hl => ?_, fun hl => ?_, fun hl => ?_, fun _ => ?_, fun hl => ?_, fun _ => ?_⟩
  · obtain ⟨g2, zs, p1, p2, p3, p4⟩ := h.l2 (by simpa [e] using hl)
    exact ⟨g2, zs, p1, p2, p3, by rw [st_ne (by rintro rfl; rw [q3] at p4; cases p4)]; exact p4⟩
  · obtain ⟨g2, p1, p2, p3⟩ := h.l3 h3
    exact ⟨g2, p1, p2, by rw [st_ne (by rintro rfl; rw [q3] at p3; cases p3)]; exact p3⟩
  · obtain ⟨g2, p1, p2, p3⟩ := h.l4 (by simpa [e] using hl)
    refine ⟨g2, p1, p2, ?_⟩
    rw [st_ne (by rintro rfl; rw [q3] at p3; simp at p3)]
    simpa [e] using p3
  · refine ⟨g, q1, q2, ?_⟩
    simp only [e]
    exact st_at q3
  · have h6 := h.l6 (by simpa [e] using hl)
    exact ⟨by simp only [e]; split <;> first | rfl | exact h6.1, by simp only [e]; split <;> first | rfl | exact h6.2⟩
  · simp only [e]
    exact ⟨by simpa using h3, by simpa using h5⟩
end
set_option maxHeartbeats 1600000 in
theorem s_make {K : Act → World → Prop} (z0 z1 z2 z4 z5 z6 x7 x8 x9 x10 x11 x12 x13 x14 x15 x16 x17 x18 x19 x20 x21 x22 x23 x24 x25 x26 : Value) (a3 : Addr) (A : Option Addr) (n c : Nat) (w : World) (hc : w.cell? a3 = some (.slice A n c)) (hn : n ≤ 60)
    (hK : ∀ y7 y8 y10 y11 y12 y13 w' L, (∀ i, i < 8 → L.getD i true = true) → MkInv w A n c L y7 y8 y10 y11 y12 y13 w' → K ⟨#[z0, z1, z2, .pointer (some a3), z4, z5, z6, y7, y8, x9, y10, y11, y12, y13, x14, x15, x16, x17, x18, x19, x20, x21, x22, x23, x24, x25, x26], []⟩ w') :
    sR1.wp Try.prog (QN K) ⟨#[z0, z1, z2, .pointer (some a3), z4, z5, z6, x7, x8, x9, x10, x11, x12, x13, x14, x15, x16, x17, x18, x19, x20, x21, x22, x23, x24, x25, x26], []⟩ w := by
  obtain ⟨i0, hi, hz0, hz1, hz2⟩ := info_parts info_i64
  have hmk := run_make_row (P := Try.prog) 26 2 i0 (.int .i64 0) Try.underlying26 hi hz0 hz1 rfl .i64 .i64 n (by rw [hz2]; omega) (by omega)
  have hmc := mk0
  rw [s_r1]
  refine wp_region_any (by kernel_rfl) ?_
  have hsz := s_r1size
  refine wpAny_inv (Inv := fun L a u => ∃ s7 s8 s10 s11 s12 s13, a = ⟨#[z0, z1, z2, .pointer (some a3), z4, z5, z6, s7, s8, x9, s10, s11, s12, s13, x14, x15, x16, x17, x18, x19, x20, x21, x22, x23, x24, x25, x26], []⟩ ∧ MkInv w A n c L s7 s8 s10 s11 s12 s13 u) (lateB_of s_r1late) ?_ ?_ _ _ _ _ (by simp) ?_ ?_
  · rintro L a u i hL ⟨s7, s8, s10, s11, s12, s13, rfl, hI⟩ hf hp
    have h8 : i < 8 := by obtain ⟨o, ho, _⟩ := hp; have := (Array.getElem?_eq_some_iff.1 ho).1; omega
    have h8' : L.size = 8 := by omega
    rcases i with _ | _ | _ | _ | _ | _ | _ | _ | i
    case' succ.succ.succ.succ.succ.succ.succ.succ => omega
    case zero =>
      obtain ⟨ho, hg, hop, hd⟩ := mo_0
      refine wpOp_value (v := .slice A n c) (w' := u) ho hg ?_ ?_
      · have := hI.old.cell hc
        unfold execOp; rw [hop]; dsimp only; go_simp
      · rw [hd]
        exact ⟨s7, s8, .slice A n c, s11, s12, s13, by simp only [Act.put, List.setIfInBounds_toArray, List.set_cons_zero, List.set_cons_succ], hI.put0 h8'⟩
    case succ.zero =>
      obtain ⟨ho, hg, hop, hd⟩ := mo_1
      obtain rfl := hI.l0 (pre_of (by kernel_rfl) hp)
      refine wpOp_value (v := .int .i64 n) (w' := u) ho hg ?_ ?_
      · unfold execOp; rw [hop]; dsimp only; go_simp
      · rw [hd]
        exact ⟨s7, s8, .slice A n c, .int .i64 n, s12, s13, by simp only [Act.put, List.setIfInBounds_toArray, List.set_cons_zero, List.set_cons_succ], hI.put1 h8'⟩
    case succ.succ.zero =>
      obtain ⟨ho, hg, hop, hd⟩ := mo_2
      obtain rfl := hI.l1 (pre_of (by kernel_rfl) hp)
      refine wpOp_value (v := .slice (some ⟨u.heap.size, 0, none⟩) n n) (w' := u.alloc (.cells (madeCells #[.int .i64 0] n) 2 (0, 0))) ho hg ?_ ?_
      · have := hmk u
        unfold execOp; rw [hop]; dsimp only; go_simp
      · rw [hd]
        exact ⟨s7, s8, s10, .int .i64 n, _, s13, by simp only [Act.put, List.setIfInBounds_toArray, List.set_cons_zero, List.set_cons_succ], hI.put2 h8' hf (by simp [madeCells])⟩
    case succ.succ.succ.zero =>
      obtain ⟨ho, hg, hop, hd⟩ := mo_3
      refine wpOp_value (v := .chan (some u.heap.size)) (w' := u.alloc (.chan 0 #[] false 0 0 false)) ho hg ?_ ?_
      · have := hmc u
        unfold execOp; rw [hop]; dsimp only; go_simp
      · rw [hd]
        exact ⟨s7, s8, s10, s11, s12, _, by simp only [Act.put, List.setIfInBounds_toArray, List.set_cons_zero, List.set_cons_succ], hI.put3 h8' hf⟩
    case succ.succ.succ.succ.zero =>
      obtain ⟨ho, hg, hop, hd⟩ := mo_4
      refine wpOp_value (v := .pointer (some ⟨u.heap.size, 0, none⟩)) (w' := u.alloc (.cells #[.slice none 0 0] 26 (0, 0))) ho hg ?_ ?_
      · unfold execOp; rw [hop]; dsimp only; go_simp
      · rw [hd]
        exact ⟨_, s8, s10, s11, s12, s13, by simp only [Act.put, List.setIfInBounds_toArray, List.set_cons_zero, List.set_cons_succ], hI.put4 h8' hf⟩
    case succ.succ.succ.succ.succ.zero =>
      obtain ⟨ho, hg, hop, hd⟩ := mo_5
      refine wpOp_value (v := .pointer (some ⟨u.heap.size, 0, none⟩)) (w' := u.alloc (.cells #[.chan none] 74 (0, 0))) ho hg ?_ ?_
      · unfold execOp; rw [hop]; dsimp only; go_simp
      · rw [hd]
        exact ⟨s7, _, s10, s11, s12, s13, by simp only [Act.put, List.setIfInBounds_toArray, List.set_cons_zero, List.set_cons_succ], hI.put5 h8' hf⟩
    case succ.succ.succ.succ.succ.succ.zero =>
      obtain ⟨ho, hg, hop, hd⟩ := mo_6
      obtain ⟨g, rfl, ⟨y, hy⟩, hI'⟩ := hI.put6 h8' (pre_of (by kernel_rfl) hp) (pre_of (by kernel_rfl) hp)
      obtain ⟨g2, zs, _, rfl, _, _⟩ := hI.l2 (pre_of (by kernel_rfl) hp)
      refine wpOp_skip (w' := u.setCell ⟨g, 0, none⟩ (.slice (some ⟨g2, 0, none⟩) n n)) ho hg ?_ ?_
      · have h1 := cell_of hy 0
        have h2 : u.frozen? ⟨g, 0, none⟩ = false := by unfold World.frozen?; rw [hy]; rfl
        simp only [List.getElem?_toArray, List.getElem?_cons_zero] at h1
        unfold execOp; rw [hop]; dsimp only; go_simp
      · rw [hd]
        exact ⟨_, s8, s10, s11, _, s13, rfl, hI'⟩
    case succ.succ.succ.succ.succ.succ.succ.zero =>
      obtain ⟨ho, hg, hop, hd⟩ := mo_7
      obtain ⟨g, rfl, ⟨y, hy⟩, hI'⟩ := hI.put7 h8' (pre_of (by kernel_rfl) hp) (pre_of (by kernel_rfl) hp)
      obtain ⟨g2, _, rfl, _⟩ := hI.l3 (pre_of (by kernel_rfl) hp)
      refine wpOp_skip (w' := u.setCell ⟨g, 0, none⟩ (.chan (some g2))) ho hg ?_ ?_
      · have h1 := cell_of hy 0
        have h2 : u.frozen? ⟨g, 0, none⟩ = false := by unfold World.frozen?; rw [hy]; rfl
        simp only [List.getElem?_toArray, List.getElem?_cons_zero] at h1
        unfold execOp; rw [hop]; dsimp only; go_simp
      · rw [hd]
        exact ⟨s7, _, s10, s11, s12, _, rfl, hI'⟩
  · rintro L a u hL ⟨s7, s8, s10, s11, s12, s13, rfl, hI⟩ hall
    exact ⟨rfl, hK _ _ _ _ _ _ u L (fun i hi => hall i (by omega)) hI⟩
  · unfold unl
    rw [List.filter_eq_self.2 (fun i hi => by
      have := List.mem_range.1 hi
      simp [Array.getD_eq_getD_getElem?, this])]
    simp
  · have e : ∀ i, i < 8 → (Array.replicate (opsOf sR1).size false).getD i true = false := fun i hi => by
      rw [hsz, Array.getD_eq_getD_getElem?]; simp [hi]
    refine ⟨x7, x8, x10, x11, x12, x13, rfl, OldSame.heap rfl, ?_, ?_, ?_, ?_, ?_, ?_, ?_, ?_⟩ <;> (intro h; rw [e _ (by omega)] at h; cases h)
end Go.Proofs.Ytmfglflahlddbaa
namespace Go.Proofs.Ytmfglflahlddbaa
open Go.ChangeShapes Go.WideShapes Go.ChangeAt Go.RowKit Sm Go.Conc
set_option linter.unusedVariables false
theorem s_r0 {K : Act → World → Prop} (A : Option Addr) (ln lc : Nat) (n : Int) (f : FuncId) (cp : Array Value) (x3 x4 x5 x6 x7 x8 x9 x10 x11 x12 x13 x14 x15 x16 x17 x18 x19 x20 x21 x22 x23 x24 x25 x26 : Value) (w : World)
    (hK : ∀ w', OldSame w w' → w'.heap[w.heap.size]? = some (.cells #[.slice A ln lc] 26 (0, 0)) → w'.heap[w.heap.size + 1]? = some (.cells #[.int .i64 n] 2 (0, 0)) → w'.heap[w.heap.size + 2]? = some (.cells #[.func (.func f) #[] cp] 58 (0, 0)) →
      K ⟨#[.slice A ln lc, .int .i64 n, .func (.func f) #[] cp, .pointer (some ⟨w.heap.size, 0, none⟩), .pointer (some ⟨w.heap.size + 1, 0, none⟩), .pointer (some ⟨w.heap.size + 2, 0, none⟩), .slice none 0 0, x7, x8, x9, x10, x11, x12, x13, x14, x15, x16, x17, x18, x19, x20, x21, x22, x23, x24, x25, x26], []⟩ w') :
    sR0.wp Try.prog (QN K) ⟨#[.slice A ln lc, .int .i64 n, .func (.func f) #[] cp, x3, x4, x5, x6, x7, x8, x9, x10, x11, x12, x13, x14, x15, x16, x17, x18, x19, x20, x21, x22, x23, x24, x25, x26], []⟩ w := by
  obtain ⟨w1, hw1⟩ : ∃ w1, w1 = w.alloc (.cells #[.slice A ln lc] 26 (0, 0)) := ⟨_, rfl⟩
  obtain ⟨w2, hw2⟩ : ∃ w2, w2 = w1.alloc (.cells #[.int .i64 n] 2 (0, 0)) := ⟨_, rfl⟩
  obtain ⟨w3, hw3⟩ : ∃ w3, w3 = w2.alloc (.cells #[.func (.func f) #[] cp] 58 (0, 0)) := ⟨_, rfl⟩
  have s1 : w1.heap.size = w.heap.size + 1 := by rw [hw1]; simp
  have s2 : w2.heap.size = w.heap.size + 2 := by rw [hw2]; simp [s1]
  have hfin := Lib.hid (hK w3 (by rw [hw3, hw2, hw1]; exact ((al_same _ _).trans (al_same _ _)).trans (al_same _ _)) (by rw [hw3, hw2, hw1]; exact al_old (al_old (al_new _ _)))
    (by rw [hw3, hw2]; rw [← s1]; exact al_old (al_new _ _)) (by rw [hw3, ← s2]; exact al_new _ _))
  rw [hw3, hw2, hw1] at hfin
  clear hK hw1 hw2 hw3 s1 s2
  unfold sR0  sAll Try.f31
  dsimp only [sq1, sq2, inBl, opsOf]
  go_wp2_with fail
  exact ⟨rfl, by simpa using hfin.out⟩
theorem s_r2 {K : Act → World → Prop} (z0 z1 z2 z3 z5 z6 z7 z8 x9 x10 x11 x12 x13 x14 x15 x16 x17 x18 x19 x20 x21 x22 x23 x24 x25 x26 : Value) (n : Int) (a4 : Addr) (w : World) (hc : w.cell? a4 = some (.int .i64 n))
    (hK : K ⟨#[z0, z1, z2, z3, .pointer (some a4), z5, z6, z7, z8, x9, x10, x11, x12, x13, .int .i64 n, .int .i64 0, x16, x17, x18, x19, x20, x21, x22, x23, x24, x25, x26], []⟩ w) :
    sR2.wp Try.prog (QN K) ⟨#[z0, z1, z2, z3, .pointer (some a4), z5, z6, z7, z8, x9, x10, x11, x12, x13, x14, x15, x16, x17, x18, x19, x20, x21, x22, x23, x24, x25, x26], []⟩ w := by
  unfold sR2 sLp1 sAll Try.f31
  dsimp only [sq1, sq2, inBl, opsOf]
  go_wp2_with fail
  exact ⟨rfl, hK⟩

theorem s_enter (p0 p1 p2 : Value) : Frame.enter Try.prog 31 #[p0, p1, p2] .normal =
    sB.at ⟨#[p0, p1, p2, undef, undef, undef, undef, undef, undef, undef, undef, undef, undef, undef, undef, undef, undef, undef, undef, undef, undef, undef, undef, undef, undef, undef, undef], []⟩ [.code (.seq sR0 (.seq sR1 (.seq (.seq sR2 (.block 0 (.loop sL1))) (.seq (.seq sR7 (.block 2 (.loop sL2))) sEnd))))] := by
  have h1 : Try.prog.funcs[31]? = some Try.f31 := by kernel_rfl
  have h2 : Try.f31.ntmps = 27 := by kernel_rfl
  have e : #[p0, p1, p2] ++ Array.replicate (27 - #[p0, p1, p2].size) undef = #[p0, p1, p2, undef, undef, undef, undef, undef, undef, undef, undef, undef, undef, undef, undef, undef, undef, undef, undef, undef, undef, undef, undef, undef, undef, undef, undef] := by
    apply Array.ext'
    simp [List.replicate]
  rw [enter_eq h1 h2 s_body, e]
  rfl

/-- ████ FROM THE ENTRY TO THE FIRST LOOP's HEAD ████ -/
theorem shared_in (v : World) (A : Option Addr) (ln lc n bL bM bD : Nat) (hl : ln ≤ 60) (cs : List Frame) : ∃ t1 v' b1 b2 b3 b4 b5 bO bC,
    Steps Try.prog (lone (Frame.enter Try.prog 31 #[.slice A ln lc, .int .i64 n, .func (.func 32) #[] #[.pointer (some ⟨bL, 0, none⟩), .pointer (some ⟨bM, 0, none⟩), .pointer (some ⟨bD, 0, none⟩)]] .normal) cs v) (lone (sB.at ⟨t1, []⟩ sH1) cs v') ∧
    S1 b1 b2 b3 b4 b5 n 0 t1 ∧ OldSame v v' ∧ (v.heap.size ≤ b1 ∧ v.heap.size ≤ b2 ∧ v.heap.size ≤ b3 ∧ v.heap.size ≤ b4 ∧ v.heap.size ≤ b5 ∧ v.heap.size ≤ bO) ∧ (b1 < bO ∧ b2 < bO ∧ b3 < bO ∧ b4 ≠ bO ∧ b5 ≠ bO) ∧
    (∃ el fz, v'.heap[b1]? = some (.cells #[.slice A ln lc] el fz)) ∧ (∃ el fz, v'.heap[b2]? = some (.cells #[.int .i64 n] el fz)) ∧
    (∃ el fz, v'.heap[b3]? = some (.cells #[.func (.func 32) #[] #[.pointer (some ⟨bL, 0, none⟩), .pointer (some ⟨bM, 0, none⟩), .pointer (some ⟨bD, 0, none⟩)]] el fz)) ∧ (∃ el fz, v'.heap[b4]? = some (.cells #[.slice (some ⟨bO, 0, none⟩) ln ln] el fz)) ∧
    (∃ el fz, v'.heap[b5]? = some (.cells #[.chan (some bC)] el fz)) ∧ (∃ zs0, v'.heap[bO]? = some (.cells zs0 2 (0, 0)) ∧ zs0.size = ln) ∧ chansOf v' bC := by
  obtain ⟨t1, v1, ⟨rfl, o1, e1, e2, e3⟩, hs1⟩ := wp_steps (P := Try.prog) (K := fun a u => a = ⟨#[.slice A ln lc, .int .i64 n, .func (.func 32) #[] #[.pointer (some ⟨bL, 0, none⟩), .pointer (some ⟨bM, 0, none⟩), .pointer (some ⟨bD, 0, none⟩)], .pointer (some ⟨v.heap.size, 0, none⟩), .pointer (some ⟨v.heap.size + 1, 0, none⟩), .pointer (some ⟨v.heap.size + 2, 0, none⟩), .slice none 0 0, undef, undef, undef, undef, undef, undef, undef, undef, undef, undef, undef, undef, undef, undef, undef, undef, undef, undef, undef, undef], []⟩ ∧ OldSame v u ∧
      u.heap[v.heap.size]? = some (.cells #[.slice A ln lc] 26 (0, 0)) ∧ u.heap[v.heap.size + 1]? = some (.cells #[.int .i64 n] 2 (0, 0)) ∧ u.heap[v.heap.size + 2]? = some (.cells #[.func (.func 32) #[] #[.pointer (some ⟨bL, 0, none⟩), .pointer (some ⟨bM, 0, none⟩), .pointer (some ⟨bD, 0, none⟩)]] 58 (0, 0)))
    (s_r0 A ln lc n 32 #[.pointer (some ⟨bL, 0, none⟩), .pointer (some ⟨bM, 0, none⟩), .pointer (some ⟨bD, 0, none⟩)] undef undef undef undef undef undef undef undef undef undef undef undef undef undef undef undef undef undef undef undef undef undef undef undef v (fun w' h1 h2 h3 h4 => ⟨rfl, h1, h2, h3, h4⟩)) sB [.code (.seq sR1 (.seq (.seq sR2 (.block 0 (.loop sL1))) (.seq (.seq sR7 (.block 2 (.loop sL2))) sEnd)))] cs
  have hc3 : v1.cell? ⟨v.heap.size, 0, none⟩ = some (.slice A ln lc) := by rw [cell_of e1]; rfl
  obtain ⟨t2, v2, ⟨y7, y8, y10, y11, y12, y13, L, rfl, hall, hI⟩, hs2⟩ := wp_steps (P := Try.prog) (K := fun a u => ∃ y7 y8 y10 y11 y12 y13 L, a = ⟨#[.slice A ln lc, .int .i64 n, .func (.func 32) #[] #[.pointer (some ⟨bL, 0, none⟩), .pointer (some ⟨bM, 0, none⟩), .pointer (some ⟨bD, 0, none⟩)], .pointer (some ⟨v.heap.size, 0, none⟩), .pointer (some ⟨v.heap.size + 1, 0, none⟩), .pointer (some ⟨v.heap.size + 2, 0, none⟩), .slice none 0 0, y7, y8, undef, y10, y11, y12, y13, undef, undef, undef, undef, undef, undef, undef, undef, undef, undef, undef, undef, undef], []⟩ ∧ (∀ i, i < 8 → L.getD i true = true) ∧ MkInv v1 A ln lc L y7 y8 y10 y11 y12 y13 u)
    (s_make _ _ _ _ _ _ undef undef undef undef undef undef undef undef undef undef undef undef undef undef undef undef undef undef undef undef ⟨v.heap.size, 0, none⟩ A ln lc v1 hc3 hl (fun y7 y8 y10 y11 y12 y13 w' L h1 h2 => ⟨y7, y8, y10, y11, y12, y13, L, rfl, h1, h2⟩)) sB [.code (.seq (.seq sR2 (.block 0 (.loop sL1))) (.seq (.seq sR7 (.block 2 (.loop sL2))) sEnd))] cs
  obtain ⟨bO, zs0, p1, rfl, p3, p4⟩ := hI.l2 (hall 2 (by omega))
  obtain ⟨bC, q1, rfl, q3⟩ := hI.l3 (hall 3 (by omega))
  obtain ⟨b4, r1, rfl, r3⟩ := hI.l4 (hall 4 (by omega))
  obtain ⟨b5, u1, rfl, u3⟩ := hI.l5 (hall 5 (by omega))
  rw [if_pos (hall 6 (by omega))] at r3
  rw [if_pos (hall 7 (by omega))] at u3
  have hsz := o1.size
  have hb2 := (Array.getElem?_eq_some_iff.1 e3).1
  obtain ⟨t3, v3, ⟨rfl, rfl⟩, hs3⟩ := wp_steps (P := Try.prog) (K := fun a u => a = ⟨#[.slice A ln lc, .int .i64 n, .func (.func 32) #[] #[.pointer (some ⟨bL, 0, none⟩), .pointer (some ⟨bM, 0, none⟩), .pointer (some ⟨bD, 0, none⟩)], .pointer (some ⟨v.heap.size, 0, none⟩), .pointer (some ⟨v.heap.size + 1, 0, none⟩), .pointer (some ⟨v.heap.size + 2, 0, none⟩), .slice none 0 0, .pointer (some ⟨b4, 0, none⟩), .pointer (some ⟨b5, 0, none⟩), undef, y10, y11, .slice (some ⟨bO, 0, none⟩) ln ln, .chan (some bC), .int .i64 n, .int .i64 0, undef, undef, undef, undef, undef, undef, undef, undef, undef, undef, undef], []⟩ ∧ u = v2)
    (s_r2 _ _ _ _ _ _ _ _ undef y10 y11 _ _ undef undef undef undef undef undef undef undef undef undef undef undef undef n ⟨v.heap.size + 1, 0, none⟩ v2 (by rw [cell_of (hI.old.get e2)]; rfl) ⟨rfl, rfl⟩) sB [.code (.block 0 (.loop sL1)), .code (.seq (.seq sR7 (.block 2 (.loop sL2))) sEnd)] cs
  refine ⟨#[.slice A ln lc, .int .i64 n, .func (.func 32) #[] #[.pointer (some ⟨bL, 0, none⟩), .pointer (some ⟨bM, 0, none⟩), .pointer (some ⟨bD, 0, none⟩)], .pointer (some ⟨v.heap.size, 0, none⟩), .pointer (some ⟨v.heap.size + 1, 0, none⟩), .pointer (some ⟨v.heap.size + 2, 0, none⟩), .slice none 0 0, .pointer (some ⟨b4, 0, none⟩), .pointer (some ⟨b5, 0, none⟩), undef, y10, y11, .slice (some ⟨bO, 0, none⟩) ln ln, .chan (some bC), .int .i64 n, .int .i64 (0 : Nat), undef, undef, undef, undef, undef, undef, undef, undef, undef, undef, undef], v3, v.heap.size, v.heap.size + 1, v.heap.size + 2, b4, b5, bO, bC, ?_, ⟨_, _, _, _, _, _, _, _, _, _, _, _, _, _, _, _, _, _, _, _, rfl⟩, o1.trans hI.old, ⟨by omega, by omega, by omega, by omega, by omega, by omega⟩, ⟨by omega, by omega, by omega, (fun e => by rw [e, p4] at r3; cases r3), (fun e => by rw [e, p4] at u3; cases u3)⟩, ⟨_, _, hI.old.get e1⟩, ⟨_, _, hI.old.get e2⟩, ⟨_, _, hI.old.get e3⟩, ⟨_, _, r3⟩, ⟨_, _, u3⟩, ⟨zs0, p4, p3⟩, ⟨_, _, q3⟩⟩
  rw [s_enter]
  refine .head step_seq (Steps.trans hs1 (.head step_seq (Steps.trans hs2 ?_)))
  exact .head step_seq (.head step_seq (Steps.trans hs3 (.head step_block (.one step_loop))))
end Go.Proofs.Ytmfglflahlddbaa
namespace Go.Proofs.Ytmfglflahlddbaa
open Go.ChangeShapes Go.WideShapes Go.ChangeAt Go.RowKit Sm Go.Conc
set_option linter.unusedVariables false
noncomputable def sR11 : Code := sq1 sEnd
theorem s_end : sEnd = .seq sR11 .ret := by kernel_rfl
theorem s_r11 {K : Act → World → Prop} (z0 z1 z2 z3 z4 z5 z6 z8 x9 x10 x11 x12 x13 x14 x15 x16 x17 x18 x19 x20 x21 x22 x23 x24 x25 x26 : Value) (A : Option Addr) (n c : Nat) (a7 : Addr) (w : World) (hc : w.cell? a7 = some (.slice A n c))
    (hK : K ⟨#[z0, z1, z2, z3, z4, z5, .slice A n c, .pointer (some a7), z8, x9, x10, x11, x12, x13, x14, x15, x16, x17, x18, x19, x20, x21, x22, x23, x24, x25, .slice A n c], []⟩ w) :
    sR11.wp Try.prog (QN K) ⟨#[z0, z1, z2, z3, z4, z5, z6, .pointer (some a7), z8, x9, x10, x11, x12, x13, x14, x15, x16, x17, x18, x19, x20, x21, x22, x23, x24, x25, x26], []⟩ w := by
  unfold sR11 sEnd sAll Try.f31
  dsimp only [sq1, sq2, inBl, opsOf]
  go_wp2_with fail
  exact ⟨rfl, hK⟩

theorem shared_out {b1 b2 b3 b4 b5 n ln bO : Nat} {t : Array Value} {v : World} (h1 : 1 ≤ n ∧ n ≤ 8) (hS : S2 b1 b2 b3 b4 b5 n (n - 1) t) (h4 : v.cell? ⟨b4, 0, none⟩ = some (.slice (some ⟨bO, 0, none⟩) ln ln)) (c : Frame) (cs : List Frame) :
    Steps Try.prog (lone (sB.at ⟨t, []⟩ (.inRegion (opsOf sR9) [] :: sK2)) (c :: cs) v) (lone (c.finish (.slice (some ⟨bO, 0, none⟩) ln ln)) cs v) := by
  obtain ⟨t1, hS1, hs1⟩ := recv_next (v := v) hS (by omega) (c :: cs)
  rw [show n - 1 + 1 = n from by omega] at hS1
  obtain ⟨t2, hS2, hs2⟩ := head2_exit (v := v) hS1 (c :: cs)
  obtain ⟨z0, z1, z2, z6, x9, x10, x11, x12, x13, x14, x15, x16, x17, x18, x19, x22, x23, x24, x25, x26, rfl⟩ := hS2
  obtain ⟨t3, v3, ⟨⟨t, rfl, ht⟩, rfl⟩, hs3⟩ := wp_steps (P := Try.prog) (K := fun a u => (∃ t : Array Value, a = ⟨t, []⟩ ∧ t.getD 6 undef = .slice (some ⟨bO, 0, none⟩) ln ln) ∧ u = v)
    (s_r11 z0 z1 z2 _ _ _ z6 _ x9 x10 x11 x12 x13 x14 x15 x16 x17 x18 x19 _ _ x22 x23 x24 x25 x26 _ ln ln ⟨b4, 0, none⟩ v h4 ⟨⟨_, rfl, rfl⟩, rfl⟩) sB [.code .ret] (c :: cs)
  refine Steps.trans hs1 (Steps.trans hs2 ?_)
  rw [s_end]
  refine .head step_seq (Steps.trans hs3 (.head step_ret (.one (step_leave_returned ?_))))
  refine ⟨rfl, rfl, rfl, Try.f31, by kernel_rfl, ?_⟩
  rw [results_tmp (t := 6) (by kernel_rfl)]
  exact congrArg (fun x => Result.ok x _) ht
end Go.Proofs.Ytmfglflahlddbaa
