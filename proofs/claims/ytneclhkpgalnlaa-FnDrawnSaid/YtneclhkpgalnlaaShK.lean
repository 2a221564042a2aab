/-
  A region that draws its order, by what holds of the operations that have been.
-/
import Derived.Test.YtneclhkpgalnlaaShI
namespace Go.Proofs.Ytneclhkpgalnlaa.Sm
open Go Go.Conc
set_option linter.unusedVariables false

theorem ready_some {md : Region.Mode} {ops : Array Oper} (hlt : ∀ (i : Nat) o, ops[i]? = some o → ∀ e ∈ o.after, Region.binds md e = true → e.on < i) {listed : Array Bool} (hs : listed.size = ops.size) :
    ∀ m, (∃ i, i < m ∧ i < ops.size ∧ listed.getD i true = false) → ∃ i, i ∈ Region.ready md ops listed := by
  intro m
  induction m with
  | zero => rintro ⟨i, h, _⟩; omega
  | succ m ihm =>
    rintro ⟨i, h1, h2, h3⟩
    by_cases hex : ∃ i, i < m ∧ i < ops.size ∧ listed.getD i true = false
    · exact ihm hex
    · have him : i = m := by
        rcases Nat.lt_or_ge i m with h | h
        · exact absurd ⟨i, h, h2, h3⟩ hex
        · omega
      subst him
      refine ⟨i, mem_ready.2 ⟨h3, ops[i]'(by omega), by simp, fun e he hb => ?_⟩⟩
      have hlt' := hlt i (ops[i]'(by omega)) (by simp) e he hb
      cases hd : listed.getD e.on true with
      | false => exact absurd ⟨e.on, hlt', by omega, hd⟩ hex
      | true =>
        rw [Array.getD_eq_getD_getElem?] at hd ⊢
        rw [Array.getElem?_eq_getElem (by omega)] at hd ⊢
        simpa using hd

theorem wpAny_inv {P : Program} {md : Region.Mode} {ops : Array Oper} {Q : Exit → Act → World → Prop} {Inv : Array Bool → Act → World → Prop} (hlt : ∀ (i : Nat) o, ops[i]? = some o → ∀ e ∈ o.after, Region.binds md e = true → e.on < i)
    (hstep : ∀ (listed : Array Bool) (a : Act) (w : World) (i : Nat), listed.size = ops.size → Inv listed a w → listed.getD i true = false → (∃ o, ops[i]? = some o ∧ ∀ e ∈ o.after, Region.binds md e = true → listed.getD e.on false = true) → wpOp P ops Q i (Inv (listed.setIfInBounds i true)) a w)
    (hend : ∀ (listed : Array Bool) (a : Act) (w : World), listed.size = ops.size → Inv listed a w → (∀ i, i < ops.size → listed.getD i true = true) → Q .normal a w) :
    ∀ (fuel : Nat) (listed : Array Bool) (a : Act) (w : World), listed.size = ops.size → fuel = (unl ops.size listed).length → Inv listed a w → wpAny P md ops Q fuel listed a w := by
  have all : ∀ listed : Array Bool, listed.size = ops.size → Region.ready md ops listed = [] → ∀ i, i < ops.size → listed.getD i true = true := by
    intro listed hs hr i hi
    cases h : listed.getD i true with
    | true => rfl
    | false =>
      obtain ⟨j, hj⟩ := ready_some hlt hs (i + 1) ⟨i, by omega, hi, h⟩
      rw [hr] at hj; cases hj
  intro fuel
  induction fuel with
  | zero =>
    intro listed a w hs hf hi
    have he : Region.ready md ops listed = [] := by
      rw [List.eq_nil_iff_forall_not_mem]
      intro i hm
      obtain ⟨h1, o, h2, _⟩ := mem_ready.1 hm
      have : i ∈ unl ops.size listed := List.mem_filter.2 ⟨List.mem_range.2 (Array.getElem?_eq_some_iff.1 h2).1, by rw [h1]; rfl⟩
      rw [List.eq_nil_of_length_eq_zero hf.symm] at this
      cases this
    exact ⟨he, hend listed a w hs hi (all listed hs he)⟩
  | succ fuel ih =>
    intro listed a w hs hf hi
    refine ⟨fun hr => hend listed a w hs hi (all listed hs hr), fun i hm => ?_⟩
    obtain ⟨h1, o, h2, h3⟩ := mem_ready.1 hm
    have hun := unl_set hs (Array.getElem?_eq_some_iff.1 h2).1 h1
    exact wpOp_mono (fun a w h => ih _ a w (by simpa using hs) (by omega) h) (hstep listed a w i hs hi h1 ⟨o, h2, h3⟩)

theorem wpOp_value {P : Program} {ops : Array Oper} {Q : Exit → Act → World → Prop} {i : Nat} {o : Oper} {K : Act → World → Prop} {a : Act} {w w' : World} {v : Value} (ho : ops[i]? = some o) (hg : o.guard = none) (hr : (execOp a.eval o).run P w = .ok (.value v) w') (hK : K (a.put o.dst v) w') : wpOp P ops Q i K a w := by
  unfold wpOp
  rw [ho]
  simp only [wanted_none hg, if_true]
  refine .inl ?_
  simp only [Oper.wp, Oper.upon, hr]
  exact hK
theorem wpOp_skip {P : Program} {ops : Array Oper} {Q : Exit → Act → World → Prop} {i : Nat} {o : Oper} {K : Act → World → Prop} {a : Act} {w w' : World} (ho : ops[i]? = some o) (hg : o.guard = none) (hr : (execOp a.eval o).run P w = .ok .skip w') (hK : K (a.put o.dst undef) w') : wpOp P ops Q i K a w := by
  unfold wpOp
  rw [ho]
  simp only [wanted_none hg, if_true]
  refine .inl ?_
  simp only [Oper.wp, Oper.upon, hr]
  exact hK
theorem set_at {l : Array Bool} {i j : Nat} (h : i < l.size) : (l.setIfInBounds i true).getD j true = (if j = i then true else l.getD j true) := by
  simp only [Array.getD_eq_getD_getElem?, Array.getElem?_setIfInBounds]
  by_cases e : i = j
  · subst e; simp [h]
  · simp [e, Ne.symm e]
end Go.Proofs.Ytneclhkpgalnlaa.Sm
