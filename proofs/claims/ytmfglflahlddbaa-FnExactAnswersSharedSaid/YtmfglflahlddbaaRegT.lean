/-
  A REGION THAT DRAWS ITS ORDER, with loads that may be taken first: a condition on the world is shown anew behind each operation, but no longer once a store has come up (the stores wait for every load).
-/
import Derived.Test.YtmfglflahlddbaaMem
import Derived.OrdersHeld
import Derived.RegionTactic
import Derived.StillTail
namespace Go.Proofs.Ytmfglflahlddbaa
set_option linter.unusedVariables false

section
variable {P : Program} {ops : Array Oper} {Q : Exit → Act → World → Prop} {md : Region.Mode} {S : World → Prop} {B : List Nat}
/-- no store has come up -/
def noSt (B : List Nat) (listed : Array Bool) : Bool := B.all fun b => !listed.getD b false
def wpAnyT (P : Program) (md : Region.Mode) (ops : Array Oper) (Q : Exit → Act → World → Prop) (S : World → Prop) (B : List Nat) : Nat → Array Bool → Act → World → Prop
  | 0, listed, a, w => Region.ready md ops listed = [] ∧ Q .normal a w
  | fuel + 1, listed, a, w =>
    (Region.ready md ops listed = [] → Q .normal a w) ∧
    ∀ i ∈ Region.ready md ops listed, wpOp P ops Q i (fun a' w' => (noSt B (listed.setIfInBounds i true) = true → S w') ∧ wpAnyT P md ops Q S B fuel (listed.setIfInBounds i true) a' w') a w
theorem wpAny_of_T : ∀ (fuel : Nat) (listed : Array Bool) (a : Act) (w : World), wpAnyT P md ops Q S B fuel listed a w → wpAny P md ops Q fuel listed a w
  | 0, _, _, _, h => h
  | fuel + 1, _, _, _, h => ⟨h.1, fun i hi => wpOp_mono (fun a' w' h' => wpAny_of_T fuel _ a' w' h'.2) (h.2 i hi)⟩
theorem noSt_iff {listed : Array Bool} : noSt B listed = true ↔ ∀ b ∈ B, listed.getD b false = false := by simp [noSt]
theorem noSt_less {listed : Array Bool} {i : Nat} (h : noSt B (listed.setIfInBounds i true) = true) : noSt B listed = true := by
  rw [noSt_iff] at *
  intro b hb
  cases e : listed.getD b false
  · rfl
  · have := h b hb
    rw [getD_set_true e] at this
    cases this
theorem noSt_set {listed : Array Bool} {i : Nat} (h : noSt B listed = true) (hi : i ∉ B) : noSt B (listed.setIfInBounds i true) = true := by
  rw [noSt_iff] at *
  intro b hb
  rw [getD_set_ne false (fun e => hi (by rw [e]; exact hb))]
  exact h b hb
/-- every store waits for operation i -/
def allWait (md : Region.Mode) (ops : Array Oper) (B : List Nat) (i : Nat) : Bool := B.all fun b => Region.waitsFor md ops b i
theorem wait_not {i j : Nat} {listed : Array Bool} (hw : allWait md ops B i = true) (hj : j ∈ Region.ready md ops listed) (hi : i ∈ Region.ready md ops listed) : j ∉ B := by
  intro hb
  unfold allWait at hw
  rw [List.all_eq_true] at hw
  obtain ⟨oj, hoj, e, he, hbd, hon⟩ := Region.waitsFor_spec (hw j hb)
  obtain ⟨_, oj', hoj', hall⟩ := mem_ready.1 hj
  rw [hoj] at hoj'
  cases hoj'
  have h1 := hall e he hbd
  rw [hon] at h1
  have h0 := (mem_ready.1 hi).1
  rcases Nat.lt_or_ge i listed.size with h' | h'
  · simp [h'] at h0 h1; rw [h0] at h1; cases h1
  · simp [Array.getElem?_eq_none h'] at h1
theorem wpAnyT_first {i : Nat} {oi : Oper} {v : Value} {S' : World → Prop} (hi : ops[i]? = some oi) (hsel : ∀ (j : Nat) (o : Oper) cs b, ops[j]? = some o → o.op ≠ .select cs b)
    (hQ : ∀ c a w, Q (.panic c) (a.put oi.dst v) w → Q (.panic c) a w) (hSS : ∀ w, S w → S' w) (hiB : i ∉ B) (hcase : (∀ w, S' w) ∨ allWait md ops B i = true) :
    ∀ (fuel : Nat) (listed : Array Bool) (a : Act) (w : World),
      (∀ j oj, ops[j]? = some oj → j ≠ i → listed.getD j true = false → (∀ e ∈ oj.after, Region.binds md e = true → e.on ≠ i) → oi.apart ops oj = true) →
      i ∈ Region.ready md ops listed → YieldsIf P ops S' oi v a → ((∀ w, S' w) ∨ noSt B listed = true) → (noSt B listed = true → S w) →
      wpAnyT P md ops Q S B fuel (listed.setIfInBounds i true) (a.put oi.dst v) w → wpAnyT P md ops Q S B (fuel + 1) listed a w := by
  intro fuel
  have hS' : ∀ (listed : Array Bool) (w : World), ((∀ w, S' w) ∨ noSt B listed = true) → (noSt B listed = true → S w) → S' w := fun listed w h1 h2 => h1.elim (fun h => h w) (fun h => hSS w (h2 h))
  induction fuel with
  | zero =>
    intro listed a w _ hr hy hN hS H
    refine ⟨fun h => (by rw [h] at hr; cases hr), fun j hj => ?_⟩
    by_cases hji : j = i
    · subst hji; exact hy.wpOp hi (hS' _ _ hN hS) ⟨fun h => hS (noSt_less h), H⟩
    · have := ready_mono hj hji
      rw [H.1] at this
      cases this
  | succ fuel ih =>
    intro listed a w hfree hr hy hN hS H
    refine ⟨fun h => (by rw [h] at hr; cases hr), fun j hj => ?_⟩
    by_cases hji : j = i
    · subst hji; exact hy.wpOp hi (hS' _ _ hN hS) ⟨fun h => hS (noSt_less h), H⟩
    · have h1 := H.2 j (ready_mono hj hji)
      obtain ⟨hjun, oj, hoj, hall⟩ := mem_ready.1 hj
      have hnot : ∀ e ∈ oj.after, Region.binds md e = true → e.on ≠ i := fun e he hb heq => by
        have h1 := hall e he hb
        have h0 := (mem_ready.1 hr).1
        rw [heq] at h1
        rcases Nat.lt_or_ge i listed.size with h' | h'
        · simp [h'] at h0 h1; rw [h0] at h1; cases h1
        · simp [Array.getElem?_eq_none h'] at h1
      have hN2 : (∀ w, S' w) ∨ noSt B (listed.setIfInBounds j true) = true := by
        rcases hN with h | h
        · exact .inl h
        · rcases hcase with h' | h'
          · exact .inl h'
          · exact .inr (noSt_set h (wait_not h' hj hr))
      have hSw : S' w := hS' _ _ hN hS
      have hfree' : ∀ k ok, ops[k]? = some ok → k ≠ i → (listed.setIfInBounds j true).getD k true = false →
          (∀ e ∈ ok.after, Region.binds md e = true → e.on ≠ i) → oi.apart ops ok = true := fun k ok hk hki hun hno => by
        refine hfree k ok hk hki ?_ hno
        by_cases hjk : j = k
        · subst hjk; exact hjun
        · rw [getD_set_ne true hjk] at hun; exact hun
      have h2 := wpOp_putIf (S := S') hoj (hfree j oj hoj hji hjun hnot) (fun cs b => hsel i oi cs b hi) (fun cs b => hsel j oj cs b hoj) hQ hy h1
      refine wpOp_mono (fun a' w' h3 => ?_) h2
      have hS2 : noSt B (listed.setIfInBounds j true) = true → S w' := fun h => h3.2.1 (by
        rw [Array.setIfInBounds_comm _ _ (Ne.symm hji)]
        exact noSt_set h hiB)
      refine ⟨hS2, ih (listed.setIfInBounds j true) a' w' hfree' (ready_mono hr (Ne.symm hji)) h3.1 hN2 hS2 ?_⟩
      rw [Array.setIfInBounds_comm _ _ hji]
      exact h3.2.2
/-- a load is taken first -/
theorem wpAnyT_load {i : Nat} {oi : Oper} {v : Value} {fuel : Nat} {listed : Array Bool} {a : Act} {w : World} (hi : ops[i]? = some oi)
    (hs : Region.noSelect ops = true) (hf : Region.free md ops listed i = true) (hr : (Region.ready md ops listed).contains i = true) (hiB : B.contains i = false) (hw : allWait md ops B i = true) (hn : noSt B listed = true)
    (hQ : ∀ c a w, Q (.panic c) (a.put oi.dst v) w → Q (.panic c) a w) (hS : S w) (hy : YieldsIf P ops S oi v a)
    (h : wpAnyT P md ops Q S B fuel (listed.setIfInBounds i true) (a.put oi.dst v) w) : wpAnyT P md ops Q S B (fuel + 1) listed a w :=
  wpAnyT_first (S' := S) hi (Region.noSelect_spec hs) hQ (fun _ h => h) (by simpa using hiB) (.inr hw) fuel listed a w (Region.free_spec hi hf) (by simpa using hr) hy (.inr hn) (fun _ => hS) h
/-- what yields in whatever world is taken first -/
theorem wpAnyT_take {i : Nat} {oi : Oper} {v : Value} {fuel : Nat} {listed : Array Bool} {a : Act} {w : World} (hi : ops[i]? = some oi)
    (hs : Region.noSelect ops = true) (hf : Region.free md ops listed i = true) (hr : (Region.ready md ops listed).contains i = true) (hiB : B.contains i = false)
    (hQ : ∀ c a w, Q (.panic c) (a.put oi.dst v) w → Q (.panic c) a w) (hS : noSt B listed = true → S w) (hy : Yields P ops oi v a)
    (h : wpAnyT P md ops Q S B fuel (listed.setIfInBounds i true) (a.put oi.dst v) w) : wpAnyT P md ops Q S B (fuel + 1) listed a w :=
  wpAnyT_first (S' := fun _ => True) hi (Region.noSelect_spec hs) hQ (fun _ _ => trivial) (by simpa using hiB) (.inl fun _ => trivial) fuel listed a w (Region.free_spec hi hf) (by simpa using hr) hy.yieldsIf (.inl fun _ => trivial) hS h
def AllT (P : Program) (md : Region.Mode) (ops : Array Oper) (Q : Exit → Act → World → Prop) (S : World → Prop) (B : List Nat) (fuel : Nat) (listed : Array Bool) (a : Act) (w : World) (rs : List Nat) : Prop :=
  ∀ i ∈ rs, wpOp P ops Q i (fun a' w' => (noSt B (listed.setIfInBounds i true) = true → S w') ∧ wpAnyT P md ops Q S B fuel (listed.setIfInBounds i true) a' w') a w
theorem AllT.nil {fuel : Nat} {listed : Array Bool} {a : Act} {w : World} : AllT P md ops Q S B fuel listed a w [] := fun _ h => by cases h
def ShutT (p : Prop) : Prop := p
theorem ShutT.out {p : Prop} (h : ShutT p) : p := h
theorem AllT.cons {fuel : Nat} {listed : Array Bool} {a : Act} {w : World} {i : Nat} {o : Oper} {rs : List Nat} (ho : ops[i]? = some o)
    (h : ∀ K' : Act → World → Prop, ShutT (∀ a w, (noSt B (listed.setIfInBounds i true) = true → S w) → wpAnyT P md ops Q S B fuel (listed.setIfInBounds i true) a w → K' a w) → if Region.wanted o (yielded ops a.tmps) = true then Oper.wp P o a w K' Q else K' (a.put o.dst undef) w)
    (hs : AllT P md ops Q S B fuel listed a w rs) : AllT P md ops Q S B fuel listed a w (i :: rs) := fun j hj => by
  rcases List.mem_cons.1 hj with rfl | hj
  · exact wpOp_step ho (fun K' hK => h K' (fun a w hS hW => hK a w ⟨hS, hW⟩))
  · exact hs j hj
theorem wpAnyT_ready {rs : List Nat} {fuel : Nat} {listed : Array Bool} {a : Act} {w : World} (hr : Region.ready md ops listed = rs) (hne : rs ≠ [])
    (h : AllT P md ops Q S B fuel listed a w rs) : wpAnyT P md ops Q S B (fuel + 1) listed a w := ⟨fun h0 => absurd (hr ▸ h0) hne, hr ▸ h⟩
theorem wpAnyT_done {listed : Array Bool} {a : Act} {w : World} (hr : Region.ready md ops listed = []) (h : Q .normal a w) : ∀ fuel, wpAnyT P md ops Q S B fuel listed a w
  | 0 => ⟨hr, h⟩
  | _ + 1 => ⟨fun _ => h, by rw [hr]; simp⟩
theorem wp_region_T {id : Nat} {a : Act} {w : World} (S : World → Prop) (B : List Nat) (hm : P.follows .mixedOrders = true)
    (h : wpAnyT P .any ops Q S B ops.size (Array.replicate ops.size false) a w.drew) : (Code.region id ops true).wp P Q a w :=
  wp_region_any hm (wpAny_of_T _ _ _ _ h)
end
end Go.Proofs.Ytmfglflahlddbaa
