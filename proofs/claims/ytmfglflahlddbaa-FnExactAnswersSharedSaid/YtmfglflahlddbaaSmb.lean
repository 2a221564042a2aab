/-
  A SIMULATION OF TREES, ON: trees that follow one another (SR), and what their runs give.
-/
import Derived.Test.YtmfglflahlddbaaSma
import Derived.RunT
import Derived.Laws.Sem
namespace Go.Proofs.Ytmfglflahlddbaa.Sm
open Go Go.Conc
set_option linter.unusedVariables false
set_option linter.unusedSimpArgs false

/-! ### a run never takes an answer back -/
theorem ask_le {α : Type} : ∀ (x : Ask α) (w : World), w.drawn ≤ (w.ask x).2.drawn
  | .done a, w => by simp [World.ask]
  | .ask what range k, w => by
    simp only [World.ask]
    split
    · exact ask_le _ w
    · exact Nat.le_trans (Nat.le_succ _) (ask_le (k _) { w with drawn := w.drawn + 1 })

theorem sys_le (w : World) (c : Sys) : w.drawn ≤ (w.sys c).2.drawn := by
  unfold World.sys
  have := ask_le (Kernel.perform c w.os) w
  split
  · exact Nat.le_refl _
  · rename_i r os w1 _ he
    rw [he] at this
    exact this

theorem farStore_drawn {p : Program} {w w1 : World} {a : Addr} {v : Value} {at_ : Bool} {l : List Addr} (h : w.farStore p a v at_ = .ok (w1, l)) : w1.drawn = w.drawn := by
  unfold World.farStore at h
  split at h
  · split at h
    · rename_i r hr
      simp only [Except.ok.injEq] at h
      subst h
      simp only [World.viewStore, bind, Except.bind, pure, Except.pure] at hr
      repeat' split at hr
      all_goals first | (cases hr; done) | skip
      all_goals (simp only [Except.ok.injEq, Prod.mk.injEq] at hr; rw [← hr.1])
    · cases h
  · cases h

theorem run_le {α : Type} (p : Program) (s : Sem α) : ∀ (w : World) (a : α) (w1 : World), s.run p w = .ok a w1 → w.drawn ≤ w1.drawn := by
  induction s with
  | pure a => intro w a' w1 h; simp only [Sem.run, Result.ok.injEq] at h; rw [← h.2]; exact Nat.le_refl _
  | load m a k ih =>
    intro w a' w1 h
    simp only [Sem.run] at h
    split at h
    · exact ih _ _ _ _ h
    · split at h
      · exact ih _ _ _ _ h
      · cases h
  | store m a v k ih =>
    intro w a' w1 h
    unfold Sem.run at h
    split at h
    all_goals try contradiction
    all_goals try (cases h; done)
    rename_i heq
    cases heq
    split at h
    · split at h
      · cases h
      · have := ih _ _ _ h; exact this
    · split at h
      · rename_i hf
        have := farStore_drawn hf
        rw [← this]; exact ih _ _ _ h
      · cases h
  | new o k ih => intro w a' w1 h; exact ih _ { w with heap := w.heap.push o } _ _ h
  | shape r k ih => intro w a' w1 h; exact ih _ _ _ _ h
  | freeze a n k ih => intro w a' w1 h; have := ih _ _ _ h; unfold World.freeze at this; split at this <;> exact this
  | frozen a k ih => intro w a' w1 h; exact ih _ _ _ _ h
  | getObj r k ih =>
    intro w a' w1 h
    simp only [Sem.run] at h
    split at h
    · cases h
    · exact ih _ _ _ _ h
    · cases h
  | setObj r o k ih =>
    intro w a' w1 h
    simp only [Sem.run] at h
    split at h
    · cases h
    · exact ih { w with heap := w.heap.setIfInBounds r o } _ _ h
    · cases h
  | choose q k ih =>
    intro w a' w1 h
    simp only [Sem.run] at h
    split at h
    · exact ih _ _ _ _ h
    · exact Nat.le_trans (Nat.le_succ _) (ih _ { w with drawn := w.drawn + 1 } _ _ h)
  | sys c k ih => intro w a' w1 h; exact Nat.le_trans (sys_le w c) (ih _ _ _ _ h)
  | program k ih => intro w a' w1 h; exact ih _ _ _ _ h
  | mark m k ih => intro w a' w1 h; exact ih _ _ _ h
  | halt h => intro w a' w1 h; cases h

/-! ### trees that follow one another -/
def okHalt : Halt → Prop
  | .panic _ | .stuck _ => True
  | .unsupported (.initOrder _) => False
  | .unsupported _ => True
  | _ => False

def Dead {α : Type} (P : Program) (s : Sem α) : Prop := ∀ w, ∃ h w1, s.run P w = .halt h w1 ∧ okHalt h

/-- What is told of a block's shape: the virtual row may be shorter. -/
def ShR (s s' : Option (TypeId × Nat)) : Prop := (s = none ∧ s' = none) ∨ ∃ e n n', s = some (e, n) ∧ s' = some (e, n') ∧ n ≤ n'

inductive SR (P : Program) (F : FuncId → Prop) {α β : Type} (A : BR → α → β → Prop) : BR → Sem α → Sem β → Prop
  | pure {R : BR} {a : α} {a' : β} (h : A R a a') : SR P F A R (.pure a) (.pure a')
  | load {R : BR} {m : Mode} {a a' : Addr} {k : Value → Sem α} {k' : Value → Sem β} (h : AR R a a') (hk : ∀ v v', VR F R v v' → SR P F A R (k v) (k' v')) : SR P F A R (.load m a k) (.load m a' k')
  | store {R : BR} {m : Mode} {a a' : Addr} {v v' : Value} {k : Sem α} {k' : Sem β} (h : AR R a a') (hv : VR F R v v') (hk : SR P F A R k k') : SR P F A R (.store m a v k) (.store m a' v' k')
  | new {R : BR} {o o' : Obj} {k : Nat → Sem α} {k' : Nat → Sem β} (h : OR F R o o') (hk : ∀ n n', SR P F A (R.ext n n') (k n) (k' n')) : SR P F A R (.new o k) (.new o' k')
  | getObj {R : BR} {r r' : Nat} {k : Obj → Sem α} {k' : Obj → Sem β} (h : R r r') (hk : ∀ o o', OR F R o o' → ¬ IsCells o → SR P F A R (k o) (k' o')) : SR P F A R (.getObj r k) (.getObj r' k')
  | setObj {R : BR} {r r' : Nat} {o o' : Obj} {k : Sem α} {k' : Sem β} (h : R r r') (ho : OR F R o o') (hn : IsMap o) (hk : SR P F A R k k') : SR P F A R (.setObj r o k) (.setObj r' o' k')
  | shape {R : BR} {r r' : Nat} {k : Option (TypeId × Nat) → Sem α} {k' : Option (TypeId × Nat) → Sem β} (h : R r r') (hk : ∀ s s', ShR s s' → SR P F A R (k s) (k' s')) : SR P F A R (.shape r k) (.shape r' k')
  | choose {R : BR} {q : Question} {k : Nat → Sem α} {k' : Nat → Sem β} (hk : ∀ n, SR P F A R (k n) (k' n)) : SR P F A R (.choose q k) (.choose q k')
  | program {R : BR} {k : Program → Sem α} {k' : Program → Sem β} (hk : SR P F A R (k P) (k' P)) : SR P F A R (.program k) (.program k')
  | room {R : BR} {k : Sem α} {k' : Sem β} (hk : SR P F A R k k') : SR P F A R (.mark .noRoom k) (.mark .noRoom k')
  | dead {R : BR} {s : Sem α} {s' : Sem β} (h : Dead P s) : SR P F A R s s'

def Agr (w w' : World) (n : Nat) : Prop := ∀ j q, j < n → w'.tape (w'.drawn + j) q = w.tape (w.drawn + j) q
/-- The tapes agree as far as is asked: throughout, or as far as the real run, which succeeds, asks. -/
def Hyp {β : Type} (P : Program) (s' : Sem β) (w w' : World) : Prop := (∀ n, Agr w w' n) ∨ ∃ a' w1', s'.run P w' = .ok a' w1' ∧ Agr w w' (w1'.drawn - w'.drawn)

section
variable {P : Program} {F : FuncId → Prop}

theorem OR.notCells {R : BR} {o o' : Obj} (h : OR F R o o') (hn : ¬ IsCells o) : ¬ IsCells o' := by
  cases h with
  | cells => exact absurd trivial hn
  | map => simp [IsCells]
  | chan => simp [IsCells]
  | number => simp [IsCells]

theorem setCell_heap (w : World) (b off : Nat) (v : Value) {c : Array Value} {el : TypeId} {fz : Nat × Nat} (h : w.heap[b]? = some (.cells c el fz)) (k : Nat) :
    (w.setCell ⟨b, off, none⟩ v).heap[k]? = if k = b then some (.cells (c.setIfInBounds off v) el fz) else w.heap[k]? := by
  simp only [World.setCell, Array.getElem?_modify]
  by_cases hk : k = b
  · subst hk; simp [h]
  · have : ¬ b = k := fun e => hk e.symm
    simp [hk, this]

/-- A store, on both sides. -/
theorem WR.setCell {R : BR} {w w' : World} (h : WR F R w w') {a a' : Addr} (ha : AR R a a') {v v' : Value} (hv : VR F R v v') (hu : Un w a.block a.off) :
    Stretch F R R w (w.setCell a v) w' (w'.setCell a' v') #[⟨.cell a', true, false⟩] ∧ (w'.cell? a').isSome = true ∧ w'.frozen? a' = false := by
  obtain ⟨hR, hoff, hs', hs⟩ := ha
  obtain ⟨b, off, spot⟩ := a
  obtain ⟨b', off', spot'⟩ := a'
  simp only at hs hs' hoff hR hu
  subst hs hs'
  have hoff := hoff.symm
  subst hoff
  obtain ⟨c, el, fz, hc, hlt, hnf⟩ := hu
  obtain ⟨o, o', ho, ho', hOR⟩ := h.obj b b' hR
  rw [hc] at ho
  simp only [Option.some.injEq] at ho
  subst ho
  cases hOR with
  | @cells _ c' _ _ fz' hcs hfz =>
    obtain ⟨u', hu', _⟩ := hcs off c[off] (by simp [hlt])
    have hlt' : off < c'.size := (Array.getElem?_eq_some_iff.1 hu').1
    have hnf' := hfz off hlt hnf
    have hV := setCell_heap w b off v hc
    have hV' := setCell_heap w' b' (off) v' ho'
    have keepV : KeepV w (w.setCell ⟨b, off, none⟩ v) := by
      refine ⟨by simp [World.setCell], fun b1 c1 el1 fz1 h1 => ?_, fun b1 o1 h1 hn => ?_⟩
      · rw [hV]
        by_cases e : b1 = b
        · subst e
          rw [hc] at h1
          simp only [Option.some.injEq, Obj.cells.injEq] at h1
          obtain ⟨rfl, rfl, rfl⟩ := h1
          refine ⟨_, by rw [if_pos rfl], by simp, fun j hj => ?_⟩
          rw [Array.getElem?_setIfInBounds_ne]
          rintro rfl
          exact hnf hj
        · exact ⟨c1, by rw [if_neg e]; exact h1, rfl, fun _ _ => rfl⟩
      · rw [hV]
        have e : b1 ≠ b := by
          rintro rfl
          rw [hc] at h1
          simp only [Option.some.injEq] at h1
          subst h1
          exact hn trivial
        exact ⟨o1, by rw [if_neg e]; exact h1, hn, .inl rfl⟩
    refine ⟨⟨fun _ _ x => x, fun _ _ x => .inl x, ⟨fun b1 c1 h1 => ?_, h.fn, h.inj⟩, Nat.le_refl _, by simp [World.setCell]; omega, rfl, rfl, rfl, rfl, keepV, ?_, ?_, fun b1 c1 o1 hb1 hc1 hn1 => .inl ?_⟩, ?_, ?_⟩
    · rw [hV, hV']
      by_cases e : b1 = b
      · subst e
        obtain rfl := h.fn _ _ _ hR h1
        refine ⟨_, _, by rw [if_pos rfl], by rw [if_pos rfl], .cells (fun j u hj => ?_) (fun j hj hn => ?_)⟩
        · rw [Array.getElem?_setIfInBounds] at hj ⊢
          by_cases ej : off = j
          · subst ej
            rw [if_pos rfl, if_pos hlt] at hj
            simp only [Option.some.injEq] at hj
            subst hj
            exact ⟨v', by rw [if_pos rfl, if_pos hlt'], hv⟩
          · rw [if_neg ej] at hj
            obtain ⟨u2, g1, g2⟩ := hcs j u hj
            exact ⟨u2, by rw [if_neg ej]; exact g1, g2⟩
        · exact hfz j (by simpa using hj) hn
      · have e' : c1 ≠ b' := by
          rintro rfl
          exact e (h.inj _ _ _ h1 hR)
        rw [if_neg e, if_neg e']
        exact h.obj b1 c1 h1
    · refine ⟨by simp [World.setCell], fun c1 hc1 hn => ?_, fun c1 x el1 fz1 hx => ?_⟩
      · rw [hV', if_neg]
        rintro rfl
        exact hn b hR
      · rw [hV']
        by_cases e : c1 = b'
        · subst e
          rw [ho'] at hx
          simp only [Option.some.injEq, Obj.cells.injEq] at hx
          obtain ⟨rfl, rfl, rfl⟩ := hx
          refine ⟨_, by rw [if_pos rfl], by simp, fun o => ?_⟩
          by_cases eo : off = o
          · subst eo; exact .inr ⟨b, hR, ⟨c, el, fz, hc, hlt, hnf⟩⟩
          · exact .inl (by rw [Array.getElem?_setIfInBounds_ne eo])
        · exact ⟨x, by rw [if_neg e]; exact hx, rfl, fun _ => .inl rfl⟩
    · intro e he
      simp only [List.mem_toArray, List.mem_cons, List.not_mem_nil, or_false] at he
      subst he
      refine .inl ⟨_, b, rfl, rfl, hR, keepV.cl ⟨c, el, fz, hc, hlt⟩, fun _ => keepV.un ⟨c, el, fz, hc, hlt, hnf⟩⟩
    · rw [hV', if_neg]
      · exact hc1
      · rintro rfl
        rw [ho'] at hc1
        simp only [Option.some.injEq] at hc1
        subst hc1
        exact hn1 trivial
    · simp [World.cell?, ho', hlt']
    · simp only [World.frozen?, ho']
      simp only [inFz, not_and, Nat.not_lt] at hnf'
      cases hh : decide (fz'.1 ≤ off) with
      | true => simp only [decide_eq_true_eq] at hh; simp [hh, hnf' hh]
      | false => simp

theorem WR.new {R : BR} {w w' : World} (h : WR F R w w') {o o' : Obj} (ho : OR F R o o') :
    Stretch F R (R.ext w.heap.size w'.heap.size) w { w with heap := w.heap.push o } w' { w' with heap := w'.heap.push o' } #[] := by
  have keepV : KeepV w { w with heap := w.heap.push o } := by
    refine ⟨by simp, fun b c el fz hb => ⟨c, ?_, rfl, fun _ _ => rfl⟩, fun b o1 hb hn => ⟨o1, ?_, hn, .inl rfl⟩⟩
    · have := (Array.getElem?_eq_some_iff.1 hb).1
      simp only [Array.getElem?_push, if_neg (Nat.ne_of_lt this)]; exact hb
    · have := (Array.getElem?_eq_some_iff.1 hb).1
      simp only [Array.getElem?_push, if_neg (Nat.ne_of_lt this)]; exact hb
  refine ⟨fun _ _ x => .inl x, fun b c x => ?_, ⟨fun b c x => ?_, fun b c c' x y => ?_, fun b b' c x y => ?_⟩, Nat.le_refl _, by simp; omega, rfl, rfl, rfl, rfl, keepV, ?_, by simp, fun b1 c1 o1 hb1 hc1 hn1 => .inl ?_⟩
  · rcases x with x | ⟨rfl, rfl⟩
    · exact .inl x
    · exact .inr ⟨Nat.le_refl _, Nat.le_refl _⟩
  · rcases x with x | ⟨rfl, rfl⟩
    · obtain ⟨p, p', h1, h2, h3⟩ := h.obj b c x
      have l1 := (h.lt x).1
      have l2 := (h.lt x).2
      exact ⟨p, p', by simp only [Array.getElem?_push, if_neg (Nat.ne_of_lt l1)]; exact h1, by simp only [Array.getElem?_push, if_neg (Nat.ne_of_lt l2)]; exact h2, h3.mono fun _ _ z => .inl z⟩
    · exact ⟨o, o', by simp, by simp, ho.mono fun _ _ z => .inl z⟩
  · rcases x with x | ⟨rfl, rfl⟩ <;> rcases y with y | ⟨e1, e2⟩
    · exact h.fn _ _ _ x y
    · have := (h.lt x).1; omega
    · have := (h.lt y).1; omega
    · exact e2
  · rcases x with x | ⟨rfl, rfl⟩ <;> rcases y with y | ⟨e1, e2⟩
    · exact h.inj _ _ _ x y
    · have := (h.lt x).2; omega
    · have := (h.lt y).2; omega
    · exact e1.symm
  · refine ⟨by simp, fun c hc _ => by simp only [Array.getElem?_push, if_neg (Nat.ne_of_lt hc)], fun c x el fz hx => ⟨x, ?_, rfl, fun _ => .inl rfl⟩⟩
    have := (Array.getElem?_eq_some_iff.1 hx).1
    simp only [Array.getElem?_push, if_neg (Nat.ne_of_lt this)]; exact hx
  · have := (Array.getElem?_eq_some_iff.1 hc1).1
    simp only [Array.getElem?_push, if_neg (Nat.ne_of_lt this)]; exact hc1

theorem WR.setObj {R : BR} {w w' : World} (h : WR F R w w') {r r' : Nat} (hr : R r r') {o o' : Obj} (ho : OR F R o o') (hm : IsMap o) {p : Obj} (hp : w.heap[r]? = some p) (hpn : ¬ IsCells p) (b : Bool) :
    Stretch F R R w { w with heap := w.heap.setIfInBounds r o } w' { w' with heap := w'.heap.setIfInBounds r' o' } #[⟨.obj r', true, b⟩] := by
  have hn := hm.not
  have l1 := (h.lt hr).1
  have l2 := (h.lt hr).2
  have keepV : KeepV w { w with heap := w.heap.setIfInBounds r o } := by
    refine ⟨by simp, fun b c el fz hb => ?_, fun b o1 hb hn1 => ?_⟩
    · have e : r ≠ b := by
        rintro rfl
        rw [hp] at hb
        simp only [Option.some.injEq] at hb
        subst hb
        exact hpn trivial
      exact ⟨c, by simp only [Array.getElem?_setIfInBounds_ne e]; exact hb, rfl, fun _ _ => rfl⟩
    · by_cases e : r = b
      · subst e; exact ⟨o, by simp [l1], hn, .inr hm⟩
      · exact ⟨o1, by simp only [Array.getElem?_setIfInBounds_ne e]; exact hb, hn1, .inl rfl⟩
  have notRO : ¬ RO w r := by
    rintro ⟨c, el, fz, h1, _⟩
    rw [hp] at h1
    simp only [Option.some.injEq] at h1
    subst h1
    exact hpn trivial
  refine ⟨fun _ _ x => x, fun _ _ x => .inl x, ⟨fun b1 c1 x => ?_, h.fn, h.inj⟩, Nat.le_refl _, by simp; omega, rfl, rfl, rfl, rfl, keepV, ?_, ?_, fun b1 c1 o1 hb1 hc1 hn1 => ?_⟩
  · by_cases e : r = b1
    · subst e
      obtain rfl := h.fn _ _ _ hr x
      exact ⟨o, o', by simp [l1], by simp [l2], ho⟩
    · have e' : r' ≠ c1 := by
        rintro rfl
        exact e (h.inj _ _ _ hr x)
      obtain ⟨q, q', g1, g2, g3⟩ := h.obj _ _ x
      exact ⟨q, q', by simp only [Array.getElem?_setIfInBounds_ne e]; exact g1, by simp only [Array.getElem?_setIfInBounds_ne e']; exact g2, g3⟩
  · obtain ⟨q, q', g1, g2, g3⟩ := h.obj _ _ hr
    have hq : ¬ IsCells q' := g3.notCells (by rw [hp] at g1; simp only [Option.some.injEq] at g1; subst g1; exact hpn)
    refine ⟨by simp, fun c hc hno => ?_, fun c x el fz hx => ⟨x, ?_, rfl, fun _ => .inl rfl⟩⟩
    · have e : r' ≠ c := fun e => hno r (e ▸ hr)
      simp only [Array.getElem?_setIfInBounds_ne e]
    · have e : r' ≠ c := by
        rintro rfl
        rw [g2] at hx
        simp only [Option.some.injEq] at hx
        subst hx
        exact hq trivial
      simp only [Array.getElem?_setIfInBounds_ne e]; exact hx
  · intro e he
    simp only [List.mem_toArray, List.mem_cons, List.not_mem_nil, or_false] at he
    subst he
    exact .inr (.inl ⟨r, r', rfl, hr, o, by simp [l1], hn, fun _ => hm⟩)
  · by_cases e : r' = c1
    · subst e
      by_cases e2 : r = b1
      · subst e2; exact .inr ⟨o, by simp [l1], hm⟩
      · exact absurd (h.inj _ _ _ hr hb1) e2
    · exact .inl (by simp only [Array.getElem?_setIfInBounds_ne e]; exact hc1)

theorem Stretch.says {R : BR} {w w' : World} (h : WR F R w w') {e : Event} (he : EvR R w e) : Stretch F R R w w w' w' #[e] :=
  { Stretch.refl h with evs := by intro e' he'; simp only [List.mem_toArray, List.mem_cons, List.not_mem_nil, or_false] at he'; subst he'; exact he }

/-- What a run gives, if the virtual one succeeds; and how a virtual one may halt. -/
def Follows {α β : Type} (P : Program) (F : FuncId → Prop) (A : BR → α → β → Prop) (R : BR) (r : Result α) (s' : Sem β) (w w' : World) (es' : Array Event) : Prop :=
  match r with
  | .ok a w1 => ∃ R1 a' w1' es, s'.runT P w' es' = (.ok a' w1', es' ++ es) ∧ Stretch F R R1 w w1 w' w1' es ∧ A R1 a a'
  | .halt h _ => okHalt h

theorem Follows.cons {α β : Type} {A : BR → α → β → Prop} {R R0 : BR} {r : Result α} {s' s1' : Sem β} {w w0 w' w0' : World} {es' : Array Event} {es0 : Array Event} (h0 : WR F R w w') (h : Stretch F R R0 w w0 w' w0' es0)
    (hrun : ∀ es', s'.runT P w' es' = s1'.runT P w0' (es' ++ es0)) (k : Follows P F A R0 r s1' w0 w0' (es' ++ es0)) : Follows P F A R r s' w w' es' := by
  cases r with
  | halt h _ => exact k
  | ok a w1 =>
    obtain ⟨R1, a', w1', es, h1, h2, h3⟩ := k
    exact ⟨R1, a', w1', es0 ++ es, by rw [hrun, h1, Array.append_assoc], h.trans h0 h2, h3⟩

theorem run_of_runT {β : Type} {s s1 : Sem β} {w w0 : World} {es0 : Array Event} (h : ∀ es', s.runT P w es' = s1.runT P w0 (es' ++ es0)) : s.run P w = s1.run P w0 := by
  have := congrArg Prod.fst (h #[])
  rwa [Sem.runT_fst, Sem.runT_fst] at this

theorem Hyp.step {β : Type} {s s1 : Sem β} {w w' w0 w0' : World} {es0 : Array Event} (h : Hyp P s w w') (hrun : ∀ es', s.runT P w' es' = s1.runT P w0' (es' ++ es0)) (hd : w0.drawn = w.drawn) (ht : w0.tape = w.tape) (hd' : w0'.drawn = w'.drawn) (ht' : w0'.tape = w'.tape) : Hyp P s1 w0 w0' := by
  rcases h with h | ⟨a', w1', h1, h2⟩
  · exact .inl fun n j q hj => by rw [ht, ht', hd, hd']; exact h n j q hj
  · exact .inr ⟨a', w1', by rw [← run_of_runT hrun]; exact h1, fun j q hj => by rw [ht, ht', hd, hd']; exact h2 j q (by omega)⟩

theorem SR.follows {α β : Type} {A : BR → α → β → Prop} {R : BR} {s : Sem α} {s' : Sem β} (h : SR P F A R s s') :
    ∀ (w w' : World) (es' : Array Event), WR F R w w' → Hyp P s' w w' → Follows P F A R (s.run P w) s' w w' es' := by
  induction h with
  | pure h => intro w w' es' hw _; exact ⟨_, _, _, #[], by simp [Sem.runT], .refl hw, h⟩
  | @load R m a a' k k' ha hk ih =>
    intro w w' es' hw hH
    obtain ⟨hR, hoff, hs', hs⟩ := id ha
    obtain ⟨o, o', ho, ho', hOR⟩ := hw.obj _ _ hR
    have hspot : a.spot.isSome = false := by simp [hs]
    have hspot' : a'.spot.isSome = false := by simp [hs']
    cases hOR with
    | @cells c c' el fz fz' hcs hfz =>
      cases hv : c[a.off]? with
      | none =>
        have e : (Sem.load m a k).run P w = .halt (.stuck "load: no such cell") w := by
          simp only [Sem.run, World.cell?, World.farLoad, World.noCell, ho, hspot, hv, Bool.false_eq_true]
          simp
        rw [e]; trivial
      | some v =>
        obtain ⟨v', hv', hvr⟩ := hcs _ _ hv
        have e : (Sem.load m a k).run P w = (k v).run P w := by
          simp only [Sem.run, World.cell?, ho, hspot, hv, if_neg, Bool.false_eq_true]
          simp
        have e' : ∀ es', (Sem.load m a' k').runT P w' es' = (k' v').runT P w' (es' ++ #[⟨.cell a', false, m == .atomic⟩]) := fun es' => by
          simp only [Sem.runT, World.cell?, ho', hspot', hoff, hv', if_neg, Bool.false_eq_true]
          simp
        rw [e]
        refine Follows.cons hw (Stretch.says hw (.inl ⟨a', a.block, rfl, hs', hR, ⟨c, el, fz, ho, by rw [hoff]; exact (Array.getElem?_eq_some_iff.1 hv).1⟩, fun x => by simp at x⟩)) e' (ih v v' hvr w w' _ hw (hH.step e' rfl rfl rfl rfl))
    | map hs1 h1 =>
      have e : (Sem.load m a k).run P w = .halt (.stuck "load: no such cell") w := by simp only [Sem.run, World.cell?, World.farLoad, World.noCell, ho]
      rw [e]; trivial
    | number _ _ =>
      have e : (Sem.load m a k).run P w = .halt (.stuck "load: no such cell") w := by simp only [Sem.run, World.cell?, World.farLoad, World.noCell, ho]
      rw [e]; trivial
    | chan s s2 tm =>
      have e : (Sem.load m a k).run P w = .halt (.stuck "load: no such cell") w := by simp only [Sem.run, World.cell?, World.farLoad, World.noCell, ho]
      rw [e]; trivial
  | @store R m a a' v v' k k' ha hv hk ih =>
    intro w w' es' hw hH
    by_cases hagg : (∃ cs, v = .agg cs) ∨ (∃ cs, v = .tuple cs)
    · rcases hagg with ⟨cs, rfl⟩ | ⟨cs, rfl⟩
      · have e : (Sem.store m a (.agg cs) k).run P w = .halt (.stuck "store: not the value of one cell") w := by simp only [Sem.run]
        rw [e]; trivial
      · have e : (Sem.store m a (.tuple cs) k).run P w = .halt (.stuck "store: not the value of one cell") w := by simp only [Sem.run]
        rw [e]; trivial
    · have n1 : (∀ cs, v ≠ .agg cs) ∧ ∀ cs, v ≠ .tuple cs := ⟨fun cs e => hagg (.inl ⟨cs, e⟩), fun cs e => hagg (.inr ⟨cs, e⟩)⟩
      have n2 : (∀ cs, v' ≠ .agg cs) ∧ ∀ cs, v' ≠ .tuple cs := by cases hv <;> first | (rename_i hb; exact ⟨hb.1, hb.2.1⟩) | (exact absurd rfl (n1.1 _)) | (exact absurd rfl (n1.2 _)) | exact ⟨by simp, by simp⟩
      obtain ⟨hR, hoff, hs', hs⟩ := id ha
      obtain ⟨o, o', ho, ho', hOR⟩ := hw.obj _ _ hR
      have hspot : a.spot.isSome = false := by simp [hs]
      have run1 : (Sem.store m a v k).run P w = match w.cell? a with
          | some _ => if w.frozen? a then .halt (.unsupported (.unsafePointer "a write to bytes that a string shares")) w else k.run P (w.setCell a v)
          | none => match w.farStore P a v (m == .atomic) with
            | .ok (w, _) => k.run P w
            | .error h => .halt h w := by
        cases v <;> first | (exact absurd rfl (n1.1 _)) | (exact absurd rfl (n1.2 _)) | rfl
      have bad : (∀ v0, w.cell? a ≠ some v0) → (∀ x y, w.heap[a.block]? ≠ some (.view x y)) → (∀ x y, w.heap[a.block]? ≠ some (.pending x y)) → Follows P F A R ((Sem.store m a v k).run P w) (Sem.store m a' v' k') w w' es' := by
        intro h1 h2 h3
        have e0 : w.cell? a = none := by cases hh : w.cell? a with
          | none => rfl
          | some v0 => exact absurd hh (h1 v0)
        have e : (Sem.store m a v k).run P w = .halt (.stuck "store: no such cell") w := by
          rw [run1, e0]
          have : w.farStore P a v (m == .atomic) = .error (.stuck "store: no such cell") := by
            unfold World.farStore
            split
            · exact absurd ‹_› (h2 _ _)
            · unfold World.noCell
              split
              · exact absurd ‹_› (h3 _ _)
              · exact absurd ‹_› (h2 _ _)
              · rfl
          rw [this]
        rw [e]; trivial
      cases hOR with
      | @cells c c' el fz fz' hcs hfz =>
        cases hc : c[a.off]? with
        | none => exact bad (fun v0 h0 => by simp [World.cell?, ho, hspot, hc] at h0) (by simp [ho]) (by simp [ho])
        | some v0 =>
          have hlt : a.off < c.size := (Array.getElem?_eq_some_iff.1 hc).1
          have e0 : w.cell? a = some v0 := by simp only [World.cell?, ho, hspot, Bool.false_eq_true, if_false]; exact hc
          cases hf : w.frozen? a with
          | true =>
            have e : (Sem.store m a v k).run P w = .halt (.unsupported (.unsafePointer "a write to bytes that a string shares")) w := by rw [run1, e0]; simp only [hf, if_true]
            rw [e]; trivial
          | false =>
            have hnf : ¬ inFz fz a.off := by
              rintro ⟨g1, g2⟩
              simp [World.frozen?, ho, g1, g2] at hf
            obtain ⟨hst, hc', hf'⟩ := hw.setCell ha hv ⟨c, el, fz, ho, hlt, hnf⟩
            have e : (Sem.store m a v k).run P w = k.run P (w.setCell a v) := by rw [run1, e0]; simp [hf]
            have run2 : ∀ es', (Sem.store m a' v' k').runT P w' es' = match w'.cell? a' with
                | some _ => if w'.frozen? a' then (.halt (.unsupported (.unsafePointer "a write to bytes that a string shares")) w', es') else k'.runT P (w'.setCell a' v') (es'.push ⟨.cell a', true, m == .atomic⟩)
                | none => match w'.farStore P a' v' (m == .atomic) with
                  | .ok (w, touched) => k'.runT P w (es' ++ touched.toArray.map (⟨.cell ·, true, m == .atomic⟩))
                  | .error h => (.halt h w', es') := fun es' => by
              cases v' <;> first | (exact absurd rfl (n2.1 _)) | (exact absurd rfl (n2.2 _)) | rfl
            have e' : ∀ es', (Sem.store m a' v' k').runT P w' es' = k'.runT P (w'.setCell a' v') (es' ++ #[⟨.cell a', true, m == .atomic⟩]) := fun es' => by
              rw [run2]
              obtain ⟨x, hx⟩ := Option.isSome_iff_exists.1 hc'
              rw [hx]
              simp [hf']
            rw [e]
            have hev : ∀ e1 ∈ #[(⟨.cell a', true, m == .atomic⟩ : Event)], EvR R (w.setCell a v) e1 := by
              intro e1 he1
              simp only [List.mem_toArray, List.mem_cons, List.not_mem_nil, or_false] at he1
              subst he1
              rcases hst.evs ⟨.cell a', true, false⟩ (by simp) with ⟨x, b, h1, h2, h3, h5, h6⟩ | ⟨b, cc, h1, _⟩ | ⟨h1, _⟩
              · exact .inl ⟨x, b, h1, h2, h3, h5, fun _ => h6 rfl⟩
              · simp at h1
              · simp at h1
            have hst2 : Stretch F R R w (w.setCell a v) w' (w'.setCell a' v') #[⟨.cell a', true, m == .atomic⟩] := { hst with evs := hev }
            exact Follows.cons hw hst2 e' (ih (w.setCell a v) (w'.setCell a' v') _ hst.wr (hH.step e' rfl rfl rfl rfl))
      | map hs1 h1 => exact bad (fun v0 h0 => by simp [World.cell?, ho] at h0) (by simp [ho]) (by simp [ho])
      | number _ _ => exact bad (fun v0 h0 => by simp [World.cell?, ho] at h0) (by simp [ho]) (by simp [ho])
      | chan s s2 tm => exact bad (fun v0 h0 => by simp [World.cell?, ho] at h0) (by simp [ho]) (by simp [ho])
  | @new R o o' k k' ho hk ih =>
    intro w w' es' hw hH
    have hst := hw.new ho
    have e' : ∀ es', (Sem.new o' k').runT P w' es' = (k' w'.heap.size).runT P { w' with heap := w'.heap.push o' } (es' ++ #[]) := fun es' => by simp [Sem.runT]
    exact Follows.cons hw hst e' (ih w.heap.size w'.heap.size _ _ _ hst.wr (hH.step e' rfl rfl rfl rfl))
  | @getObj R r r' k k' hr hk ih =>
    intro w w' es' hw hH
    obtain ⟨o, o', ho, ho', hOR⟩ := hw.obj _ _ hr
    by_cases hn : IsCells o
    · cases o with
      | cells c el fz =>
        have e : (Sem.getObj r k).run P w = .halt (.stuck "getObj: a row of cells") w := by simp only [Sem.run, ho]
        rw [e]; trivial
      | _ => exact hn.elim
    · have hn' := hOR.notCells hn
      have e : (Sem.getObj r k).run P w = (k o).run P w := by
        simp only [Sem.run, ho]
        split
        · rename_i heq; simp only [Option.some.injEq] at heq; subst heq; exact absurd trivial hn
        · rename_i heq; simp only [Option.some.injEq] at heq; subst heq; rfl
        · rename_i heq; cases heq
      have e' : ∀ es', (Sem.getObj r' k').runT P w' es' = (k' o').runT P w' (es' ++ #[⟨.obj r', false, o'.isChan⟩]) := fun es' => by
        simp only [Sem.runT, ho']
        split
        · rename_i heq; simp only [Option.some.injEq] at heq; subst heq; exact absurd trivial hn'
        · rename_i heq; simp only [Option.some.injEq] at heq; subst heq; simp
        · rename_i heq; cases heq
      rw [e]
      exact Follows.cons hw (Stretch.says hw (.inr (.inl ⟨r, r', rfl, hr, o, ho, hn, fun x => by simp at x⟩))) e' (ih o o' hOR hn w w' _ hw (hH.step e' rfl rfl rfl rfl))
  | @setObj R r r' o o' k k' hr ho hn hk ih =>
    intro w w' es' hw hH
    obtain ⟨p, p', hp, hp', hOR⟩ := hw.obj _ _ hr
    by_cases hpn : IsCells p
    · cases p with
      | cells c el fz =>
        have e : (Sem.setObj r o k).run P w = .halt (.stuck "setObj: a row of cells") w := by simp only [Sem.run, hp]
        rw [e]; trivial
      | _ => exact hpn.elim
    · have hpn' := hOR.notCells hpn
      have e : (Sem.setObj r o k).run P w = k.run P { w with heap := w.heap.setIfInBounds r o } := by
        simp only [Sem.run, hp]
        split
        · rename_i heq; simp only [Option.some.injEq] at heq; subst heq; exact absurd trivial hpn
        · rfl
        · rename_i heq; cases heq
      have e' : ∀ es', (Sem.setObj r' o' k').runT P w' es' = k'.runT P { w' with heap := w'.heap.setIfInBounds r' o' } (es' ++ #[⟨.obj r', true, o'.isChan⟩]) := fun es' => by
        simp only [Sem.runT, hp']
        split
        · rename_i heq; simp only [Option.some.injEq] at heq; subst heq; exact absurd trivial hpn'
        · simp
        · rename_i heq; cases heq
      have hst := hw.setObj hr ho hn hp hpn o'.isChan
      rw [e]
      exact Follows.cons hw hst e' (ih _ _ _ hst.wr (hH.step e' rfl rfl rfl rfl))
  | @shape R r r' k k' hr hk ih =>
    intro w w' es' hw hH
    obtain ⟨o, o', ho, ho', hOR⟩ := hw.obj _ _ hr
    have hsh : ShR (w.shape? r) (w'.shape? r') := by
      have hle := @OR.le F R
      cases hOR with
      | @cells c c' el fz fz' hcs hfz => exact .inr ⟨el, c.size, c'.size, by simp [World.shape?, ho], by simp [World.shape?, ho'], hle (OR.cells (el := el) hcs hfz)⟩
      | map _ _ => exact .inl ⟨by simp [World.shape?, ho], by simp [World.shape?, ho']⟩
      | chan _ _ _ => exact .inl ⟨by simp [World.shape?, ho], by simp [World.shape?, ho']⟩
      | number _ _ => exact .inl ⟨by simp [World.shape?, ho], by simp [World.shape?, ho']⟩
    have e' : ∀ es', (Sem.shape r' k').runT P w' es' = (k' (w'.shape? r')).runT P w' (es' ++ #[]) := fun es' => by simp [Sem.runT]
    exact Follows.cons hw (.refl hw) e' (ih _ _ hsh w w' _ hw (hH.step e' rfl rfl rfl rfl))
  | @choose R q k k' hk ih =>
    intro w w' es' hw hH
    by_cases hq : q.forced = true
    · have e : (Sem.choose q k).run P w = (k 0).run P w := by simp only [Sem.run, hq, if_true]
      have e' : ∀ es', (Sem.choose q k').runT P w' es' = (k' 0).runT P w' (es' ++ #[]) := fun es' => by simp [Sem.runT, hq]
      rw [e]
      exact Follows.cons hw (.refl hw) e' (ih 0 w w' _ hw (hH.step e' rfl rfl rfl rfl))
    · have e : (Sem.choose q k).run P w = (k (q.cut (w.tape w.drawn q))).run P { w with drawn := w.drawn + 1 } := by simp only [Sem.run, hq]; simp
      have e' : ∀ es', (Sem.choose q k').runT P w' es' = (k' (q.cut (w'.tape w'.drawn q))).runT P { w' with drawn := w'.drawn + 1 } (es' ++ #[]) := fun es' => by simp [Sem.runT, hq]
      have hag : w'.tape w'.drawn q = w.tape w.drawn q ∧ Hyp P (k' (q.cut (w'.tape w'.drawn q))) { w with drawn := w.drawn + 1 } { w' with drawn := w'.drawn + 1 } := by
        rcases hH with hH | ⟨a', w1', h1, h2⟩
        · refine ⟨hH 1 0 q (by omega), .inl fun n j p hj => ?_⟩
          have := hH (n + 1) (j + 1) p (by omega)
          simpa [Nat.add_assoc, Nat.add_comm 1 j] using this
        · have h1' := h1
          rw [run_of_runT e'] at h1'
          have hle := run_le P _ _ _ _ h1'
          simp only at hle
          refine ⟨h2 0 q (by omega), .inr ⟨a', w1', h1', fun j p hj => ?_⟩⟩
          simp only at hj ⊢
          have := h2 (j + 1) p (by omega)
          simpa [Nat.add_assoc, Nat.add_comm 1 j] using this
      rw [e, ← hag.1]
      have hst : Stretch F R R w { w with drawn := w.drawn + 1 } w' { w' with drawn := w'.drawn + 1 } #[] :=
        ⟨fun _ _ x => x, fun _ _ x => .inl x, ⟨hw.obj, hw.fn, hw.inj⟩, Nat.le_succ _, by simp; omega, rfl, rfl, rfl, rfl, ⟨Nat.le_refl _, fun b c el fz h => ⟨c, h, rfl, fun _ _ => rfl⟩, fun b o h n => ⟨o, h, n, .inl rfl⟩⟩, ⟨Nat.le_refl _, fun _ _ _ => rfl, fun c x el fz hx => ⟨x, hx, rfl, fun _ => .inl rfl⟩⟩, by simp, fun _ _ _ _ h _ => .inl h⟩
      exact Follows.cons hw hst e' (ih _ _ _ _ hst.wr hag.2)
  | @program R k k' hk ih =>
    intro w w' es' hw hH
    have e' : ∀ es', (Sem.program k').runT P w' es' = (k' P).runT P w' (es' ++ #[]) := fun es' => by simp [Sem.runT]
    exact Follows.cons hw (.refl hw) e' (ih w w' _ hw (hH.step e' rfl rfl rfl rfl))
  | @room R k k' hk ih =>
    intro w w' es' hw hH
    have e' : ∀ es', (Sem.mark .noRoom k').runT P w' es' = k'.runT P w' (es' ++ #[⟨.mark .noRoom, false, true⟩]) := fun es' => by simp [Sem.runT]
    exact Follows.cons hw (Stretch.says hw (.inr (.inr ⟨rfl, rfl, rfl⟩))) e' (ih w w' _ hw (hH.step e' rfl rfl rfl rfl))
  | @dead R s s' hd =>
    intro w w' es' hw hH
    obtain ⟨h, w1, e, ho⟩ := hd w
    rw [e]; exact ho

/-! ### the tape's other answers do not matter -/
def rt (w : World) (T : Tape) (d : Nat) : World := { w with tape := T, drawn := d }

theorem rt_cell (w : World) (T : Tape) (d : Nat) (a : Addr) : (rt w T d).cell? a = w.cell? a := rfl
theorem rt_frozen (w : World) (T : Tape) (d : Nat) (a : Addr) : (rt w T d).frozen? a = w.frozen? a := rfl

theorem WR.rtv {R : BR} {w w' : World} (h : WR F R w w') (T : Tape) (d : Nat) : WR F R (rt w T d) w' := ⟨h.obj, h.fn, h.inj⟩
theorem WR.rtr {R : BR} {w w' : World} (h : WR F R w w') (T : Tape) (d : Nat) : WR F R w (rt w' T d) := ⟨h.obj, h.fn, h.inj⟩

theorem SR.local {α β : Type} {A : BR → α → β → Prop} {R : BR} {s : Sem α} {s' : Sem β} (h : SR P F A R s s') :
    ∀ (v w : World), WR F R v w → ∀ (a : α) (v1 : World), s.run P v = .ok a v1 → ∀ (T : Tape) (d : Nat), (∀ j q, j < v1.drawn - v.drawn → T (d + j) q = v.tape (v.drawn + j) q) →
      s.run P (rt v T d) = .ok a (rt v1 T (d + (v1.drawn - v.drawn))) := by
  induction h with
  | pure h => intro v w hw a v1 hr T d hT; simp only [Sem.run, Result.ok.injEq] at hr; obtain ⟨rfl, rfl⟩ := hr; simp [Sem.run]
  | @load R m a a' k k' ha hk ih =>
    intro v w hw x v1 hr T d hT
    obtain ⟨hR, hoff, hs', hs⟩ := id ha
    obtain ⟨o, o', ho, ho', hOR⟩ := hw.obj _ _ hR
    have hspot : a.spot.isSome = false := by simp [hs]
    have none : ∀ (h : v.cell? a = none), (∀ x y, v.heap[a.block]? ≠ some (.view x y)) → False := by
      intro h1 h2
      simp only [Sem.run, h1] at hr
      have : ∃ e, v.farLoad P a (m == .atomic) = .error e := by
        unfold World.farLoad
        split
        · exact absurd ‹_› (h2 _ _)
        · exact ⟨_, rfl⟩
      obtain ⟨e, he⟩ := this
      rw [he] at hr
      cases hr
    cases hOR with
    | @cells c c' el fz fz' hcs hfz =>
      cases hc : c[a.off]? with
      | none => exact (none (by simp [World.cell?, ho, hspot, hc]) (by simp [ho])).elim
      | some u =>
        obtain ⟨u', hu', hur⟩ := hcs _ _ hc
        have e0 : v.cell? a = some u := by simp only [World.cell?, ho, hspot, Bool.false_eq_true, if_false]; exact hc
        simp only [Sem.run, e0] at hr
        simp only [Sem.run, rt_cell, e0]
        exact ih u u' hur v w hw x v1 hr T d hT
    | map => exact (none (by simp [World.cell?, ho]) (by simp [ho])).elim
    | chan => exact (none (by simp [World.cell?, ho]) (by simp [ho])).elim
    | number => exact (none (by simp [World.cell?, ho]) (by simp [ho])).elim
  | @store R m a a' u u' k k' ha hv hk ih =>
    intro v w hw x v1 hr T d hT
    by_cases hagg : (∃ cs, u = .agg cs) ∨ (∃ cs, u = .tuple cs)
    · rcases hagg with ⟨cs, rfl⟩ | ⟨cs, rfl⟩ <;> simp [Sem.run] at hr
    · have n1 : (∀ cs, u ≠ .agg cs) ∧ ∀ cs, u ≠ .tuple cs := ⟨fun cs e => hagg (.inl ⟨cs, e⟩), fun cs e => hagg (.inr ⟨cs, e⟩)⟩
      obtain ⟨hR, hoff, hs', hs⟩ := id ha
      obtain ⟨o, o', ho, ho', hOR⟩ := hw.obj _ _ hR
      have hspot : a.spot.isSome = false := by simp [hs]
      have run1 : ∀ v : World, (Sem.store m a u k).run P v = match v.cell? a with
          | some _ => if v.frozen? a then .halt (.unsupported (.unsafePointer "a write to bytes that a string shares")) v else k.run P (v.setCell a u)
          | none => match v.farStore P a u (m == .atomic) with
            | .ok (w, _) => k.run P w
            | .error h => .halt h v := fun v => by
        cases u <;> first | (exact absurd rfl (n1.1 _)) | (exact absurd rfl (n1.2 _)) | rfl
      rw [run1] at hr ⊢
      have none : ∀ (h : v.cell? a = none), (∀ x y, v.heap[a.block]? ≠ some (.view x y)) → False := by
        intro h1 h2
        simp only [h1] at hr
        have : ∃ e, v.farStore P a u (m == .atomic) = .error e := by
          unfold World.farStore
          split
          · exact absurd ‹_› (h2 _ _)
          · exact ⟨_, rfl⟩
        obtain ⟨e, he⟩ := this
        rw [he] at hr
        cases hr
      cases hOR with
      | @cells c c' el fz fz' hcs hfz =>
        cases hc : c[a.off]? with
        | none => exact (none (by simp [World.cell?, ho, hspot, hc]) (by simp [ho])).elim
        | some v0 =>
          have e0 : v.cell? a = some v0 := by simp only [World.cell?, ho, hspot, Bool.false_eq_true, if_false]; exact hc
          simp only [e0] at hr
          simp only [rt_cell, e0]
          by_cases hf : v.frozen? a = true
          · rw [if_pos hf] at hr; cases hr
          · rw [if_neg hf] at hr
            rw [if_neg (show ¬ (rt v T d).frozen? a = true from hf)]
            have hnf : ¬ inFz fz a.off := by
              rintro ⟨g1, g2⟩
              simp [World.frozen?, ho, g1, g2] at hf
            obtain ⟨hst, _, _⟩ := hw.setCell ha hv ⟨c, el, fz, ho, (Array.getElem?_eq_some_iff.1 hc).1, hnf⟩
            exact ih (v.setCell a u) (w.setCell a' u') hst.wr x v1 hr T d hT
      | map => exact (none (by simp [World.cell?, ho]) (by simp [ho])).elim
      | chan => exact (none (by simp [World.cell?, ho]) (by simp [ho])).elim
      | number => exact (none (by simp [World.cell?, ho]) (by simp [ho])).elim
  | @new R o o' k k' ho hk ih =>
    intro v w hw x v1 hr T d hT
    exact ih v.heap.size w.heap.size _ _ (hw.new ho).wr x v1 hr T d hT
  | @getObj R r r' k k' hr0 hk ih =>
    intro v w hw x v1 hr T d hT
    obtain ⟨o, o', ho, ho', hOR⟩ := hw.obj _ _ hr0
    by_cases hn : IsCells o
    · cases o with
      | cells c el fz => simp [Sem.run, ho] at hr
      | _ => exact hn.elim
    · have e : ∀ v : World, v.heap[r]? = some o → (Sem.getObj r k).run P v = (k o).run P v := by
        intro v ho
        simp only [Sem.run, ho]
        split
        · rename_i heq; simp only [Option.some.injEq] at heq; subst heq; exact absurd trivial hn
        · rename_i heq; simp only [Option.some.injEq] at heq; subst heq; rfl
        · rename_i heq; cases heq
      rw [e v ho] at hr
      rw [e (rt v T d) ho]
      exact ih o o' hOR hn v w hw x v1 hr T d hT
  | @setObj R r r' o o' k k' hr0 ho hn hk ih =>
    intro v w hw x v1 hr T d hT
    obtain ⟨p, p', hp, hp', hOR⟩ := hw.obj _ _ hr0
    by_cases hpn : IsCells p
    · cases p with
      | cells c el fz => simp [Sem.run, hp] at hr
      | _ => exact hpn.elim
    · have e : ∀ v : World, v.heap[r]? = some p → (Sem.setObj r o k).run P v = k.run P { v with heap := v.heap.setIfInBounds r o } := by
        intro v hp
        simp only [Sem.run, hp]
        split
        · rename_i heq; simp only [Option.some.injEq] at heq; subst heq; exact absurd trivial hpn
        · rfl
        · rename_i heq; cases heq
      rw [e v hp] at hr
      rw [e (rt v T d) hp]
      exact ih _ _ (hw.setObj hr0 ho hn hp hpn true).wr x v1 hr T d hT
  | @shape R r r' k k' hr0 hk ih =>
    intro v w hw x v1 hr T d hT
    obtain ⟨o, o', ho, ho', hOR⟩ := hw.obj _ _ hr0
    have hsh : ShR (v.shape? r) (w.shape? r') := by
      have hle := @OR.le F R
      cases hOR with
      | @cells c c' el fz fz' hcs hfz => exact .inr ⟨el, c.size, c'.size, by simp [World.shape?, ho], by simp [World.shape?, ho'], hle (OR.cells (el := el) hcs hfz)⟩
      | map _ _ => exact .inl ⟨by simp [World.shape?, ho], by simp [World.shape?, ho']⟩
      | chan _ _ _ => exact .inl ⟨by simp [World.shape?, ho], by simp [World.shape?, ho']⟩
      | number _ _ => exact .inl ⟨by simp [World.shape?, ho], by simp [World.shape?, ho']⟩
    exact ih _ _ hsh v w hw x v1 hr T d hT
  | @choose R q k k' hk ih =>
    intro v w hw x v1 hr T d hT
    simp only [Sem.run] at hr ⊢
    by_cases hq : q.forced = true
    · simp only [hq, if_true] at hr ⊢
      exact ih 0 v w hw x v1 hr T d hT
    · simp only [hq] at hr ⊢
      simp only [Bool.false_eq_true, if_false] at hr ⊢
      have hle := run_le P _ _ _ _ hr
      simp only at hle
      have e : (rt v T d).tape (rt v T d).drawn q = v.tape v.drawn q := hT 0 q (by omega)
      rw [e]
      have hw2 : WR F R { v with drawn := v.drawn + 1 } w := ⟨hw.obj, hw.fn, hw.inj⟩
      have := ih (q.cut (v.tape v.drawn q)) { v with drawn := v.drawn + 1 } w hw2 x v1 hr T (d + 1) (fun j p hj => by
        simp only at hj ⊢
        have := hT (j + 1) p (by omega)
        simpa [Nat.add_assoc, Nat.add_comm 1 j] using this)
      have e2 : d + 1 + (v1.drawn - (v.drawn + 1)) = d + (v1.drawn - v.drawn) := by omega
      simp only [e2] at this
      exact this
  | @program R k k' hk ih =>
    intro v w hw x v1 hr T d hT
    exact ih v w hw x v1 hr T d hT
  | @room R k k' hk ih =>
    intro v w hw x v1 hr T d hT
    exact ih v w hw x v1 hr T d hT
  | @dead R s s' hd =>
    intro v w hw x v1 hr T d hT
    obtain ⟨h, w1, e, _⟩ := hd v
    rw [e] at hr
    cases hr

/-! ### one tree behind another -/
theorem SR.bind {α α' β β' : Type} {A : BR → α → α' → Prop} {B : BR → β → β' → Prop} {R : BR} {s : Sem α} {s' : Sem α'} (h : SR P F A R s s') {k : α → Sem β} {k' : α' → Sem β'}
    (hk : ∀ R1, (∀ b c, R b c → R1 b c) → ∀ a a', A R1 a a' → SR P F B R1 (k a) (k' a')) : SR P F B R (s.bind k) (s'.bind k') := by
  induction h with
  | pure h => exact hk _ (fun _ _ x => x) _ _ h
  | load ha _ ih => exact .load ha fun v v' hv => ih v v' hv hk
  | store ha hv _ ih => exact .store ha hv (ih hk)
  | new ho _ ih => exact .new ho fun n n' => ih n n' fun R1 h1 => hk R1 fun b c x => h1 _ _ (.inl x)
  | getObj hr _ ih => exact .getObj hr fun o o' h1 h2 => ih o o' h1 h2 hk
  | setObj hr ho hn _ ih => exact .setObj hr ho hn (ih hk)
  | shape hr _ ih => exact .shape hr fun s s' h1 => ih s s' h1 hk
  | choose _ ih => exact .choose fun n => ih n hk
  | program _ ih => exact .program (ih hk)
  | room _ ih => exact .room (ih hk)
  | @dead _ s1 _ hd =>
    refine .dead fun w => ?_
    obtain ⟨h, w1, e, ho⟩ := hd w
    refine ⟨h, w1, ?_, ho⟩
    have := Sem.run_bind' P s1 k w
    rw [this, e]
    rfl

theorem SR.bind' {α α' β β' : Type} {A : BR → α → α' → Prop} {B : BR → β → β' → Prop} {R : BR} {s : Sem α} {s' : Sem α'} (h : SR P F A R s s') {k : α → Sem β} {k' : α' → Sem β'}
    (hk : ∀ R1, (∀ b c, R b c → R1 b c) → ∀ a a', A R1 a a' → SR P F B R1 (k a) (k' a')) : SR P F B R (s >>= k) (s' >>= k') := h.bind hk
end
end Go.Proofs.Ytmfglflahlddbaa.Sm
