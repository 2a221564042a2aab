/-
  A SIMULATION OF TREES: the operations, on.
-/
import Derived.Test.YtneclhkpgalnlaaSmc
namespace Go.Proofs.Ytneclhkpgalnlaa.Sm
open Go Go.Conc
set_option linter.unusedVariables false
set_option linter.unusedSimpArgs false
section
variable {P : Program} {F : FuncId → Prop} {R : BR}

/-- The elements' zero value holds no address. -/
def elemOk (P : Program) (t : TypeId) : Bool := match P.underlying t with
  | some (.slice e) => zeroOk P e
  | _ => true

theorem sr_cellsOf (n : Nat) (el : TypeId) (hz : zeroOk P el = true) : SR P F (AVR F) R (if n = 0 then pure #[] else do pure (← zeroValue el).cells) (if n = 0 then pure #[] else do pure (← zeroValue el).cells) := by
  split
  · exact sr_pure .nil
  · refine sr_bind _ (sr_zeroValue el hz) fun R1 h1 z z' e => sr_pure e.2.cells

theorem sr_buildSlice (t : TypeId) (len : Nat) (hz : elemOk P t = true) {ps ps' : Array (Nat × Value)} (hp : PVR F R ps.toList ps'.toList) : V P F R (Instr.buildSlice t len ps) (Instr.buildSlice t len ps') := by
  unfold Instr.buildSlice
  refine sr_bind _ (sr_underlying t) fun R1 h1 u u' ⟨e, hu⟩ => ?_
  subst e
  cases u' with
  | slice el =>
    unfold elemOk at hz
    rw [hu] at hz
    refine sr_bind _ (sr_sizeOf el) fun R2 h2 s s' ⟨e, _⟩ => ?_
    subst e
    dsimp only
    have fills : ∀ R3, (∀ b c, R2 b c → R3 b c) → ∀ z z' : Array Value, AVR F R3 z z' →
        (Instr.fill (fun i => some (i * s', s')) ((Array.range (len * s')).map (z[· % z.size]!)) ps.toList = none ∧ Instr.fill (fun i => some (i * s', s')) ((Array.range (len * s')).map (z'[· % z'.size]!)) ps'.toList = none) ∨
        ∃ d d', Instr.fill (fun i => some (i * s', s')) ((Array.range (len * s')).map (z[· % z.size]!)) ps.toList = some d ∧ Instr.fill (fun i => some (i * s', s')) ((Array.range (len * s')).map (z'[· % z'.size]!)) ps'.toList = some d' ∧ AVR F R3 d d' := by
      intro R3 h3 z z' hzz
      rw [← hzz.1]
      exact fill_rel (fun i => some (i * s', s')) ps.toList ps'.toList _ _ (((hp.mono h1).mono h2).mono h3) (hzz.index (len * s') z.size)
    split
    · exact sr_unsupb (by trivial) _ _
    · split
      · refine sr_bind (AVR F) (sr_pure .nil) fun R3 h3 z z' hzz => ?_
        rcases fills R3 h3 z z' hzz with ⟨e1, e2⟩ | ⟨d, d', e1, e2, hd⟩
        · simp only [e1, e2]; exact sr_stuck _ _
        · simp only [e1, e2]
          refine sr_bind _ (sr_newRow el hd) fun R4 h4 a a' ha => sr_pure (.slice ha _ _)
      · refine sr_bind _ (sr_zeroValue el hz) fun R3 h3 z0 z0' h0 => ?_
        refine sr_bind (AVR F) (sr_pure h0.2.cells) fun R4 h4 z z' hzz => ?_
        rcases fills R4 (fun _ _ x => h4 _ _ (h3 _ _ x)) z z' hzz with ⟨e1, e2⟩ | ⟨d, d', e1, e2, hd⟩
        · simp only [e1, e2]; exact sr_stuck _ _
        · simp only [e1, e2]
          refine sr_bind _ (sr_newRow el hd) fun R4 h4 a a' ha => sr_pure (.slice ha _ _)
  | _ => exact sr_stuck _ _

theorem sr_makeSlice (t : TypeId) (hz : elemOk P t = true) {l l' c c' : Value} (hl : VR F R l l') (hc : VR F R c c') : V P F R (Instr.makeSlice t l c) (Instr.makeSlice t l' c') := by
  unfold Instr.makeSlice
  refine sr_bind _ (sr_underlying t) fun R1 h1 u u' ⟨e, hu⟩ => ?_
  subst e
  cases u' with
  | slice el =>
    unfold elemOk at hz
    rw [hu] at hz
    refine sr_bind _ (sr_asInt (hl.mono h1)) fun R2 h2 n n' e => ?_
    cases e
    refine sr_bind _ (sr_asInt ((hc.mono h1).mono h2)) fun R3 h3 m m' e => ?_
    cases e
    refine sr_bind _ (sr_typeInfo el) fun R4 h4 i i' ⟨e, _⟩ => ?_
    subst e
    dsimp only
    split
    · split
      · exact .dead ((dead_error _).bind _)
      · split
        · exact .dead ((dead_error _).bind _)
        · refine sr_bind EqR (SR.choose fun n => .pure rfl) fun R5 h5 x x' e => ?_
          exact .dead ((dead_error _).bind _)
    · refine sr_bind _ (sr_askRoom _) fun R5 h5 _ _ _ => ?_
      refine sr_bind _ (sr_sizeOf el) fun R6 h6 s s' ⟨e, _⟩ => ?_
      subst e
      have tail : ∀ R7 (z z' : Array Value), AVR F R7 z z' → V P F R7 (do let a ← newRow el ((Array.range ((IntKind.i64.wrap m).toNat * s')).map (z[· % z.size]!)); pure (Value.slice (some a) (IntKind.i64.wrap n).toNat (IntKind.i64.wrap m).toNat))
          (do let a ← newRow el ((Array.range ((IntKind.i64.wrap m).toNat * s')).map (z'[· % z'.size]!)); pure (Value.slice (some a) (IntKind.i64.wrap n).toNat (IntKind.i64.wrap m).toNat)) := by
        intro R7 z z' hzz
        rw [← hzz.1]
        refine sr_bind _ (sr_newRow el (hzz.index _ _)) fun R8 h8 a a' ha => ?_
        exact sr_pure (.slice ha _ _)
      split
      · exact tail R6 _ _ .nil
      · refine sr_bind _ (sr_zeroValue el hz) fun R7 h7 z z' hzz => tail R7 _ _ hzz.2.cells
  | _ => exact sr_stuck _ _

theorem sr_makeChan (t : TypeId) (k : IntKind) : V P F R (Instr.makeChan t (.int k 0)) (Instr.makeChan t (.int k 0)) := by
  unfold Instr.makeChan
  refine sr_bind (fun _ a a' => a = 0 ∧ a' = 0) (sr_pure ⟨rfl, rfl⟩) fun R1 h1 n n' e => ?_
  obtain ⟨rfl, rfl⟩ := e
  refine sr_bind _ (sr_underlying t) fun R2 h2 u u' ⟨e, hu⟩ => ?_
  subst e
  cases u' with
  | chan d el =>
    refine sr_bind _ (sr_typeInfo el) fun R3 h3 i i' ⟨e, _⟩ => ?_
    subst e
    dsimp only
    split
    · exact .dead ((dead_plain _).bind _)
    · refine SR.new (OR.chan _ _ _) fun n n' => .pure (.chan (.inr ⟨rfl, rfl⟩))
  | _ => exact sr_stuck _ _

/-! ### len, min, max, append -/
theorem sr_len (ts : Array TypeId) (ty : TypeId) {as as' : Array Value} (h : AVR F R as as') : V P F R (Builtin.len_ ts ty as) (Builtin.len_ ts ty as') := by
  unfold Builtin.len_
  cases ht : ts[0]? with
  | none => exact sr_stuck _ _
  | some t =>
    cases ha : as[0]? with
    | none => exact sr_stuck _ _
    | some x =>
      obtain ⟨x', hx', hx⟩ := h.get ha
      rw [hx']
      dsimp only
      refine sr_bind _ (sr_underlying t) fun R1 h1 u u' ⟨e, hu⟩ => ?_
      subst e
      have hx1 := hx.mono h1
      split
      · cases hx1
      · exact sr_pure (.int _ _)
      · refine sr_bind _ (sr_underlying _) fun R2 h2 u u' ⟨e, hu⟩ => ?_
        subst e
        cases u' with
        | array n _ => exact sr_pure (.int _ _)
        | _ => exact sr_stuck _ _
      · cases hx1 with
        | sliceNone => exact sr_pure (.int _ _)
        | slice => exact sr_pure (.int _ _)
      · cases hx1; exact sr_pure (.int _ _)
      · cases hx1; exact sr_pure (.int _ _)
      · cases hx1 with
        | map hr =>
          refine SR.getObj hr fun o o' ho hn => ?_
          cases ho with
          | map hs _ => simp only [Sem.bind]; rw [← hs]; exact sr_pure (.int _ _)
          | cells => exact absurd trivial hn
          | _ => exact sr_stuck _ _
      · cases hx1 with
        | chan hr =>
          refine SR.getObj hr fun o o' ho hn => ?_
          cases ho with
          | chan => exact sr_pure (.int _ _)
          | cells => exact absurd trivial hn
          | _ => exact sr_stuck _ _
      · exact sr_stuck _ _

theorem sr_min2 {x x' y y' : Value} (hx : VR F R x x') (hy : VR F R y y') : V P F R (Builtin.min2 x y) (Builtin.min2 x' y') := by
  cases hx <;> cases hy <;> first | exact sr_pure (.int _ _) | exact sr_stuck _ _ | exact sr_unsup (by trivial) _
theorem sr_max2 {x x' y y' : Value} (hx : VR F R x x') (hy : VR F R y y') : V P F R (Builtin.max2 x y) (Builtin.max2 x' y') := by
  cases hx <;> cases hy <;> first | exact sr_pure (.int _ _) | exact sr_stuck _ _ | exact sr_unsup (by trivial) _
theorem sr_foldl {f : Value → Value → Sem Value} (hf : ∀ {R : BR} {x x' y y' : Value}, VR F R x x' → VR F R y y' → V P F R (f x y) (f x' y')) : ∀ (l l' : List Value) {R : BR} {x x' : Value}, VR F R x x' → LVR F R l l' → V P F R (l.foldlM f x) (l'.foldlM f x') := by
  intro l
  induction l with
  | nil => intro l' R x x' hx h; cases l' with
    | nil => exact sr_pure hx
    | cons _ _ => exact h.elim
  | cons y l ih =>
    intro l' R x x' hx h
    cases l' with
    | nil => exact h.elim
    | cons y' l' =>
      rw [List.foldlM_cons, List.foldlM_cons]
      refine sr_bind _ (hf hx h.1) fun R1 h1 z z' hz => ih l' hz (h.2.mono h1)
theorem sr_min (ts : Array TypeId) (ty : TypeId) {as as' : Array Value} (h : AVR F R as as') : V P F R (Builtin.min_ ts ty as) (Builtin.min_ ts ty as') := by
  unfold Builtin.min_
  have hl := h.list
  cases e : as.toList with
  | nil => exact sr_stuck _ _
  | cons x l =>
    rw [e] at hl
    cases e' : as'.toList with
    | nil => rw [e'] at hl; exact hl.elim
    | cons x' l' => rw [e'] at hl; exact sr_foldl sr_min2 l l' hl.1 hl.2
theorem sr_max (ts : Array TypeId) (ty : TypeId) {as as' : Array Value} (h : AVR F R as as') : V P F R (Builtin.max_ ts ty as) (Builtin.max_ ts ty as') := by
  unfold Builtin.max_
  have hl := h.list
  cases e : as.toList with
  | nil => exact sr_stuck _ _
  | cons x l =>
    rw [e] at hl
    cases e' : as'.toList with
    | nil => rw [e'] at hl; exact hl.elim
    | cons x' l' => rw [e'] at hl; exact sr_foldl sr_max2 l l' hl.1 hl.2

theorem sr_lenOf {v v' : Value} (h : VR F R v v') : SR P F EqR R (Builtin.lenOf v) (Builtin.lenOf v') := by
  cases h <;> first | exact sr_pure rfl | exact sr_stuck _ _
theorem sr_firstCells (size n : Nat) {v v' : Value} (h : VR F R v v') : SR P F (AVR F) R (Builtin.firstCells size n v) (Builtin.firstCells size n v') := by
  cases h with
  | sliceNone => exact sr_pure .nil
  | slice ha l c => exact sr_loadCells _ ha
  | _ => exact sr_stuck _ _
theorem AVR.zeroCells {z z' : Array Value} (h : AVR F R z z') (n : Nat) : AVR F R (Builtin.zeroCells z n) (Builtin.zeroCells z' n) := by
  unfold Builtin.zeroCells
  rw [← h.1]
  exact h.index _ _
theorem holdsCells_ok (a : Addr) (n : Nat) (w : World) : ∃ b, (Builtin.holdsCells a n).run P w = .ok b w := by
  unfold Builtin.holdsCells
  rw [Sem.run_bind, run_shape, Result.andThen_ok]
  cases w.shape? a.block with
  | none => exact ⟨_, rfl⟩
  | some x => exact ⟨_, rfl⟩
theorem mayShare_ok (size l n : Nat) (base : Option Addr) (x : Value) (w : World) : ∃ b w1, (Builtin.mayShare size l n base x).run P w = .ok b w1 := by
  unfold Builtin.mayShare
  have two : ∀ (there : Bool), ∃ b w1, (do if !there then return true
                                           match x with
                                           | .slice (some b) _ _ => do pure (!(← Builtin.holdsCells b (n * size)) || base.any (·.block == b.block))
                                           | _ => pure false : Sem Bool).run P w = .ok b w1 := by
    intro there
    cases there with
    | false => exact ⟨_, _, rfl⟩
    | true =>
      simp only [Bool.not_true, Bool.false_eq_true, if_false]
      split
      · rename_i b _ _
        obtain ⟨y, hy⟩ := holdsCells_ok (P := P) b (n * size) w
        exact ⟨_, w, by rw [Sem.run_bind, hy]; rfl⟩
      · exact ⟨_, _, rfl⟩
  cases base with
  | none => exact two true
  | some a =>
    obtain ⟨y, hy⟩ := holdsCells_ok (P := P) a (l * size) w
    obtain ⟨b, w1, e⟩ := two (y && !w.frozen? (a.add (l / 2 * size)))
    refine ⟨b, w1, ?_⟩
    rw [← e]
    simp only [Sem.run_bind, hy, Result.andThen_ok]
    cases y
    · rfl
    · rfl
/-- An append of a slice to a slice. -/
theorem sr_append (ts : Array TypeId) (ty : TypeId) (hz : ∀ t, ts[0]? = some t → elemOk P t = true) (h1 : ∀ t, ts[1]? = some t → (match P.underlying t with | some (.int _) => false | _ => true) = true) {as as' : Array Value} (h : AVR F R as as') :
    V P F R (Builtin.append_ ts ty as) (Builtin.append_ ts ty as') := by
  unfold Builtin.append_
  cases ht : ts[0]? with
  | none => exact sr_stuck _ _
  | some t =>
    cases ha : as[0]? with
    | none => exact sr_stuck _ _
    | some s =>
      obtain ⟨s', hs', hs⟩ := h.get ha
      rw [hs']
      cases hb : as[1]? with
      | none => exact sr_stuck _ _
      | some x =>
        obtain ⟨x', hx', hx⟩ := h.get hb
        rw [hx']
        dsimp only
        refine sr_bind _ (sr_underlying t) fun R1 g1 u u' ⟨e, hu⟩ => ?_
        subst e
        cases u' with
        | slice el =>
          have hze : zeroOk P el = true := by have := hz t ht; unfold elemOk at this; rw [hu] at this; exact this
          have hsl : (∃ base base' l c, s = .slice base l c ∧ s' = .slice base' l c ∧ (base = none ∧ base' = none ∨ ∃ a a', base = some a ∧ base' = some a' ∧ AR R a a')) ∨ (∀ base l c, s ≠ .slice base l c) := by
            cases hs with
            | sliceNone l c => exact .inl ⟨none, none, l, c, rfl, rfl, .inl ⟨rfl, rfl⟩⟩
            | slice hadr l c => exact .inl ⟨_, _, l, c, rfl, rfl, .inr ⟨_, _, rfl, rfl, hadr⟩⟩
            | _ => exact .inr (by simp)
          rcases hsl with ⟨base, base', l, c, rfl, rfl, hbase⟩ | hno
          · dsimp only
            refine sr_bind _ (sr_sizeOf el) fun R2 g2 size size' ⟨e, _⟩ => ?_
            subst e
            cases ht1 : ts[1]? with
            | none =>
              dsimp only
              refine sr_bind (fun _ a a' => a = false ∧ a' = false) (sr_pure ⟨rfl, rfl⟩) fun R4 g4 z z' ⟨e1, e2⟩ => ?_
              subst e1 e2
              have gg : ∀ b c, R b c → R4 b c := fun _ _ x => g4 _ _ (g2 _ _ (g1 _ _ x))
              simp only [Bool.false_eq_true, if_false, false_or, Bool.not_false, if_true]
              refine sr_bind _ (sr_lenOf (hx.mono gg)) fun R5 g5 n n' e => ?_
              cases e
              have g5' : ∀ b c, R b c → R5 b c := fun _ _ x => g5 _ _ (gg _ _ x)
              split
              · refine sr_bind _ (sr_firstCells _ _ (hx.mono g5')) fun R6 g6 q q' hq6 => ?_
                rcases hbase with ⟨rfl, rfl⟩ | ⟨a0, a0', rfl, rfl, har⟩
                · exact sr_pure (.sliceNone _ _)
                · have har6 := (har.mono g5').mono g6
                  refine sr_bind _ (sr_storeCells _ _ 0 (har6.add _) hq6.list) fun R7 g7 _ _ _ => ?_
                  exact sr_pure (.slice (har6.mono g7) _ _)
              · refine sr_bind _ (sr_typeInfo el) fun R6 g6 i i' ⟨e, _⟩ => ?_
                subst e
                split
                · exact .dead ((dead_error _).bind _)
                · refine sr_bind _ (sr_typeInfo el) fun R7 g7 i i' ⟨e, _⟩ => ?_
                  subst e
                  split
                  · refine .dead (Dead.bind (Dead.later (mayShare_ok _ _ _ _ _) fun b => ?_) _)
                    cases b
                    · exact Dead.later (fun w => ⟨(), w, rfl⟩) fun _ => dead_halt trivial
                    · exact dead_halt trivial
                  · refine sr_bind EqR (SR.choose fun n => .pure rfl) fun R8 g8 cap cap' e => ?_
                    cases e
                    refine sr_bind _ (sr_typeInfo el) fun R9 g9 i i' ⟨e, _⟩ => ?_
                    subst e
                    refine sr_bind _ (sr_askRoom _) fun R10 g10 _ _ _ => ?_
                    have g10' : ∀ b c, R b c → R10 b c := fun _ _ x => g10 _ _ (g9 _ _ (g8 _ _ (g7 _ _ (g6 _ _ (g5' _ _ x)))))
                    refine sr_bind _ (sr_firstCells _ _ (hs.mono g10')) fun R11 g11 o o' ho => ?_
                    refine sr_bind _ (sr_firstCells _ _ ((hx.mono g10').mono g11)) fun R12 g12 p p' hp => ?_
                    refine sr_bind _ (sr_zeroValue el hze) fun R13 g13 z z' hz' => ?_
                    refine sr_bind _ (sr_newRow el ((((ho.mono g12).mono g13).append (hp.mono g13)).append (hz'.2.cells.zeroCells _))) fun R14 g14 a a' ha' => ?_
                    exact sr_pure (.slice ha' _ _)
            | some xt =>
              dsimp only
              refine sr_bind _ (sr_underlying xt) fun R3 g3 d d' ⟨e, hd⟩ => ?_
              subst e
              have hq := h1 xt ht1
              rw [hd] at hq
              refine sr_bind (fun _ a a' => a = false ∧ a' = false) (sr_pure ?_) fun R4 g4 z z' ⟨e1, e2⟩ => ?_
              · cases d' <;> first | exact ⟨rfl, rfl⟩ | cases hq
              subst e1 e2
              have gg : ∀ b c, R b c → R4 b c := fun _ _ x => g4 _ _ (g3 _ _ (g2 _ _ (g1 _ _ x)))
              simp only [Bool.false_eq_true, if_false, false_or, Bool.not_false, if_true]
              refine sr_bind _ (sr_lenOf (hx.mono gg)) fun R5 g5 n n' e => ?_
              cases e
              have g5' : ∀ b c, R b c → R5 b c := fun _ _ x => g5 _ _ (gg _ _ x)
              split
              · refine sr_bind _ (sr_firstCells _ _ (hx.mono g5')) fun R6 g6 q q' hq6 => ?_
                rcases hbase with ⟨rfl, rfl⟩ | ⟨a0, a0', rfl, rfl, har⟩
                · exact sr_pure (.sliceNone _ _)
                · have har6 := (har.mono g5').mono g6
                  refine sr_bind _ (sr_storeCells _ _ 0 (har6.add _) hq6.list) fun R7 g7 _ _ _ => ?_
                  exact sr_pure (.slice (har6.mono g7) _ _)
              · refine sr_bind _ (sr_typeInfo el) fun R6 g6 i i' ⟨e, _⟩ => ?_
                subst e
                split
                · exact .dead ((dead_error _).bind _)
                · refine sr_bind _ (sr_typeInfo el) fun R7 g7 i i' ⟨e, _⟩ => ?_
                  subst e
                  split
                  · refine .dead (Dead.bind (Dead.later (mayShare_ok _ _ _ _ _) fun b => ?_) _)
                    cases b
                    · exact Dead.later (fun w => ⟨(), w, rfl⟩) fun _ => dead_halt trivial
                    · exact dead_halt trivial
                  · refine sr_bind EqR (SR.choose fun n => .pure rfl) fun R8 g8 cap cap' e => ?_
                    cases e
                    refine sr_bind _ (sr_typeInfo el) fun R9 g9 i i' ⟨e, _⟩ => ?_
                    subst e
                    refine sr_bind _ (sr_askRoom _) fun R10 g10 _ _ _ => ?_
                    have g10' : ∀ b c, R b c → R10 b c := fun _ _ x => g10 _ _ (g9 _ _ (g8 _ _ (g7 _ _ (g6 _ _ (g5' _ _ x)))))
                    refine sr_bind _ (sr_firstCells _ _ (hs.mono g10')) fun R11 g11 o o' ho => ?_
                    refine sr_bind _ (sr_firstCells _ _ ((hx.mono g10').mono g11)) fun R12 g12 p p' hp => ?_
                    refine sr_bind _ (sr_zeroValue el hze) fun R13 g13 z z' hz' => ?_
                    refine sr_bind _ (sr_newRow el ((((ho.mono g12).mono g13).append (hp.mono g13)).append (hz'.2.cells.zeroCells _))) fun R14 g14 a a' ha' => ?_
                    exact sr_pure (.slice ha' _ _)
          · cases s <;> first | exact sr_stuck _ _ | exact absurd rfl (hno _ _ _)
        | _ => exact sr_stuck _ _
end
end Go.Proofs.Ytneclhkpgalnlaa.Sm
