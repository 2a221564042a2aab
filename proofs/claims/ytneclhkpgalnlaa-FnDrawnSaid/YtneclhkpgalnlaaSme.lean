/-
  A SIMULATION OF TREES: arithmetic, comparisons; pointers among them.
-/
import Derived.Test.YtneclhkpgalnlaaSmd
namespace Go.Proofs.Ytneclhkpgalnlaa.Sm
open Go Go.Conc
set_option linter.unusedVariables false
set_option linter.unusedSimpArgs false
section
variable {P : Program} {F : FuncId → Prop} {R : BR}

/-- An integer type or bool itself. -/
def baseT (P : Program) (t : TypeId) : Bool := match P.info? t with
  | some i => match i.desc with
    | .int _ | .bool => true
    | _ => false
  | none => false

theorem sr_numberAt {r r' : Nat} (h : R r r') : SR P F (fun R o o' => (o = none ∧ o' = none) ∨ ∃ a a' l, o = some (a, l) ∧ o' = some (a', l) ∧ AR R a a') R (numberAt r) (numberAt r') := by
  unfold numberAt
  refine SR.shape h fun s s' hs => ?_
  have getPart : SR P F (fun R o o' => (o = none ∧ o' = none) ∨ ∃ a a' l, o = some (a, l) ∧ o' = some (a', l) ∧ AR R a a') R
      (do match ← getObj r with | .number a lost => pure (some (a, lost)) | _ => pure none) (do match ← getObj r' with | .number a lost => pure (some (a, lost)) | _ => pure none) := by
    refine SR.getObj h fun o o' ho hn => ?_
    cases ho with
    | number ha l => exact SR.pure (.inr ⟨_, _, l, rfl, rfl, ha⟩)
    | cells => exact absurd trivial hn
    | _ => exact SR.pure (.inl ⟨rfl, rfl⟩)
  rcases hs with ⟨rfl, rfl⟩ | ⟨e, n, n', rfl, rfl, hle⟩
  · exact getPart
  · exact sr_pure (.inl ⟨rfl, rfl⟩)
theorem sr_viewAt {r r' : Nat} (h : R r r') : SR P F (fun _ o o' => o = none ∧ o' = none) R (viewAt r) (viewAt r') := by
  unfold viewAt
  refine SR.shape h fun s s' hs => ?_
  have getPart : SR P F (fun _ o o' => o = none ∧ o' = none) R
      (do match ← getObj r with | .view a t => pure (some (a, t)) | _ => pure none) (do match ← getObj r' with | .view a t => pure (some (a, t)) | _ => pure none) := by
    refine SR.getObj h fun o o' ho hn => ?_
    cases ho with
    | cells => exact absurd trivial hn
    | _ => exact SR.pure ⟨rfl, rfl⟩
  rcases hs with ⟨rfl, rfl⟩ | ⟨e, n, n', rfl, rfl, hle⟩
  · exact getPart
  · exact sr_pure ⟨rfl, rfl⟩
theorem sr_behind {a a' : Addr} (h : AR R a a') : SR P F (fun R p p' => AR R p.1 p'.1 ∧ p'.2 = p.2) R (behindNumber a) (behindNumber a') := by
  unfold behindNumber
  refine sr_bind _ (sr_numberAt h.1) fun R1 h1 o o' ho => ?_
  rcases ho with ⟨rfl, rfl⟩ | ⟨x, x', l, rfl, rfl, hx⟩
  · exact sr_pure ⟨h.mono h1, rfl⟩
  · exact sr_pure ⟨hx, rfl⟩
theorem cellAt_mono {d : Nat} {e : TypeId} {c c' off : Nat} {n : Int} {x : Nat} (hc : c ≤ c') (h : cellAtBytes P d e c off n = some x) : cellAtBytes P d e c' off n = some x := by
  unfold cellAtBytes at h ⊢
  simp only [bind, Option.bind, pure] at h ⊢
  split at h
  · cases h
  · rename_i h0
    rw [if_neg h0]
    cases hb : byteOfCell P d e (off % P.cellsOf e) with
    | none => simp [hb] at h
    | some y =>
      simp only [hb] at h ⊢
      split at h
      · cases h
      · rename_i h1
        rw [if_neg]
        · exact h
        · intro hh
          apply h1
          simp only [Bool.or_eq_true, decide_eq_true_eq] at hh ⊢
          rcases hh with hh | hh
          · exact .inl hh
          · right
            have : c * P.bytesOf e ≤ c' * P.bytesOf e := Nat.mul_le_mul_right _ hc
            have h3 : Int.ofNat (c * P.bytesOf e) ≤ Int.ofNat (c' * P.bytesOf e) := Int.ofNat_le.2 this
            omega

/-- Two pointers. -/
def PR : BR → Value → Value → Prop := fun R v v' => (v = .pointer none ∧ v' = .pointer none) ∨ ∃ a a', v = .pointer (some a) ∧ v' = .pointer (some a') ∧ AR R a a'
theorem PR.vr {v v' : Value} (h : PR R v v') : VR F R v v' := by
  rcases h with ⟨rfl, rfl⟩ | ⟨a, a', rfl, rfl, h⟩
  · exact .bot ⟨by simp, by simp, by simp⟩
  · exact .pointer h
theorem SR.weaken {α β : Type} {A B : BR → α → β → Prop} {R : BR} {s : Sem α} {s' : Sem β} (h : SR P F A R s s') (hk : ∀ R a a', A R a a' → B R a a') : SR P F B R s s' := by
  have := h.bind (k := Sem.pure) (k' := Sem.pure) (B := B) fun R1 _ a a' x => .pure (hk _ _ _ x)
  rwa [Sem.bind_pure', Sem.bind_pure'] at this

theorem sr_unsafeAdd (ts : Array TypeId) (t : TypeId) {a a' : Addr} {y y' : Value} (ha : AR R a a') (hy : VR F R y y') : SR P F PR R (Builtin.unsafeAdd_ ts t #[.pointer (some a), y]) (Builtin.unsafeAdd_ ts t #[.pointer (some a'), y']) := by
  unfold Builtin.unsafeAdd_
  dsimp only
  refine sr_bind _ (sr_asInt hy) fun R1 h1 n n' e => ?_
  cases e
  by_cases hn : n = 0
  · simp only [hn, if_true]
    refine sr_bind _ (sr_viewAt (ha.mono h1).1) fun R2 h2 o o' ⟨e1, e2⟩ => ?_
    subst e1 e2
    exact sr_pure (.inr ⟨_, _, rfl, rfl, (ha.mono h1).mono h2⟩)
  · simp only [hn, if_false]
    by_cases hn2 : n < 0
    · simp only [hn2, if_true]
      exact sr_unsupb (by trivial) _ _
    · simp only [hn2, if_false]
      refine SR.shape (ha.mono h1).1 fun s s' hs => ?_
      rcases hs with ⟨rfl, rfl⟩ | ⟨e, m, m', rfl, rfl, hle⟩
      · exact sr_unsup (by trivial) _
      · refine sr_program ?_
        rw [ha.2.1]
        cases hc : cellAtBytes P P.depth e (m / P.cellsOf e) a.off n with
        | none => exact sr_unsup (by trivial) _
        | some off =>
          have := cellAt_mono (Nat.div_le_div_right (c := P.cellsOf e) hle) hc
          simp only [this]
          exact sr_pure (.inr ⟨_, _, rfl, rfl, (ha.mono h1).1, rfl, ha.2.2.1, ha.2.2.2⟩)
theorem sr_asNumber {a a' : Addr} (h : AR R a a') (l : Bool) : V P F R (asNumber a l) (asNumber a' l) := by
  unfold asNumber newObj
  exact SR.new (OR.number h l) fun n n' => SR.pure (.pointer ⟨.inr ⟨rfl, rfl⟩, rfl, rfl, rfl⟩)
theorem sr_movedNumber (t : TypeId) {a a' : Addr} {y y' : Value} (ha : AR R a a') (hy : VR F R y y') : V P F R (movedNumber t (.pointer (some a)) y) (movedNumber t (.pointer (some a')) y') := by
  unfold movedNumber
  refine sr_bind _ (sr_underlying t) fun R1 h1 u u' ⟨e, _⟩ => ?_
  subst e
  dsimp only
  split
  · exact sr_unsupb (by trivial) _ _
  · simp only [Bool.false_eq_true, if_false]
    refine sr_bind _ (sr_behind (ha.mono h1)) fun R2 h2 p p' hp => ?_
    obtain ⟨b, l⟩ := p
    obtain ⟨b', l'⟩ := p'
    obtain ⟨hp1, hp2⟩ := hp
    simp only at hp1 hp2
    subst hp2
    refine sr_bind _ (sr_unsafeAdd _ _ hp1 ((hy.mono h1).mono h2)) fun R3 h3 v v' hv => ?_
    rcases hv with ⟨rfl, rfl⟩ | ⟨c, c', rfl, rfl, hc⟩
    · exact sr_pure (.bot ⟨by simp, by simp, by simp⟩)
    · exact sr_asNumber hc _
theorem dead_movedNone (t : TypeId) (k : IntKind) (n : Int) : Dead P (movedNumber t (.pointer none) (.int k n)) := by
  intro w
  unfold movedNumber
  rw [Sem.run_bind]
  unfold underlying
  simp only [Sem.run_bind, run_program, Result.andThen_ok]
  cases P.underlying t with
  | none => exact ⟨_, w, rfl, trivial⟩
  | some d =>
    simp only [Sem.run_pure, Result.andThen_ok]
    have add : Dead P (Builtin.unsafeAdd_ #[] t #[.pointer none, .int k n]) := by
      unfold Builtin.unsafeAdd_
      dsimp only
      refine Dead.later (s := asInt (.int k n)) (fun w => ⟨n, w, rfl⟩) fun m => ?_
      by_cases hn : m = 0
      · rw [if_pos hn]; exact dead_halt (by trivial)
      · rw [if_neg hn]
        by_cases hn2 : m < 0
        · rw [if_pos hn2]; exact Dead.bind (dead_halt (by trivial)) _
        · rw [if_neg hn2]; exact dead_halt (by trivial)
    cases d with
    | unsafePointer => exact ⟨_, w, rfl, trivial⟩
    | _ => exact add w

theorem sr_twoPlaces {α β : Type} {A : BR → α → β → Prop} (hG : P.globals.size = 0) (a b : Addr) (k : Nat × Nat → Sem α) (s' : Sem β) : SR P F A R (Op.twoPlaces a b >>= k) s' :=
  .dead (Dead.bind (fun w => ⟨.unsupported .addressObserved, w, by simp [Op.twoPlaces, hG], trivial⟩) _)

theorem sr_byteOf {a a' : Addr} (h : AR R a a') : SR P F EqR R (byteOf a) (byteOf a') := by
  unfold byteOf
  rw [h.2.2.1, h.2.2.2]
  dsimp only
  refine sr_program ?_
  have hv : SR P F EqR R (noView a) (noView a') := by
    unfold noView
    refine sr_bind _ (sr_viewAt h.1) fun R2 h2 o o' ⟨e1, e2⟩ => ?_
    subst e1 e2
    exact sr_pure rfl
  refine sr_bind _ hv fun R1 h1 _ _ _ => ?_
  refine SR.shape (h.mono h1).1 fun s s' hs => ?_
  rcases hs with ⟨rfl, rfl⟩ | ⟨e, n, n', rfl, rfl, hle⟩
  · exact sr_stuck _ _
  · simp only [Sem.bind]
    rw [h.2.1]
    split
    · exact sr_pure rfl
    · split
      · exact sr_pure rfl
      · exact sr_stuck _ _

theorem base_desc {t : TypeId} (hb : baseT P t = true) : ∃ i, P.info? t = some i ∧ P.underlying t = some i.desc ∧ (i.desc = .bool ∨ ∃ k, i.desc = .int k) := by
  unfold baseT at hb
  cases hi : P.info? t with
  | none => rw [hi] at hb; cases hb
  | some i =>
    rw [hi] at hb
    refine ⟨i, rfl, ?_, ?_⟩
    · unfold Program.underlying
      rw [hi]
      cases hd : i.desc <;> simp only [hd] at hb <;> first | (cases hb; done) | (obtain ⟨⟩ := i; simp only at hd; subst hd; rfl)
    · cases hd : i.desc <;> simp only [hd] at hb <;> first | (cases hb; done) | exact .inl rfl | exact .inr ⟨_, rfl⟩

theorem sr_equal {t : TypeId} (hb : baseT P t = true) (hG : P.globals.size = 0) {x x' y y' : Value} (hx : VR F R x x') (hy : VR F R y y') : SR P F EqR R (Op.equal t x y) (Op.equal t x' y') := by
  obtain ⟨i, hi, hu, hd⟩ := base_desc hb
  unfold Op.equal Op.maxDepth
  show SR P F EqR R (Op.equalIn (9999 + 1) t x y) (Op.equalIn (9999 + 1) t x' y')
  unfold Op.equalIn
  refine sr_bind _ (sr_underlying t) fun R1 h1 d d' ⟨e, hu'⟩ => ?_
  subst e
  rw [hu] at hu'
  simp only [Option.some.injEq] at hu'
  subst hu'
  have hx1 := hx.mono h1
  have hy1 := hy.mono h1
  rcases hd with hd | ⟨k, hd⟩
  · rw [hd]
    cases hx1 <;> first
      | exact sr_stuck _ _
      | (cases hy1 <;> first | exact sr_stuck _ _ | exact sr_pure rfl)
  · rw [hd]
    have ptr : ∀ {a a' b b' : Addr}, AR R1 a a' → AR R1 b b' → SR P F EqR R1
        (do let (a, b) := ((← behindNumber a).1, (← behindNumber b).1)
            if a.block == b.block && a.block < (← program).globals.size then return (← byteOf a) == (← byteOf b)
            let .named "sync.copyChecker" _ := (← typeInfo t).desc | unsupported .addressObserved
            if a == b then pure true else unsupported .addressObserved)
        (do let (a, b) := ((← behindNumber a').1, (← behindNumber b').1)
            if a.block == b.block && a.block < (← program).globals.size then return (← byteOf a) == (← byteOf b)
            let .named "sync.copyChecker" _ := (← typeInfo t).desc | unsupported .addressObserved
            if a == b then pure true else unsupported .addressObserved) := by
      intro a a' b b' ha hb
      refine sr_bind _ (sr_behind ha) fun R2 h2 p p' hp => ?_
      refine sr_bind _ (sr_behind (hb.mono h2)) fun R3 h3 q q' hq => ?_
      dsimp only
      refine sr_program ?_
      simp only [hG, Nat.not_lt_zero, decide_false, Bool.and_false, Bool.false_eq_true, if_false]
      refine sr_bind _ (sr_typeInfo t) fun R4 h4 j j' ⟨e, hj⟩ => ?_
      subst e
      rw [hi] at hj
      simp only [Option.some.injEq] at hj
      subst hj
      rw [hd]
      exact sr_unsup (by trivial) _
    cases hx1 with
    | int k1 n => cases hy1 with
      | pointer ha => rcases n with (_ | m) | m <;> first | exact sr_pure rfl | exact sr_unsup (by trivial) _
      | int k2 m =>
        dsimp only
        by_cases hk : k1 = k2
        · simp only [hk, if_true]; exact sr_pure rfl
        · simp only [hk, if_false]; exact sr_stuck _ _
      | _ => first | exact sr_stuck _ _ | exact sr_unsup (by trivial) _
    | pointer ha => cases hy1 with
      | int k2 n => rcases n with (_ | m) | m <;> first | exact sr_pure rfl | exact sr_unsup (by trivial) _
      | pointer hb => exact ptr ha hb
      | _ => first | exact sr_stuck _ _ | exact sr_unsup (by trivial) _
    | _ => cases hy1 <;> first | exact sr_stuck _ _ | exact sr_unsup (by trivial) _
end
end Go.Proofs.Ytneclhkpgalnlaa.Sm
