/-
  A SIMULATION OF TREES: binary operations; calls; every operation of the subset.
-/
import Derived.Test.YtmfglflahlddbaaSmZa
namespace Go.Proofs.Ytmfglflahlddbaa.Sm
open Go Go.Conc
set_option linter.unusedVariables false
set_option linter.unusedSimpArgs false
section
variable {P : Program} {F : FuncId → Prop} {R : BR}

def okBin : BinOp → Bool
  | .add | .sub | .mul | .quo | .rem | .eql | .neq | .lss | .leq | .gtr | .geq => true
  | _ => false

theorem sr_addrMod {a a' : Addr} (h : AR R a a') (k : IntKind) (n : Int) : V P F R (Op.addrMod k a n) (Op.addrMod k a' n) := by
  unfold Op.addrMod
  refine SR.shape h.1 fun s s' hs => ?_
  rcases hs with ⟨rfl, rfl⟩ | ⟨e, m, m', rfl, rfl, hle⟩
  · exact sr_unsup (by trivial) _
  · refine sr_bind _ (sr_typeInfo e) fun R2 h2 i i' ⟨e, _⟩ => ?_
    subst e
    dsimp only
    split
    · exact sr_unsupb (by trivial) _ _
    · refine sr_bind _ (sr_byteOf (h.mono h2)) fun R3 h3 b b' e => ?_
      cases e
      exact sr_pure (.int _ _)

theorem sr_intInt (op : BinOp) (hop : okBin op = true) (k k' : IntKind) (a b : Int) (t : TypeId) : V P F R (binOp op t (.int k a) (.int k' b)) (binOp op t (.int k a) (.int k' b)) := by
  have cmp : ∀ op, V P F R (Op.intCmp op a b) (Op.intCmp op a b) := by
    intro op; unfold Op.intCmp; cases op <;> first | exact sr_pure (.bool _) | exact sr_stuck _ _
  have ar : ∀ op, V P F R (Op.intArith op k a b) (Op.intArith op k a b) := by
    intro op; unfold Op.intArith; cases op <;> first | exact sr_pure (.int _ _) | exact sr_stuck _ _
  have dv : ∀ op, V P F R (Op.intDiv op k a b) (Op.intDiv op k a b) := by
    intro op
    unfold Op.intDiv
    split
    · exact .dead (dead_error _)
    · cases op <;> first | exact sr_pure (.int _ _) | exact sr_stuck _ _
  cases op <;> first
    | (cases hop; done)
    | (unfold binOp; dsimp only; by_cases hk : k = k'
       · simp only [hk, ne_eq, not_true_eq_false, if_false]; first | exact cmp _ | (subst hk; exact ar _) | (subst hk; exact dv _)
       · simp only [hk, ne_eq, not_false_eq_true, if_true]; exact sr_stuck _ _)

theorem sr_cmpPtr (op : BinOp) (hG : P.globals.size = 0) {a a' b b' : Addr} (ha : AR R a a') (hb : AR R b b') : V P F R (do Op.addrCmp op (← behindNumber a).1 (← behindNumber b).1) (do Op.addrCmp op (← behindNumber a').1 (← behindNumber b').1) := by
  refine sr_bind _ (sr_behind ha) fun R2 h2 p p' hp => ?_
  refine sr_bind _ (sr_behind (hb.mono h2)) fun R3 h3 q q' hq => ?_
  exact sr_twoPlaces hG _ _ _ _

theorem sr_plus {t : TypeId} (hb : baseT P t = true) {a a' : Addr} {y y' : Value} (ha : AR R a a') (hy : VR F R y y') :
    V P F R (do if (← underlying t) matches .unsafePointer then movedPointer t (.pointer (some a)) y else movedNumber t (.pointer (some a)) y) (do if (← underlying t) matches .unsafePointer then movedPointer t (.pointer (some a')) y' else movedNumber t (.pointer (some a')) y') := by
  obtain ⟨i, hi, hu, hd⟩ := base_desc hb
  refine sr_bind _ (sr_underlying t) fun R1 h1 d d' ⟨e, hu'⟩ => ?_
  subst e
  rw [hu] at hu'
  simp only [Option.some.injEq] at hu'
  subst hu'
  rcases hd with hd | ⟨k, hd⟩ <;> rw [hd] <;> exact sr_movedNumber t (ha.mono h1) (hy.mono h1)
theorem dead_plus {t : TypeId} (hb : baseT P t = true) (k : IntKind) (n : Int) : Dead P (do if (← underlying t) matches .unsafePointer then movedPointer t (.pointer none) (.int k n) else movedNumber t (.pointer none) (.int k n)) := by
  obtain ⟨i, hi, hu, hd⟩ := base_desc hb
  intro w
  have e : (underlying t).run P w = .ok i.desc w := by simp [underlying, hu]
  rw [Sem.run_bind, e, Result.andThen_ok]
  rcases hd with hd | ⟨k', hd⟩ <;> rw [hd] <;> exact dead_movedNone t k n w

theorem dead_eqL {t : TypeId} (hb : baseT P t = true) (y : Value) : Dead P (Op.equal t (.pointer none) y) := by
  intro w
  obtain ⟨i, hi, hu, hd⟩ := base_desc hb
  unfold Op.equal Op.maxDepth
  show ∃ h w1, (Op.equalIn (9999 + 1) t (.pointer none) y).run P w = .halt h w1 ∧ okHalt h
  unfold Op.equalIn
  have e : (underlying t).run P w = .ok i.desc w := by simp [underlying, hu]
  rw [Sem.run_bind, e, Result.andThen_ok]
  rcases hd with hd | ⟨k, hd⟩ <;> rw [hd] <;> cases y <;> first | exact ⟨.stuck _, _, rfl, trivial⟩ | exact ⟨.unsupported .addressObserved, _, rfl, trivial⟩ | (rename_i a; cases a <;> exact ⟨.unsupported .addressObserved, _, rfl, trivial⟩)
theorem dead_eqR {t : TypeId} (hb : baseT P t = true) (x : Value) : Dead P (Op.equal t x (.pointer none)) := by
  intro w
  obtain ⟨i, hi, hu, hd⟩ := base_desc hb
  unfold Op.equal Op.maxDepth
  show ∃ h w1, (Op.equalIn (9999 + 1) t x (.pointer none)).run P w = .halt h w1 ∧ okHalt h
  unfold Op.equalIn
  have e : (underlying t).run P w = .ok i.desc w := by simp [underlying, hu]
  rw [Sem.run_bind, e, Result.andThen_ok]
  rcases hd with hd | ⟨k, hd⟩ <;> rw [hd] <;> cases x <;> first | exact ⟨.stuck _, _, rfl, trivial⟩ | exact ⟨.unsupported .addressObserved, _, rfl, trivial⟩ | (rename_i a; cases a <;> exact ⟨.unsupported .addressObserved, _, rfl, trivial⟩)

attribute [local irreducible] Op.equal movedNumber movedPointer

theorem sr_lss {t : TypeId} (hG : P.globals.size = 0) {x x' y y' : Value} (hx : VR F R x x') (hy : VR F R y y') : V P F R (binOp .lss t x y) (binOp .lss t x' y') := by
  cases hx with
  | int k n => cases hy with
    | int k' m => exact sr_intInt _ rfl _ _ _ _ _
    | _ => first | exact sr_stuck _ _ | exact sr_unsup (by trivial) _
  | pointer ha => cases hy with
    | pointer hb => exact sr_cmpPtr _ hG ha hb
    | _ => first | exact sr_stuck _ _ | exact sr_unsup (by trivial) _
  | _ => cases hy <;> first | exact sr_stuck _ _ | exact sr_unsup (by trivial) _

theorem sr_leq {t : TypeId} (hG : P.globals.size = 0) {x x' y y' : Value} (hx : VR F R x x') (hy : VR F R y y') : V P F R (binOp .leq t x y) (binOp .leq t x' y') := by
  cases hx with
  | int k n => cases hy with
    | int k' m => exact sr_intInt _ rfl _ _ _ _ _
    | _ => first | exact sr_stuck _ _ | exact sr_unsup (by trivial) _
  | pointer ha => cases hy with
    | pointer hb => exact sr_cmpPtr _ hG ha hb
    | _ => first | exact sr_stuck _ _ | exact sr_unsup (by trivial) _
  | _ => cases hy <;> first | exact sr_stuck _ _ | exact sr_unsup (by trivial) _

theorem sr_gtr {t : TypeId} (hG : P.globals.size = 0) {x x' y y' : Value} (hx : VR F R x x') (hy : VR F R y y') : V P F R (binOp .gtr t x y) (binOp .gtr t x' y') := by
  cases hx with
  | int k n => cases hy with
    | int k' m => exact sr_intInt _ rfl _ _ _ _ _
    | _ => first | exact sr_stuck _ _ | exact sr_unsup (by trivial) _
  | pointer ha => cases hy with
    | pointer hb => exact sr_cmpPtr _ hG ha hb
    | _ => first | exact sr_stuck _ _ | exact sr_unsup (by trivial) _
  | _ => cases hy <;> first | exact sr_stuck _ _ | exact sr_unsup (by trivial) _

theorem sr_geq {t : TypeId} (hG : P.globals.size = 0) {x x' y y' : Value} (hx : VR F R x x') (hy : VR F R y y') : V P F R (binOp .geq t x y) (binOp .geq t x' y') := by
  cases hx with
  | int k n => cases hy with
    | int k' m => exact sr_intInt _ rfl _ _ _ _ _
    | _ => first | exact sr_stuck _ _ | exact sr_unsup (by trivial) _
  | pointer ha => cases hy with
    | pointer hb => exact sr_cmpPtr _ hG ha hb
    | _ => first | exact sr_stuck _ _ | exact sr_unsup (by trivial) _
  | _ => cases hy <;> first | exact sr_stuck _ _ | exact sr_unsup (by trivial) _

theorem sr_mul {t : TypeId} {x x' y y' : Value} (hx : VR F R x x') (hy : VR F R y y') : V P F R (binOp .mul t x y) (binOp .mul t x' y') := by
  cases hx with
  | int k n => cases hy with
    | int k' m => exact sr_intInt _ rfl _ _ _ _ _
    | _ => first | exact sr_stuck _ _ | exact sr_unsup (by trivial) _
  | _ => cases hy <;> first | exact sr_stuck _ _ | exact sr_unsup (by trivial) _

theorem sr_quo {t : TypeId} {x x' y y' : Value} (hx : VR F R x x') (hy : VR F R y y') : V P F R (binOp .quo t x y) (binOp .quo t x' y') := by
  cases hx with
  | int k n => cases hy with
    | int k' m => exact sr_intInt _ rfl _ _ _ _ _
    | _ => first | exact sr_stuck _ _ | exact sr_unsup (by trivial) _
  | _ => cases hy <;> first | exact sr_stuck _ _ | exact sr_unsup (by trivial) _

theorem sr_eql {t : TypeId} (hb : baseT P t = true) (hG : P.globals.size = 0) {x x' y y' : Value} (hx : VR F R x x') (hy : VR F R y y') : V P F R (binOp .eql t x y) (binOp .eql t x' y') := by
  have eq : V P F R (do pure (.bool ((← Op.equal t x y)))) (do pure (.bool ((← Op.equal t x' y')))) := sr_bind _ (sr_equal hb hG hx hy) fun R1 _ b b' e => by cases e; exact sr_pure (.bool _)
  cases hx with
  | bot _ => cases hy <;> exact .dead (Dead.bind (dead_eqL hb _) _)
  | int k n => cases hy with
    | int k' m => exact sr_intInt _ rfl _ _ _ _ _
    | bot _ => exact .dead (Dead.bind (dead_eqR hb _) _)
    | _ => exact eq
  | _ => cases hy with
    | bot _ => exact .dead (Dead.bind (dead_eqR hb _) _)
    | _ => exact eq

theorem sr_neq {t : TypeId} (hb : baseT P t = true) (hG : P.globals.size = 0) {x x' y y' : Value} (hx : VR F R x x') (hy : VR F R y y') : V P F R (binOp .neq t x y) (binOp .neq t x' y') := by
  have eq : V P F R (do pure (.bool (!(← Op.equal t x y)))) (do pure (.bool (!(← Op.equal t x' y')))) := sr_bind _ (sr_equal hb hG hx hy) fun R1 _ b b' e => by cases e; exact sr_pure (.bool _)
  cases hx with
  | bot _ => cases hy <;> exact .dead (Dead.bind (dead_eqL hb _) _)
  | int k n => cases hy with
    | int k' m => exact sr_intInt _ rfl _ _ _ _ _
    | bot _ => exact .dead (Dead.bind (dead_eqR hb _) _)
    | _ => exact eq
  | _ => cases hy with
    | bot _ => exact .dead (Dead.bind (dead_eqR hb _) _)
    | _ => exact eq

theorem sr_add {t : TypeId} (hb : baseT P t = true) {x x' y y' : Value} (hx : VR F R x x') (hy : VR F R y y') : V P F R (binOp .add t x y) (binOp .add t x' y') := by
  cases hx with
  | int k n => cases hy with
    | int k' m => exact sr_intInt _ rfl _ _ _ _ _
    | pointer ha => exact sr_movedNumber t ha (.int _ _)
    | bot _ => exact .dead (dead_movedNone _ _ _)
    | _ => first | exact sr_stuck _ _ | exact sr_unsup (by trivial) _
  | pointer ha => cases hy with
    | int k' m => exact sr_plus hb ha (.int _ _)
    | _ => first | exact sr_stuck _ _ | exact sr_unsup (by trivial) _
  | bot _ => cases hy with
    | int k' m => exact .dead (dead_plus hb _ _)
    | _ => first | exact sr_stuck _ _ | exact sr_unsup (by trivial) _
  | _ => cases hy <;> first | exact sr_stuck _ _ | exact sr_unsup (by trivial) _

theorem sr_sub {t : TypeId} (hG : P.globals.size = 0) {x x' y y' : Value} (hx : VR F R x x') (hy : VR F R y y') : V P F R (binOp .sub t x y) (binOp .sub t x' y') := by
  cases hx with
  | int k n => cases hy with
    | int k' m => exact sr_intInt _ rfl _ _ _ _ _
    | _ => first | exact sr_stuck _ _ | exact sr_unsup (by trivial) _
  | pointer ha => cases hy with
    | int k' m => exact sr_movedNumber t ha (.int _ _)
    | pointer hb =>
      refine sr_bind _ (sr_behind ha) fun R2 h2 p p' hp => ?_
      refine sr_bind _ (sr_behind (hb.mono h2)) fun R3 h3 q q' hq => ?_
      exact sr_twoPlaces hG _ _ _ _
    | _ => first | exact sr_stuck _ _ | exact sr_unsup (by trivial) _
  | bot _ => cases hy with
    | int k' m => exact .dead (dead_movedNone _ _ _)
    | _ => first | exact sr_stuck _ _ | exact sr_unsup (by trivial) _
  | _ => cases hy <;> first | exact sr_stuck _ _ | exact sr_unsup (by trivial) _

theorem sr_rem {t : TypeId} {x x' y y' : Value} (hx : VR F R x x') (hy : VR F R y y') : V P F R (binOp .rem t x y) (binOp .rem t x' y') := by
  cases hx with
  | int k n => cases hy with
    | int k' m => exact sr_intInt _ rfl _ _ _ _ _
    | _ => first | exact sr_stuck _ _ | exact sr_unsup (by trivial) _
  | pointer ha => cases hy with
    | int k' m => exact sr_bind _ (sr_behind ha) fun R2 h2 p p' hp => sr_addrMod hp.1 _ _
    | _ => first | exact sr_stuck _ _ | exact sr_unsup (by trivial) _
  | _ => cases hy <;> first | exact sr_stuck _ _ | exact sr_unsup (by trivial) _

theorem sr_binOp {op : BinOp} (hop : okBin op = true) {t : TypeId} (hb : baseT P t = true) (hG : P.globals.size = 0) {x x' y y' : Value} (hx : VR F R x x') (hy : VR F R y y') : V P F R (binOp op t x y) (binOp op t x' y') := by
  cases op with
  | add => exact sr_add hb hx hy
  | sub => exact sr_sub hG hx hy
  | mul => exact sr_mul hx hy
  | quo => exact sr_quo hx hy
  | rem => exact sr_rem hx hy
  | eql => exact sr_eql hb hG hx hy
  | neq => exact sr_neq hb hG hx hy
  | lss => exact sr_lss hG hx hy
  | leq => exact sr_leq hG hx hy
  | gtr => exact sr_gtr hG hx hy
  | geq => exact sr_geq hG hx hy
  | _ => cases hop
end
end Go.Proofs.Ytmfglflahlddbaa.Sm
namespace Go.Proofs.Ytmfglflahlddbaa.Sm
open Go Go.Conc
set_option linter.unusedVariables false
set_option linter.unusedSimpArgs false
section
variable {P : Program} {F : FuncId → Prop} {R : BR}

/-- An integer type itself. -/
def intB (P : Program) (t : TypeId) : Bool := match P.info? t with
  | some i => match i.desc with
    | .int _ => true
    | _ => false
  | none => false
theorem intB_base {t : TypeId} (h : intB P t = true) : baseT P t = true := by
  unfold intB at h
  unfold baseT
  cases hi : P.info? t with
  | none => rw [hi] at h; cases h
  | some i =>
    rw [hi] at h
    cases hd : i.desc <;> simp only [hd] at h ⊢ <;> first | (cases h; done) | rfl
theorem intB_desc {t : TypeId} (h : intB P t = true) : ∃ i d, P.info? t = some i ∧ i.desc = .int d ∧ P.underlying t = some (.int d) := by
  obtain ⟨i, hi, hu, hd⟩ := base_desc (intB_base h)
  unfold intB at h
  rw [hi] at h
  rcases hd with hd | ⟨d, hd⟩
  · simp only [hd] at h; cases h
  · exact ⟨i, d, hi, hd, by rw [hu, hd]⟩

/-- Nothing but equal numbers is told equal. -/
def EqN (x y : Value) : BR → Bool → Bool → Prop := fun _ a a' => a' = a ∧ (a = true → ∃ k n, x = .int k n ∧ y = .int k n)
theorem sr_equalN {t : TypeId} (hb : intB P t = true) (hG : P.globals.size = 0) {x x' y y' : Value} (hx : VR F R x x') (hy : VR F R y y') : SR P F (EqN x y) R (Op.equal t x y) (Op.equal t x' y') := by
  obtain ⟨i, k, hi, hd, hu⟩ := intB_desc hb
  unfold Op.equal Op.maxDepth
  show SR P F (EqN x y) R (Op.equalIn (9999 + 1) t x y) (Op.equalIn (9999 + 1) t x' y')
  unfold Op.equalIn
  refine sr_bind _ (sr_underlying t) fun R1 h1 d d' ⟨e, hu'⟩ => ?_
  subst e
  rw [hu] at hu'
  simp only [Option.some.injEq] at hu'
  subst hu'
  have hx1 := hx.mono h1
  have hy1 := hy.mono h1
  have ptr : ∀ {x y : Value} {a a' b b' : Addr}, AR R1 a a' → AR R1 b b' → SR P F (EqN x y) R1
      (do let (a, b) := ((← behindNumber a).1, (← behindNumber b).1)
          if a.block == b.block && a.block < (← program).globals.size then return (← byteOf a) == (← byteOf b)
          let .named "sync.copyChecker" _ := (← typeInfo t).desc | unsupported .addressObserved
          if a == b then pure true else unsupported .addressObserved)
      (do let (a, b) := ((← behindNumber a').1, (← behindNumber b').1)
          if a.block == b.block && a.block < (← program).globals.size then return (← byteOf a) == (← byteOf b)
          let .named "sync.copyChecker" _ := (← typeInfo t).desc | unsupported .addressObserved
          if a == b then pure true else unsupported .addressObserved) := by
    intro x y a a' b b' ha hb
    refine sr_bind _ (sr_behind ha) fun R2 h2 p p' hp => ?_
    refine sr_bind _ (sr_behind (hb.mono h2)) fun R3 h3 q q' hq => ?_
    dsimp only
    refine sr_program ?_
    simp only [hG, Nat.not_lt_zero, decide_false, Bool.and_false, Bool.false_eq_true, if_false]
    refine sr_bind _ (sr_typeInfo t) fun R4 h4 j j' ⟨e, hj⟩ => ?_
    subst e
    rw [hi] at hj
    simp only [Option.some.injEq] at hj
    subst hj
    rw [hd]
    exact sr_unsup (by trivial) _
  have no : ∀ {x y : Value}, EqN x y R1 false false := fun {x y} => ⟨rfl, fun h => by cases h⟩
  cases hx1 with
  | int k1 n => cases hy1 with
    | pointer ha => rcases n with (_ | m) | m <;> first | exact sr_pure no | exact sr_unsup (by trivial) _
    | int k2 m =>
      dsimp only
      by_cases hk : k1 = k2
      · simp only [hk, if_true]
        exact sr_pure ⟨rfl, fun h => ⟨k2, n, rfl, by rw [of_decide_eq_true (p := n = m) (by simpa using h)]⟩⟩
      · simp only [hk, if_false]; exact sr_stuck _ _
    | _ => first | exact sr_stuck _ _ | exact sr_unsup (by trivial) _
  | pointer ha => cases hy1 with
    | int k2 n => rcases n with (_ | m) | m <;> first | exact sr_pure no | exact sr_unsup (by trivial) _
    | pointer hb => exact ptr ha hb
    | _ => first | exact sr_stuck _ _ | exact sr_unsup (by trivial) _
  | _ => cases hy1 <;> first | exact sr_stuck _ _ | exact sr_unsup (by trivial) _
theorem equal_ints {t : TypeId} (hb : intB P t = true) (k : IntKind) (a b : Int) (w : World) : (Op.equal t (.int k a) (.int k b)).run P w = .ok (a == b) w := by
  obtain ⟨i, d, hi, hd, hu⟩ := intB_desc hb
  unfold Op.equal Op.maxDepth
  show (Op.equalIn (9999 + 1) t (.int k a) (.int k b)).run P w = _
  unfold Op.equalIn
  have e : (underlying t).run P w = .ok (.int d) w := by simp [underlying, hu]
  rw [Sem.run_bind, e, Result.andThen_ok]
  simp

/-! ### entries -/
def ER (F : FuncId → Prop) (R : BR) (es es' : List MapEntry) : Prop := es.length = es'.length ∧ ∀ (j : Nat) (e e' : MapEntry), es[j]? = some e → es'[j]? = some e' → VR F R e.key e'.key ∧ VR F R e.val e'.val ∧ e'.born = e.born
theorem ER.mono {R' : BR} (h : ∀ b c, R b c → R' b c) {es es' : List MapEntry} (x : ER F R es es') : ER F R' es es' := ⟨x.1, fun j e e' h1 h2 => let ⟨a, b, c⟩ := x.2 j e e' h1 h2; ⟨a.mono h, b.mono h, c⟩⟩
theorem ER.tail {e e' : MapEntry} {es es' : List MapEntry} (x : ER F R (e :: es) (e' :: es')) : ER F R es es' := ⟨by simpa using x.1, fun j a a' h1 h2 => x.2 (j + 1) a a' (by simpa using h1) (by simpa using h2)⟩
theorem ER.head {e e' : MapEntry} {es es' : List MapEntry} (x : ER F R (e :: es) (e' :: es')) : VR F R e.key e'.key ∧ VR F R e.val e'.val ∧ e'.born = e.born := x.2 0 e e' rfl rfl
theorem ER.of_or {es es' : Array MapEntry} {c c' : Nat} (h : OR F R (.map es c) (.map es' c')) : ER F R es.toList es'.toList ∧ c' = c := by
  cases h with
  | map hs h =>
    refine ⟨⟨by simpa using hs, fun j e e' h1 h2 => ?_⟩, rfl⟩
    have h1' : es[j]? = some e := by simpa using h1
    have h2' : es'[j]? = some e' := by simpa using h2
    obtain ⟨l1, rfl⟩ := Array.getElem?_eq_some_iff.1 h1'
    obtain ⟨l2, rfl⟩ := Array.getElem?_eq_some_iff.1 h2'
    exact h j l1 l2
theorem ER.or {es es' : Array MapEntry} (c : Nat) (h : ER F R es.toList es'.toList) : OR F R (.map es c) (.map es' c) :=
  .map (by simpa using h.1) fun i h1 h2 => h.2 i es[i] es'[i] (by simp [h1]) (by simp [h2])

/-- What a search finds. -/
def Fd (F : FuncId → Prop) (k : Value) (i0 : Nat) (es es' : List MapEntry) : BR → Option (Nat × Value) → Option (Nat × Value) → Prop := fun R r r' =>
  (r = none ∧ r' = none) ∨ ∃ j e e' kk n, es[j]? = some e ∧ es'[j]? = some e' ∧ r = some (i0 + j, e.val) ∧ r' = some (i0 + j, e'.val) ∧ k = .int kk n ∧ e.key = .int kk n
theorem Fd.up {k : Value} {i0 : Nat} {e e' : MapEntry} {es es' : List MapEntry} {r r' : Option (Nat × Value)} (h : Fd F k (i0 + 1) es es' R r r') : Fd F k i0 (e :: es) (e' :: es') R r r' := by
  rcases h with h | ⟨j, a, a', kk, n, h1, h2, h3, h4, h5, h6⟩
  · exact .inl h
  · exact .inr ⟨j + 1, a, a', kk, n, by simpa using h1, by simpa using h2, by rw [h3]; congr 2; omega, by rw [h4]; congr 2; omega, h5, h6⟩

theorem sr_findAsking {t : TypeId} (hb : intB P t = true) (hG : P.globals.size = 0) : ∀ (es es' : List MapEntry) (i : Nat) {R : BR} {k k' : Value}, ER F R es es' → VR F R k k' → SR P F (Fd F k i es es') R (Instr.findAsking t k es i) (Instr.findAsking t k' es' i) := by
  intro es
  induction es with
  | nil =>
    intro es' i R k k' h hk
    cases es' with
    | nil => exact sr_pure (.inl ⟨rfl, rfl⟩)
    | cons _ _ => exact absurd h.1 (by simp)
  | cons e es ih =>
    intro es' i R k k' h hk
    cases es' with
    | nil => exact absurd h.1 (by simp)
    | cons e' es' =>
      unfold Instr.findAsking
      refine sr_bind _ (sr_equalN hb hG hk h.head.1) fun R1 h1 a a' ⟨ea, hn⟩ => ?_
      subst ea
      cases a' with
      | true =>
        obtain ⟨kk, n, e1, e2⟩ := hn rfl
        exact sr_pure (.inr ⟨0, e, e', kk, n, rfl, rfl, rfl, rfl, e1, e2⟩)
      | false => exact SR.weaken (ih es' (i + 1) (h.tail.mono h1) (hk.mono h1)) fun _ _ _ x => x.up

theorem same_none {d : IntKind} {x x' y y' : Value} (hx : VR F R x x') (hy : VR F R y y') (h : Instr.sameNow (.int d) x y = none) : Instr.sameNow (.int d) x' y' = none ∨ x = .pointer none ∨ y = .pointer none := by
  cases hx with
  | bot _ => exact .inr (.inl rfl)
  | int k n => cases hy with
    | bot _ => exact .inr (.inr rfl)
    | int k' m => exact .inl h
    | _ => exact .inl rfl
  | _ => exact .inl rfl
theorem same_some {d : IntKind} {x x' y y' : Value} {b : Bool} (hx : VR F R x x') (hy : VR F R y y') (h : Instr.sameNow (.int d) x y = some b) : ∃ k n m, x = .int k n ∧ y = .int k m ∧ x' = x ∧ y' = y ∧ b = (n == m) := by
  cases hx with
  | int k n => cases hy with
    | int k' m =>
      simp only [Instr.sameNow] at h
      split at h
      · rename_i hk
        subst hk
        simp only [Option.some.injEq] at h
        exact ⟨k, n, m, rfl, rfl, rfl, rfl, h.symm⟩
      · cases h
    | _ => simp [Instr.sameNow] at h
  | _ => simp [Instr.sameNow] at h

theorem findNow_some {d : IntKind} : ∀ (es es' : List MapEntry) (i : Nat) {k k' : Value}, ER F R es es' → VR F R k k' → ∀ r, Instr.findNow (.int d) k es i = some r → ∃ r', Instr.findNow (.int d) k' es' i = some r' ∧ Fd F k i es es' R r r' := by
  intro es
  induction es with
  | nil =>
    intro es' i k k' h hk r hr
    cases es' with
    | nil => simp only [Instr.findNow, Option.some.injEq] at hr; subst hr; exact ⟨none, rfl, .inl ⟨rfl, rfl⟩⟩
    | cons _ _ => exact absurd h.1 (by simp)
  | cons e es ih =>
    intro es' i k k' h hk r hr
    cases es' with
    | nil => exact absurd h.1 (by simp)
    | cons e' es' =>
      unfold Instr.findNow at hr ⊢
      cases hs : Instr.sameNow (.int d) k e.key with
      | none => rw [hs] at hr; cases hr
      | some b =>
        obtain ⟨kk, n, m, e1, e2, e3, e4, e5⟩ := same_some hk h.head.1 hs
        rw [e3, e4, hs]
        rw [hs] at hr
        cases b with
        | true =>
          simp only [Option.some.injEq] at hr
          subst hr
          have : n = m := by simpa using e5.symm
          subst this
          exact ⟨_, rfl, .inr ⟨0, e, e', kk, n, rfl, rfl, rfl, rfl, e1, e2⟩⟩
        | false =>
          obtain ⟨r', g1, g2⟩ := ih es' (i + 1) h.tail hk r hr
          rw [e3] at g1
          exact ⟨r', g1, g2.up⟩
theorem findNow_none {d : IntKind} {t : TypeId} (hb : intB P t = true) : ∀ (es es' : List MapEntry) (i : Nat) {k k' : Value}, ER F R es es' → VR F R k k' → Instr.findNow (.int d) k es i = none → Instr.findNow (.int d) k' es' i = none ∨ Dead P (Instr.findAsking t k es i) := by
  intro es
  induction es with
  | nil => intro es' i k k' h hk hr; simp [Instr.findNow] at hr
  | cons e es ih =>
    intro es' i k k' h hk hr
    cases es' with
    | nil => exact absurd h.1 (by simp)
    | cons e' es' =>
      unfold Instr.findNow at hr ⊢
      cases hs : Instr.sameNow (.int d) k e.key with
      | none =>
        rcases same_none hk h.head.1 hs with h1 | h1 | h1
        · left; rw [h1]
        · right
          unfold Instr.findAsking
          rw [h1]
          exact Dead.bind (dead_eqL (intB_base hb) _) _
        · right
          unfold Instr.findAsking
          rw [h1]
          exact Dead.bind (dead_eqR (intB_base hb) _) _
      | some b =>
        obtain ⟨kk, n, m, e1, e2, e3, e4, e5⟩ := same_some hk h.head.1 hs
        rw [e3, e4, hs]
        rw [hs] at hr
        cases b with
        | true => cases hr
        | false =>
          rcases ih es' (i + 1) h.tail hk hr with g | g
          · left; rw [e3] at g; exact g
          · right
            intro w
            unfold Instr.findAsking
            rw [Sem.run_bind, e1, e2, equal_ints hb kk n m w, ← e5, Result.andThen_ok, ← e1]
            exact g w
theorem sr_findKey {t : TypeId} (hb : intB P t = true) (hG : P.globals.size = 0) {es es' : List MapEntry} {k k' : Value} (h : ER F R es es') (hk : VR F R k k') : SR P F (Fd F k 0 es es') R (Instr.findKey t k es) (Instr.findKey t k' es') := by
  obtain ⟨i, d, hi, hd, hu⟩ := intB_desc hb
  unfold Instr.findKey
  refine sr_bind _ (sr_underlying t) fun R1 h1 u u' ⟨e, hu'⟩ => ?_
  subst e
  rw [hu] at hu'
  simp only [Option.some.injEq] at hu'
  subst hu'
  cases hf : Instr.findNow (.int d) k es 0 with
  | none =>
    rcases findNow_none hb es es' 0 h hk hf with g | g
    · rw [g]
      exact sr_findAsking hb hG es es' 0 (h.mono h1) (hk.mono h1)
    · exact .dead g
  | some r =>
    obtain ⟨r', g1, g2⟩ := findNow_some es es' 0 (h.mono h1) (hk.mono h1) r hf
    rw [g1]
    exact sr_pure g2
theorem sr_checkKey {t : TypeId} (hb : intB P t = true) (e e' : Bool) (k k' : Value) : SR P F EqR R (Instr.checkKey e 10000 t k) (Instr.checkKey e' 10000 t k') := by
  obtain ⟨i, d, hi, hd, hu⟩ := intB_desc hb
  show SR P F EqR R (Instr.checkKey e (9999 + 1) t k) (Instr.checkKey e' (9999 + 1) t k')
  unfold Instr.checkKey
  refine sr_bind _ (sr_underlying t) fun R1 h1 u u' ⟨e, hu'⟩ => ?_
  subst e
  rw [hu] at hu'
  simp only [Option.some.injEq] at hu'
  subst hu'
  exact sr_pure rfl

/-- Maps from numbers. -/
def mapOk (P : Program) (t : TypeId) : Bool := match P.underlying t with
  | some (.map k e) => intB P k && zeroOk P e
  | _ => true

theorem sr_lookup (t : TypeId) (ht : mapOk P t = true) (hG : P.globals.size = 0) (ok : Bool) {m m' k k' : Value} (hm : VR F R m m') (hk : VR F R k k') : V P F R (Instr.lookup t m k ok) (Instr.lookup t m' k' ok) := by
  unfold Instr.lookup
  refine sr_bind _ (sr_underlying t) fun R1 h1 u u' ⟨e, hu⟩ => ?_
  subst e
  cases u' with
  | map key el =>
    unfold mapOk at ht
    rw [hu] at ht
    simp only [Bool.and_eq_true] at ht
    obtain ⟨hb, hz⟩ := ht
    dsimp only
    have tail : ∀ (R2 : BR) (es es' : Array MapEntry), ER F R2 es.toList es'.toList → (∀ b c, R b c → R2 b c) →
        V P F R2 (do Instr.checkKey es.isEmpty 10000 key k
                     let (v, ok') ← match ← Instr.findKey key k es.toList with
                       | some (_, v) => pure (v, true)
                       | none => pure (← zeroValue el, false)
                     pure (if ok then .tuple #[v, .bool ok'] else v))
          (do Instr.checkKey es'.isEmpty 10000 key k'
              let (v, ok') ← match ← Instr.findKey key k' es'.toList with
                | some (_, v) => pure (v, true)
                | none => pure (← zeroValue el, false)
              pure (if ok then .tuple #[v, .bool ok'] else v)) := by
      intro R2 es es' hes h2
      refine sr_bind _ (sr_checkKey hb _ _ _ _) fun R3 h3 _ _ _ => ?_
      refine sr_bind _ (sr_findKey hb hG (hes.mono h3) ((hk.mono h2).mono h3)) fun R4 h4 r r' hr => ?_
      have fin : ∀ (R5 : BR) (v v' : Value) (b : Bool), VR F R5 v v' → V P F R5 (pure (if ok then .tuple #[v, .bool b] else v)) (pure (if ok then .tuple #[v', .bool b] else v')) := by
        intro R5 v v' b hv
        cases ok
        · exact sr_pure hv
        · exact sr_pure (VR.tupleOf ((AVR.one hv).push (.bool b)))
      rcases hr with ⟨rfl, rfl⟩ | ⟨j, a, a', kk, n, g1, g2, rfl, rfl, _, _⟩
      · refine sr_bind _ (sr_zeroValue el hz) fun R5 h5 z z' e => ?_
        exact fin _ z z' false e.2
      · exact fin _ _ _ _ (((hes.2 j a a' g1 g2).2.1.mono h3).mono h4)
    have hm1 := hm.mono h1
    cases hm1 with
    | mapNone => exact tail R1 #[] #[] ⟨rfl, fun j e e' h => by simp at h⟩ h1
    | map hr =>
      refine SR.getObj hr fun o o' ho hn => ?_
      cases ho with
      | @map es es' clock hs h => exact tail R1 es es' (ER.of_or (.map (clock := clock) hs h)).1 h1
      | cells => exact absurd trivial hn
      | _ => exact sr_stuck _ _
    | _ => exact sr_stuckb _ _ _
  | _ => exact sr_stuck _ _

theorem stays_int (kk : IntKind) (n : Int) : (Instr.keyThatStays (.int kk n) (.int kk n)) = pure (.int kk n) := by
  unfold Instr.keyThatStays
  rw [if_pos]
  show Instr.sameBits (9999 + 1) _ _ = true
  unfold Instr.sameBits
  simp
theorem ER.modify {es es' : Array MapEntry} {i : Nat} {f f' : MapEntry → MapEntry} (h : ER F R es.toList es'.toList) (hf : ∀ e e', VR F R e.key e'.key → VR F R e.val e'.val → e'.born = e.born → VR F R (f e).key (f' e').key ∧ VR F R (f e).val (f' e').val ∧ (f' e').born = (f e).born) : ER F R (es.modify i f).toList (es'.modify i f').toList := by
  refine ⟨by simpa using h.1, fun j e e' h1 h2 => ?_⟩
  simp only [Array.getElem?_toList, Array.getElem?_modify] at h1 h2
  by_cases e0 : i = j
  · subst e0
    simp only [if_true, Option.map_eq_some_iff] at h1 h2
    obtain ⟨a, ha, rfl⟩ := h1
    obtain ⟨a', ha', rfl⟩ := h2
    obtain ⟨x, y, z⟩ := h.2 i a a' (by simpa using ha) (by simpa using ha')
    exact hf a a' x y z
  · simp only [e0, if_false] at h1 h2
    exact h.2 j e e' (by simpa using h1) (by simpa using h2)
theorem ER.push {es es' : Array MapEntry} {e e' : MapEntry} (h : ER F R es.toList es'.toList) (hk : VR F R e.key e'.key) (hv : VR F R e.val e'.val) (hb : e'.born = e.born) : ER F R (es.push e).toList (es'.push e').toList := by
  refine ⟨by simpa using h.1, fun j a a' h1 h2 => ?_⟩
  have hl : es.size = es'.size := by simpa using h.1
  simp only [Array.getElem?_toList, Array.getElem?_push] at h1 h2
  rw [← hl] at h2
  split at h1
  · rename_i e0
    rw [if_pos e0] at h2
    cases h1; cases h2
    exact ⟨hk, hv, hb⟩
  · rename_i e0
    rw [if_neg e0] at h2
    exact h.2 j a a' (by simpa using h1) (by simpa using h2)

theorem sr_mapEntry (t : TypeId) (ht : mapOk P t = true) (hG : P.globals.size = 0) {m m' k k' : Value} (hm : VR F R m m') (hk : VR F R k k') : V P F R (Instr.mapEntry t m k) (Instr.mapEntry t m' k') := by
  unfold Instr.mapEntry
  refine sr_bind _ (sr_underlying t) fun R1 h1 u u' ⟨e, hu⟩ => ?_
  subst e
  cases u' with
  | map key el =>
    unfold mapOk at ht
    rw [hu] at ht
    simp only [Bool.and_eq_true] at ht
    obtain ⟨hb, hz⟩ := ht
    dsimp only
    have hm1 := hm.mono h1
    cases hm1 with
    | mapNone => exact .dead (dead_plain _)
    | map hr =>
      refine SR.getObj hr fun o o' ho hn => ?_
      cases ho with
      | cells => exact absurd trivial hn
      | chan => exact sr_stuck _ _
      | number => exact sr_stuck _ _
      | @map es es' clock hs h =>
        have hes := (ER.of_or (R := R1) (F := F) (.map (clock := clock) hs h)).1
        simp only [Sem.bind]
        refine sr_bind _ (sr_checkKey hb _ _ _ _) fun R3 h3 _ _ _ => ?_
        refine sr_bind _ (sr_findKey hb hG (hes.mono h3) ((hk.mono h1).mono h3)) fun R4 h4 r r' hrr => ?_
        have hes4 := (hes.mono h3).mono h4
        have hk4 := ((hk.mono h1).mono h3).mono h4
        have hr4 := h4 _ _ (h3 _ _ hr)
        rcases hrr with ⟨rfl, rfl⟩ | ⟨j, a, a', kk, n, g1, g2, rfl, rfl, rfl, g6⟩
        · refine sr_bind _ (sr_zeroValue el hz) fun R5 h5 z z' e => ?_
          refine SR.setObj (h5 _ _ hr4) (ER.or _ ((hes4.mono h5).push (hk4.mono h5) e.2 rfl)) trivial ?_
          exact sr_pure (VR.tupleOf ((AVR.one e.2).push (.int _ _)))
        · have hk' : k' = .int kk n := by cases hk4; rfl
          subst hk'
          have hrel := hes4.2 j a a' g1 g2
          have ha' : a'.key = .int kk n := by
            have := hrel.1
            rw [g6] at this
            generalize a'.key = x at this
            cases this; rfl
          have g1' : es[j]? = some a := by simpa using g1
          have g2' : es'[j]? = some a' := by simpa using g2
          simp only [Nat.zero_add, g1', g2', Option.map_some, Option.getD_some, g6, ha']
          rw [stays_int]
          simp only [pure, Sem.bind, bind]
          refine SR.setObj hr4 (ER.or _ (hes4.modify fun e e' x y z => ⟨.int _ _, y, z⟩)) trivial ?_
          rw [hrel.2.2]
          exact sr_pure (VR.tupleOf ((AVR.one hrel.2.1).push (.int _ _)))
    | _ => exact sr_stuck _ _
  | _ => exact sr_stuck _ _

theorem ER.find {es es' : Array MapEntry} (h : ER F R es.toList es'.toList) (born : Int) : es'.findIdx? (fun e => (e.born : Int) == born) = es.findIdx? (fun e => (e.born : Int) == born) := by
  have hl : es'.map (fun e => ((e.born : Int) == born)) = es.map (fun e => ((e.born : Int) == born)) := by
    apply Array.ext'
    simp only [Array.toList_map]
    refine List.ext_getElem (by simpa using h.1.symm) fun i h1 h2 => ?_
    simp only [List.getElem_map]
    have l1 : i < es.toList.length := by simpa using h2
    have l2 : i < es'.toList.length := by simpa using h1
    have := (h.2 i es.toList[i] es'.toList[i] (List.getElem?_eq_getElem l1) (List.getElem?_eq_getElem l2)).2.2
    rw [this]
  have e1 : ∀ xs : Array MapEntry, xs.findIdx? (fun e => (e.born : Int) == born) = (xs.map (fun e => ((e.born : Int) == born))).findIdx? id := by
    intro xs
    rw [Array.findIdx?_map]; rfl
  rw [e1, e1, hl]

theorem sr_entryStore (t : TypeId) {m m' s s' x x' : Value} (hm : VR F R m m') (hs : VR F R s s') (hx : VR F R x x') : SR P F EqR R (Instr.entryStore t m s x) (Instr.entryStore t m' s' x') := by
  unfold Instr.entryStore
  cases hm with
  | map hr =>
    refine SR.getObj hr fun o o' ho hn => ?_
    cases ho with
    | cells => exact absurd trivial hn
    | chan => exact sr_stuck _ _
    | number => exact sr_stuck _ _
    | @map es es' clock hs' h =>
      have hes := (ER.of_or (R := R) (F := F) (.map (clock := clock) hs' h)).1
      simp only [Sem.bind]
      refine sr_bind _ (sr_asInt hs) fun R3 h3 n n' e => ?_
      cases e
      rw [hes.find]
      cases hf : es.findIdx? (fun e => (e.born : Int) == n) with
      | none => exact sr_unsup (by trivial) _
      | some i =>
        refine SR.setObj (h3 _ _ hr) (ER.or _ ((hes.mono h3).modify fun e e' a b c => ⟨a, hx.mono h3, c⟩)) trivial ?_
        exact sr_pure rfl
  | _ => exact sr_stuck _ _

/-! ### values built of parts -/
theorem sr_mapP {α : Type} (f g : α → Sem (Nat × Nat)) (hf : ∀ (x : α) (R : BR), SR P F EqR R (f x) (g x)) : ∀ (xs : List α) {R : BR}, SR P F EqR R (xs.mapM f) (xs.mapM g) := by
  intro xs
  induction xs with
  | nil => intro R; exact sr_pure rfl
  | cons x xs ih =>
    intro R
    rw [List.mapM_cons, List.mapM_cons]
    refine sr_bind _ (hf x R) fun R1 h1 a a' e => ?_
    cases e
    refine sr_bind _ ih fun R2 h2 b b' e => ?_
    cases e
    exact sr_pure rfl
theorem sr_build (t : TypeId) (hz : zeroOk P t = true) {ps ps' : Array (Nat × Value)} (hp : PVR F R ps.toList ps'.toList) : V P F R (Instr.build t ps) (Instr.build t ps') := by
  unfold Instr.build
  refine sr_bind _ (sr_zeroValue t hz) fun R1 h1 z z' hzz => ?_
  refine sr_bind _ (sr_underlying t) fun R2 h2 u u' ⟨e, hu⟩ => ?_
  subst e
  have hc := hzz.2.cells.mono h2
  have hp2 := (hp.mono h1).mono h2
  cases u' with
  | struct fs =>
    refine sr_bind EqR ?_ fun R3 h3 pl pl' e => ?_
    · simp only [Array.mapM_eq_mapM_toList]
      refine sr_bind EqR (sr_mapP _ _ (fun x R => ?_) fs.toList) fun R4 h4 a a' e => by cases e; exact sr_pure rfl
      refine sr_bind _ (sr_sizeOf _) fun R5 h5 a a' e => ?_
      obtain ⟨rfl, _⟩ := e
      exact sr_pure rfl
    · cases e
      rcases fill_rel (fun i => pl[i]?) ps.toList ps'.toList _ _ (hp2.mono h3) (hc.mono h3) with ⟨e1, e2⟩ | ⟨d, d', e1, e2, hd⟩
      · simp only [e1, e2]; exact sr_stuck _ _
      · simp only [e1, e2]; exact sr_pure (.aggOf hd)
  | array len el =>
    refine sr_bind _ (sr_sizeOf el) fun R3 h3 s s' ⟨e, _⟩ => ?_
    subst e
    rcases fill_rel (fun i => some (i * s', s')) ps.toList ps'.toList _ _ (hp2.mono h3) (hc.mono h3) with ⟨e1, e2⟩ | ⟨d, d', e1, e2, hd⟩
    · simp only [e1, e2]; exact sr_stuck _ _
    · simp only [e1, e2]; exact sr_pure (.aggOf hd)
  | _ => exact sr_stuck _ _
end
end Go.Proofs.Ytmfglflahlddbaa.Sm
namespace Go.Proofs.Ytmfglflahlddbaa.Sm
open Go Go.Conc
set_option linter.unusedVariables false
set_option linter.unusedSimpArgs false
section
variable {P : Program} {F : FuncId → Prop} {R : BR}

theorem sr_unary (op : UnOp) {x x' : Value} (hx : VR F R x x') : V P F R (Op.unary op x) (Op.unary op x') := by
  cases op <;> cases hx <;> first | exact sr_pure (.int _ _) | exact sr_pure (.bool _) | exact sr_stuck _ _ | exact sr_unsup (by trivial) _

/-- An integer type. -/
def intT (P : Program) (t : TypeId) : Bool := match P.underlying t with
  | some (.int _) => true
  | _ => false
theorem sr_convert (s d : TypeId) (hs : intT P s = true) (hd : intT P d = true) {x x' : Value} (hx : VR F R x x') : V P F R (convert s d x) (convert s d x') := by
  unfold convert
  refine sr_bind _ (sr_underlying s) fun R1 h1 u u' ⟨e, hu⟩ => ?_
  subst e
  refine sr_bind _ (sr_underlying d) fun R2 h2 v v' ⟨e, hv⟩ => ?_
  subst e
  unfold intT at hs hd
  rw [hu] at hs
  rw [hv] at hd
  cases u' <;> simp only at hs <;> first | (cases hs; done) | skip
  cases v' <;> simp only at hd <;> first | (cases hd; done) | skip
  have hx2 := (hx.mono h1).mono h2
  cases hx2 <;> first | exact sr_pure (.int _ _) | exact sr_stuck _ _ | exact sr_unsup (by trivial) _

theorem eqGuardType_base {t : TypeId} (hb : baseT P t = true) : P.eqGuardType P.depth t = false := by
  obtain ⟨i, hi, hu, hd⟩ := base_desc hb
  unfold Program.depth
  show P.eqGuardType ((2 * (P.types.size + Made.depth) + 1) + 1) t = false
  unfold Program.eqGuardType
  rw [hu]
  rcases hd with hd | ⟨k, hd⟩ <;> rw [hd]

def isEq : BinOp → Bool
  | .eql | .neq => true
  | _ => false
theorem guard_not {op : BinOp} (h : isEq op = false) (t : TypeId) (xo yo : Operand) (a b : Value) : eqGuard op t xo yo a b = pure () := by
  unfold eqGuard
  cases op <;> first | rfl | cases h
theorem guard_l (op : BinOp) (t : TypeId) (xo yo : Operand) (a b : Value) (h1 : ∀ c, a ≠ .agg c) (h2 : a ≠ .nilIface) : eqGuard op t xo yo a b = pure () := by
  unfold eqGuard
  cases a <;> first | exact absurd rfl (h1 _) | exact absurd rfl h2 | (cases op <;> rfl)
theorem guard_r (op : BinOp) (t : TypeId) (xo yo : Operand) (a b : Value) (h1 : ∀ c, b ≠ .agg c) (h2 : b ≠ .nilIface) : eqGuard op t xo yo a b = pure () := by
  unfold eqGuard
  cases b <;> first | exact absurd rfl (h1 _) | exact absurd rfl h2 | (cases a <;> cases op <;> rfl)
theorem sr_guard {op : BinOp} {t : TypeId} (hb : baseT P t = true) (xo yo : Operand) (a b c d : Array Value) : SR P F EqR R (eqGuard op t xo yo (.agg a) (.agg b)) (eqGuard op t xo yo (.agg c) (.agg d)) := by
  cases he : isEq op with
  | false => rw [guard_not he, guard_not he]; exact sr_pure rfl
  | true =>
    have e := eqGuardType_base (P := P) hb
    have hop3 : op = .eql ∨ op = .neq := by cases op <;> first | (cases he; done) | exact .inl rfl | exact .inr rfl
    unfold eqGuard
    rcases hop3 with rfl | rfl
    · simp only [Bool.not_true, Bool.false_eq_true, if_false]
      refine sr_program (sr_program ?_)
      rw [e]
      exact sr_pure rfl
    · simp only [Bool.not_true, Bool.false_eq_true, if_false]
      refine sr_program (sr_program ?_)
      rw [e]
      exact sr_pure rfl
theorem dead_opL {op : BinOp} (he : isEq op = true) {t : TypeId} (hb : baseT P t = true) (y : Value) : Dead P (binOp op t (.pointer none) y) := by
  have hop3 : op = .eql ∨ op = .neq := by cases op <;> first | (cases he; done) | exact .inl rfl | exact .inr rfl
  rcases hop3 with rfl | rfl <;> cases y <;> exact Dead.bind (dead_eqL hb _) _
theorem dead_opR {op : BinOp} (he : isEq op = true) {t : TypeId} (hb : baseT P t = true) (x : Value) : Dead P (binOp op t x (.pointer none)) := by
  have hop3 : op = .eql ∨ op = .neq := by cases op <;> first | (cases he; done) | exact .inl rfl | exact .inr rfl
  rcases hop3 with rfl | rfl <;> cases x <;> exact Dead.bind (dead_eqR hb _) _

attribute [local irreducible] binOp Op.equal
theorem sr_guarded {op : BinOp} (hop : okBin op = true) {t : TypeId} (hb : baseT P t = true) (hG : P.globals.size = 0) (xo yo : Operand) {x x' y y' : Value} (hx : VR F R x x') (hy : VR F R y y') :
    V P F R (do eqGuard op t xo yo x y; binOp op t x y) (do eqGuard op t xo yo x' y'; binOp op t x' y') := by
  have main := @sr_binOp P F R op hop t hb hG x x' y y' hx hy
  cases he : isEq op with
  | false => rw [guard_not he, guard_not he]; exact main
  | true =>
    cases hx with
    | bot _ => rw [guard_l _ _ _ _ _ _ (by simp) (by simp)]; exact .dead (dead_opL he hb _)
    | @agg c c' hs hc =>
      cases hy with
      | bot _ => rw [guard_r _ _ _ _ (.agg c) _ (by simp) (by simp)]; exact .dead (dead_opR he hb _)
      | @agg d d' hs2 hd =>
        refine sr_bind _ (sr_guard hb xo yo c d c' d') fun R1 h1 _ _ _ => ?_
        exact sr_binOp hop hb hG ((VR.agg hs hc).mono h1) ((VR.agg hs2 hd).mono h1)
      | _ => rw [guard_r _ _ _ _ _ _ (by simp) (by simp), guard_r _ _ _ _ _ _ (by simp) (by simp)]; exact main
    | _ => rw [guard_l _ _ _ _ _ _ (by simp) (by simp), guard_l _ _ _ _ _ _ (by simp) (by simp)]; exact main

/-! ### calls -/
def okX (Fs : FuncId → Bool) : Operand → Bool
  | .tmp _ => true
  | .const v => plainB 64 v
  | .global _ => false
  | .func f => Fs f

def notIntT (P : Program) (t : TypeId) : Bool := match P.underlying t with
  | some (.int _) => false
  | _ => true
def okBuiltin (P : Program) : Builtin → Array TypeId → Bool
  | .append, ts => (match ts[0]? with | some t => elemOk P t | none => true) && (match ts[1]? with | some t => notIntT P t | none => true)
  | .len, _ | .min, _ | .max, _ => true
  | _, _ => false
def okCall (P : Program) (Fs : FuncId → Bool) (c : Call) : Bool :=
  c.args.all (okX Fs) && match c.callee with
    | .value f => okX Fs f
    | .invoke _ _ => false
    | .builtin b => okBuiltin P b c.argTypes

/-- Functions with a body of their own. -/
def HasBody (P : Program) (F : FuncId → Prop) : Prop := ∀ f, F f → ∃ fn, P.funcs[f]? = some fn ∧ (fn.name == "runtime.NumGoroutine") = false ∧ fn.body.isNone = false

theorem sr_builtin (b : Builtin) (ts : Array TypeId) (ty : TypeId) (cs : Array Bool) (hok : okBuiltin P b ts = true) {as as' : Array Value} (h : AVR F R as as') :
    SR P F (NR F) R (builtin b ts ty cs as) (builtin b ts ty cs as') := by
  have val : ∀ {s s' : Sem Value}, V P F R s s' → SR P F (NR F) R (do pure (.value (← s))) (do pure (.value (← s'))) := fun h => sr_bind _ h fun R1 h1 v v' hv => sr_pure (.value hv)
  unfold builtin
  cases b <;> first | (cases hok; done) | skip
  · simp only [okBuiltin, Bool.and_eq_true] at hok
    refine val (sr_append ts ty (fun t ht => ?_) (fun t ht => ?_) h)
    · have := hok.1; rw [ht] at this; exact this
    · have := hok.2; rw [ht] at this; unfold notIntT at this; exact this
  · exact val (sr_len ts ty h)
  · exact val (sr_max ts ty h)
  · exact val (sr_min ts ty h)

theorem sr_callFunc (hB : HasBody P F) {f : FuncId} (hf : F f) {as as' : Array Value} (h : AVR F R as as') : SR P F (NR F) R (callFunc f as) (callFunc f as') := by
  unfold callFunc
  refine sr_program ?_
  obtain ⟨fn, h1, h2, h3⟩ := hB f hf
  rw [h1]
  simp only [h2, h3, Bool.false_eq_true, if_false]
  exact sr_pure (.enter hf h)

def RhoR (F : FuncId → Prop) (R : BR) (Fs : FuncId → Bool) (ρ ρ' : Operand → Value) : Prop := ∀ x, okX Fs x = true → VR F R (ρ x) (ρ' x)

theorem sr_call (hB : HasBody P F) {Fs : FuncId → Bool} {ρ ρ' : Operand → Value} (hρ : RhoR F R Fs ρ ρ') (c : Call) (ty : TypeId) (hc : okCall P Fs c = true) :
    SR P F (NR F) R (do let d ← resolve ρ c ty; invoke d.target d.args) (do let d ← resolve ρ' c ty; invoke d.target d.args) := by
  simp only [okCall, Bool.and_eq_true] at hc
  obtain ⟨ha, hc⟩ := hc
  have hargs : AVR F R (c.args.map ρ) (c.args.map ρ') := AVR.map _ fun x hx => hρ x (by
    obtain ⟨i, hi, rfl⟩ := Array.mem_iff_getElem.1 hx
    exact Array.all_eq_true.1 ha i hi)
  unfold resolve
  cases hcal : c.callee with
  | builtin b =>
    rw [hcal] at hc
    exact sr_builtin b c.argTypes ty _ hc hargs
  | invoke r n => rw [hcal] at hc; cases hc
  | value f =>
    rw [hcal] at hc
    have hf := hρ f hc
    dsimp only
    generalize ρ f = v at hf
    generalize ρ' f = v' at hf
    cases hf with
    | @func g hg p p' cc cc' hp hcs ip ic =>
      exact sr_callFunc hB hg ((AVR.append ⟨hp, ip⟩ hargs).append ⟨hcs, ic⟩)
    | _ => exact sr_stuckb _ _ _

/-! ### the operations -/
def isZero : Operand → Bool
  | .const (.int _ n) => n == 0
  | _ => false
theorem isZero_spec {x : Operand} (h : isZero x = true) : ∃ k, x = .const (.int k 0) := by
  unfold isZero at h
  split at h
  · exact ⟨_, by rw [eq_of_beq h]⟩
  · cases h
def okOp (P : Program) (Fs : FuncId → Bool) : Op → Bool
  | .move x | .assign x | .box _ x | .load _ x | .nilCheck x | .unOp _ _ x | .extract x _ => okX Fs x
  | .makeChan _ x => isZero x
  | .pick c a b => okX Fs c && okX Fs a && okX Fs b
  | .alloc e => zeroOk P e
  | .buildSlice t _ ps => elemOk P t && ps.all (fun p => okX Fs p.2)
  | .store _ a v => okX Fs a && okX Fs v
  | .binOp op t x y _ => okBin op && baseT P t && okX Fs x && okX Fs y
  | .convert s d x => intT P s && intT P d && okX Fs x
  | .makeFunc (.func f) first captured => Fs f && first.all (okX Fs) && captured.all (okX Fs)
  | .makeMap _ none => true
  | .lookup t m k _ => mapOk P t && okX Fs m && okX Fs k
  | .mapEntry t m k => mapOk P t && okX Fs m && okX Fs k
  | .entryStore _ m s x => okX Fs m && okX Fs s && okX Fs x
  | .build t ps => zeroOk P t && ps.all (fun p => okX Fs p.2)
  | .makeSlice t l c => elemOk P t && okX Fs l && okX Fs c
  | .fieldAddr s x f => fieldOk P s f && okX Fs x
  | .indexAddr _ x i => okX Fs x && okX Fs i
  | .call c => okCall P Fs c
  | _ => false

theorem PVR.of {l : List (Nat × Operand)} {Fs : FuncId → Bool} {ρ ρ' : Operand → Value} (hρ : RhoR F R Fs ρ ρ') : l.all (fun p => okX Fs p.2) = true → PVR F R (l.map fun (i, x) => (i, ρ x)) (l.map fun (i, x) => (i, ρ' x)) := by
  induction l with
  | nil => intro _; trivial
  | cons p l ih =>
    intro h
    simp only [List.all_cons, Bool.and_eq_true] at h
    exact ⟨rfl, hρ _ h.1, ih h.2⟩

theorem avr_map {Fs : FuncId → Bool} {ρ ρ' : Operand → Value} (hρ : RhoR F R Fs ρ ρ') {xs : Array Operand} (h : xs.all (okX Fs) = true) : AVR F R (xs.map ρ) (xs.map ρ') := AVR.map _ fun x hx => hρ x (by
    obtain ⟨i, hi, rfl⟩ := Array.mem_iff_getElem.1 hx
    exact Array.all_eq_true.1 h i hi)

theorem sr_execOp {Fs : FuncId → Bool} (hB : HasBody P (fun f => Fs f = true)) (hG : P.globals.size = 0) {ρ ρ' : Operand → Value} (hρ : RhoR (fun f => Fs f = true) R Fs ρ ρ') (hρ' : ∀ x v, x = .const v → ρ x = v ∧ ρ' x = v) (o : Oper) (hok : okOp P Fs o.op = true) :
    SR P (fun f => Fs f = true) (NR fun f => Fs f = true) R (execOp ρ o) (execOp ρ' o) := by
  have val : ∀ {s s' : Sem Value}, V P (fun f => Fs f = true) R s s' → SR P (fun f => Fs f = true) (NR fun f => Fs f = true) R (do pure (.value (← s))) (do pure (.value (← s'))) := fun h => sr_bind _ h fun R1 h1 v v' hv => sr_pure (.value hv)
  have unt : ∀ {s s' : Sem Unit}, SR P (fun f => Fs f = true) EqR R s s' → SR P (fun f => Fs f = true) (NR fun f => Fs f = true) R (do s; pure .skip) (do s'; pure .skip) := fun h => sr_bind _ h fun R1 h1 v v' hv => sr_pure .skip
  unfold execOp
  cases ho : o.op <;> rw [ho] at hok <;> simp only [okOp, Bool.and_eq_true] at hok <;> try (cases hok; done)
  case move x => exact sr_pure (.value (hρ x hok))
  case assign x => exact sr_pure (.value (hρ x hok))
  case pick c a b =>
    refine sr_bind _ (sr_asBool (hρ c hok.1.1)) fun R1 h1 t t' e => ?_
    cases e
    cases t
    · exact sr_pure (.value ((hρ b hok.2).mono h1))
    · exact sr_pure (.value ((hρ a hok.1.2).mono h1))
  case alloc e => exact val (sr_alloc e hok)
  case box e x => exact val (sr_box e (hρ x hok))
  case buildSlice t n ps =>
    refine val (sr_buildSlice t n hok.1 ?_)
    simp only [Array.toList_map]
    exact PVR.of hρ (by simpa [Array.all_toList] using hok.2)
  case build t ps =>
    refine val (sr_build t hok.1 ?_)
    simp only [Array.toList_map]
    exact PVR.of hρ (by simpa [Array.all_toList] using hok.2)
  case lookup t m k b => exact val (sr_lookup t hok.1.1 hG b (hρ m hok.1.2) (hρ k hok.2))
  case mapEntry t m k => exact val (sr_mapEntry t hok.1.1 hG (hρ m hok.1.2) (hρ k hok.2))
  case entryStore t m s x => exact unt (sr_entryStore t (hρ m hok.1.1) (hρ s hok.1.2) (hρ x hok.2))
  case load t a => exact val (sr_loadAt t (hρ a hok))
  case store t a x => exact unt (sr_storeAt t (hρ a hok.1) (hρ x hok.2))
  case nilCheck x =>
    have hx := hρ x hok
    dsimp only
    generalize ρ x = v at hx
    generalize ρ' x = v' at hx
    cases hx <;> first
      | exact .dead dead_nil
      | exact sr_pure (.value (by first | exact .bool _ | exact .int _ _ | exact .sliceNone _ _ | exact .sliceZero _ | exact .mapNone | exact .chanNone | exact .pointer (by assumption) | exact .slice (by assumption) _ _ | exact .map (by assumption) | exact .chan (by assumption) | exact .func (by assumption) (by assumption) (by assumption) (by assumption) (by assumption) | exact .agg (by assumption) (by assumption) | exact .tuple (by assumption) (by assumption)))
  case binOp op t x y _ => exact val (sr_guarded hok.1.1.1 hok.1.1.2 hG x y (hρ x hok.1.2) (hρ y hok.2))
  case unOp op t x => exact val (sr_unary op (hρ x hok))
  case convert s d x => exact val (sr_convert s d hok.1.1 hok.1.2 (hρ x hok.2))
  case makeFunc fn first captured =>
    cases fn <;> simp only [okOp, Bool.and_eq_true] at hok <;> try (cases hok; done)
    have h1 := avr_map hρ hok.1.2
    have h2 := avr_map hρ hok.2
    exact sr_pure (.value (.func hok.1.1 h1.1 h2.1 h1.2 h2.2))
  case makeMap t r =>
    cases r with
    | some _ => cases hok
    | none =>
      refine val ?_
      exact SR.new (OR.map (F := fun f => Fs f = true) (R := R) (es := #[]) (es' := #[]) (clock := 0) rfl fun i h _ => by simp at h) fun n n' => .pure (.map (.inr ⟨rfl, rfl⟩))
  case makeChan t x =>
    obtain ⟨k, rfl⟩ := isZero_spec hok
    have h1 := hρ (.const (.int k 0)) rfl
    have h2 := hρ' (.const (.int k 0)) (.int k 0) rfl
    dsimp only
    rw [h2.1, h2.2]
    exact val (sr_makeChan t k)
  case makeSlice t l c => exact val (sr_makeSlice t hok.1.1 (hρ l hok.1.2) (hρ c hok.2))
  case fieldAddr s x f => exact val (sr_fieldAt s f hok.1 (hρ x hok.2))
  case indexAddr t x i => exact val (sr_indexAt t (hρ x hok.1) (hρ i hok.2))
  case extract x i => exact val (sr_extract i (hρ x hok))
  case call c => exact sr_call hB hρ c o.type hok
end
end Go.Proofs.Ytmfglflahlddbaa.Sm
