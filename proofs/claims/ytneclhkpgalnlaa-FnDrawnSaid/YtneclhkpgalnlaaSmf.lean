/-
  A SIMULATION OF TREES: binary operations; calls; every operation of the subset.
-/
import Derived.Test.YtneclhkpgalnlaaSme
namespace Go.Proofs.Ytneclhkpgalnlaa.Sm
open Go Go.Conc
set_option linter.unusedVariables false
set_option linter.unusedSimpArgs false
section
variable {P : Program} {F : FuncId → Prop} {R : BR}

def okBin : BinOp → Bool
  | .add | .sub | .mul | .quo | .rem | .eql | .neq | .lss | .leq | .gtr | .geq => true
  | _ => false

theorem sr_addrMod {a a' : Addr} (h : AR R a a') (k : IntKind) (n : Int) : V P F R (Op.addrMod k a n) (Op.addrMod k a' n) := by
  unfold Op.addrMod
  refine SR.shape h.1 fun s s' hs => ?_
  rcases hs with ⟨rfl, rfl⟩ | ⟨e, m, m', rfl, rfl, hle⟩
  · exact sr_unsup (by trivial) _
  · refine sr_bind _ (sr_typeInfo e) fun R2 h2 i i' ⟨e, _⟩ => ?_
    subst e
    dsimp only
    split
    · exact sr_unsupb (by trivial) _ _
    · refine sr_bind _ (sr_byteOf (h.mono h2)) fun R3 h3 b b' e => ?_
      cases e
      exact sr_pure (.int _ _)

theorem sr_intInt (op : BinOp) (hop : okBin op = true) (k k' : IntKind) (a b : Int) (t : TypeId) : V P F R (binOp op t (.int k a) (.int k' b)) (binOp op t (.int k a) (.int k' b)) := by
  have cmp : ∀ op, V P F R (Op.intCmp op a b) (Op.intCmp op a b) := by
    intro op; unfold Op.intCmp; cases op <;> first | exact sr_pure (.bool _) | exact sr_stuck _ _
  have ar : ∀ op, V P F R (Op.intArith op k a b) (Op.intArith op k a b) := by
    intro op; unfold Op.intArith; cases op <;> first | exact sr_pure (.int _ _) | exact sr_stuck _ _
  have dv : ∀ op, V P F R (Op.intDiv op k a b) (Op.intDiv op k a b) := by
    intro op
    unfold Op.intDiv
    split
    · exact .dead (dead_error _)
    · cases op <;> first | exact sr_pure (.int _ _) | exact sr_stuck _ _
  cases op <;> first
    | (cases hop; done)
    | (unfold binOp; dsimp only; by_cases hk : k = k'
       · simp only [hk, ne_eq, not_true_eq_false, if_false]; first | exact cmp _ | (subst hk; exact ar _) | (subst hk; exact dv _)
       · simp only [hk, ne_eq, not_false_eq_true, if_true]; exact sr_stuck _ _)

theorem sr_cmpPtr (op : BinOp) (hG : P.globals.size = 0) {a a' b b' : Addr} (ha : AR R a a') (hb : AR R b b') : V P F R (do Op.addrCmp op (← behindNumber a).1 (← behindNumber b).1) (do Op.addrCmp op (← behindNumber a').1 (← behindNumber b').1) := by
  refine sr_bind _ (sr_behind ha) fun R2 h2 p p' hp => ?_
  refine sr_bind _ (sr_behind (hb.mono h2)) fun R3 h3 q q' hq => ?_
  exact sr_twoPlaces hG _ _ _ _

theorem sr_plus {t : TypeId} (hb : baseT P t = true) {a a' : Addr} {y y' : Value} (ha : AR R a a') (hy : VR F R y y') :
    V P F R (do if (← underlying t) matches .unsafePointer then movedPointer t (.pointer (some a)) y else movedNumber t (.pointer (some a)) y) (do if (← underlying t) matches .unsafePointer then movedPointer t (.pointer (some a')) y' else movedNumber t (.pointer (some a')) y') := by
  obtain ⟨i, hi, hu, hd⟩ := base_desc hb
  refine sr_bind _ (sr_underlying t) fun R1 h1 d d' ⟨e, hu'⟩ => ?_
  subst e
  rw [hu] at hu'
  simp only [Option.some.injEq] at hu'
  subst hu'
  rcases hd with hd | ⟨k, hd⟩ <;> rw [hd] <;> exact sr_movedNumber t (ha.mono h1) (hy.mono h1)
theorem dead_plus {t : TypeId} (hb : baseT P t = true) (k : IntKind) (n : Int) : Dead P (do if (← underlying t) matches .unsafePointer then movedPointer t (.pointer none) (.int k n) else movedNumber t (.pointer none) (.int k n)) := by
  obtain ⟨i, hi, hu, hd⟩ := base_desc hb
  intro w
  have e : (underlying t).run P w = .ok i.desc w := by simp [underlying, hu]
  rw [Sem.run_bind, e, Result.andThen_ok]
  rcases hd with hd | ⟨k', hd⟩ <;> rw [hd] <;> exact dead_movedNone t k n w

theorem dead_eqL {t : TypeId} (hb : baseT P t = true) (y : Value) : Dead P (Op.equal t (.pointer none) y) := by
  intro w
  obtain ⟨i, hi, hu, hd⟩ := base_desc hb
  unfold Op.equal Op.maxDepth
  show ∃ h w1, (Op.equalIn (9999 + 1) t (.pointer none) y).run P w = .halt h w1 ∧ okHalt h
  unfold Op.equalIn
  have e : (underlying t).run P w = .ok i.desc w := by simp [underlying, hu]
  rw [Sem.run_bind, e, Result.andThen_ok]
  rcases hd with hd | ⟨k, hd⟩ <;> rw [hd] <;> cases y <;> first | exact ⟨.stuck _, _, rfl, trivial⟩ | exact ⟨.unsupported .addressObserved, _, rfl, trivial⟩ | (rename_i a; cases a <;> exact ⟨.unsupported .addressObserved, _, rfl, trivial⟩)
theorem dead_eqR {t : TypeId} (hb : baseT P t = true) (x : Value) : Dead P (Op.equal t x (.pointer none)) := by
  intro w
  obtain ⟨i, hi, hu, hd⟩ := base_desc hb
  unfold Op.equal Op.maxDepth
  show ∃ h w1, (Op.equalIn (9999 + 1) t x (.pointer none)).run P w = .halt h w1 ∧ okHalt h
  unfold Op.equalIn
  have e : (underlying t).run P w = .ok i.desc w := by simp [underlying, hu]
  rw [Sem.run_bind, e, Result.andThen_ok]
  rcases hd with hd | ⟨k, hd⟩ <;> rw [hd] <;> cases x <;> first | exact ⟨.stuck _, _, rfl, trivial⟩ | exact ⟨.unsupported .addressObserved, _, rfl, trivial⟩ | (rename_i a; cases a <;> exact ⟨.unsupported .addressObserved, _, rfl, trivial⟩)

attribute [local irreducible] Op.equal movedNumber movedPointer

theorem sr_lss {t : TypeId} (hG : P.globals.size = 0) {x x' y y' : Value} (hx : VR F R x x') (hy : VR F R y y') : V P F R (binOp .lss t x y) (binOp .lss t x' y') := by
  cases hx with
  | int k n => cases hy with
    | int k' m => exact sr_intInt _ rfl _ _ _ _ _
    | _ => first | exact sr_stuck _ _ | exact sr_unsup (by trivial) _
  | pointer ha => cases hy with
    | pointer hb => exact sr_cmpPtr _ hG ha hb
    | _ => first | exact sr_stuck _ _ | exact sr_unsup (by trivial) _
  | _ => cases hy <;> first | exact sr_stuck _ _ | exact sr_unsup (by trivial) _

theorem sr_leq {t : TypeId} (hG : P.globals.size = 0) {x x' y y' : Value} (hx : VR F R x x') (hy : VR F R y y') : V P F R (binOp .leq t x y) (binOp .leq t x' y') := by
  cases hx with
  | int k n => cases hy with
    | int k' m => exact sr_intInt _ rfl _ _ _ _ _
    | _ => first | exact sr_stuck _ _ | exact sr_unsup (by trivial) _
  | pointer ha => cases hy with
    | pointer hb => exact sr_cmpPtr _ hG ha hb
    | _ => first | exact sr_stuck _ _ | exact sr_unsup (by trivial) _
  | _ => cases hy <;> first | exact sr_stuck _ _ | exact sr_unsup (by trivial) _

theorem sr_gtr {t : TypeId} (hG : P.globals.size = 0) {x x' y y' : Value} (hx : VR F R x x') (hy : VR F R y y') : V P F R (binOp .gtr t x y) (binOp .gtr t x' y') := by
  cases hx with
  | int k n => cases hy with
    | int k' m => exact sr_intInt _ rfl _ _ _ _ _
    | _ => first | exact sr_stuck _ _ | exact sr_unsup (by trivial) _
  | pointer ha => cases hy with
    | pointer hb => exact sr_cmpPtr _ hG ha hb
    | _ => first | exact sr_stuck _ _ | exact sr_unsup (by trivial) _
  | _ => cases hy <;> first | exact sr_stuck _ _ | exact sr_unsup (by trivial) _

theorem sr_geq {t : TypeId} (hG : P.globals.size = 0) {x x' y y' : Value} (hx : VR F R x x') (hy : VR F R y y') : V P F R (binOp .geq t x y) (binOp .geq t x' y') := by
  cases hx with
  | int k n => cases hy with
    | int k' m => exact sr_intInt _ rfl _ _ _ _ _
    | _ => first | exact sr_stuck _ _ | exact sr_unsup (by trivial) _
  | pointer ha => cases hy with
    | pointer hb => exact sr_cmpPtr _ hG ha hb
    | _ => first | exact sr_stuck _ _ | exact sr_unsup (by trivial) _
  | _ => cases hy <;> first | exact sr_stuck _ _ | exact sr_unsup (by trivial) _

theorem sr_mul {t : TypeId} {x x' y y' : Value} (hx : VR F R x x') (hy : VR F R y y') : V P F R (binOp .mul t x y) (binOp .mul t x' y') := by
  cases hx with
  | int k n => cases hy with
    | int k' m => exact sr_intInt _ rfl _ _ _ _ _
    | _ => first | exact sr_stuck _ _ | exact sr_unsup (by trivial) _
  | _ => cases hy <;> first | exact sr_stuck _ _ | exact sr_unsup (by trivial) _

theorem sr_quo {t : TypeId} {x x' y y' : Value} (hx : VR F R x x') (hy : VR F R y y') : V P F R (binOp .quo t x y) (binOp .quo t x' y') := by
  cases hx with
  | int k n => cases hy with
    | int k' m => exact sr_intInt _ rfl _ _ _ _ _
    | _ => first | exact sr_stuck _ _ | exact sr_unsup (by trivial) _
  | _ => cases hy <;> first | exact sr_stuck _ _ | exact sr_unsup (by trivial) _

theorem sr_eql {t : TypeId} (hb : baseT P t = true) (hG : P.globals.size = 0) {x x' y y' : Value} (hx : VR F R x x') (hy : VR F R y y') : V P F R (binOp .eql t x y) (binOp .eql t x' y') := by
  have eq : V P F R (do pure (.bool ((← Op.equal t x y)))) (do pure (.bool ((← Op.equal t x' y')))) := sr_bind _ (sr_equal hb hG hx hy) fun R1 _ b b' e => by cases e; exact sr_pure (.bool _)
  cases hx with
  | bot _ => cases hy <;> exact .dead (Dead.bind (dead_eqL hb _) _)
  | int k n => cases hy with
    | int k' m => exact sr_intInt _ rfl _ _ _ _ _
    | bot _ => exact .dead (Dead.bind (dead_eqR hb _) _)
    | _ => exact eq
  | _ => cases hy with
    | bot _ => exact .dead (Dead.bind (dead_eqR hb _) _)
    | _ => exact eq

theorem sr_neq {t : TypeId} (hb : baseT P t = true) (hG : P.globals.size = 0) {x x' y y' : Value} (hx : VR F R x x') (hy : VR F R y y') : V P F R (binOp .neq t x y) (binOp .neq t x' y') := by
  have eq : V P F R (do pure (.bool (!(← Op.equal t x y)))) (do pure (.bool (!(← Op.equal t x' y')))) := sr_bind _ (sr_equal hb hG hx hy) fun R1 _ b b' e => by cases e; exact sr_pure (.bool _)
  cases hx with
  | bot _ => cases hy <;> exact .dead (Dead.bind (dead_eqL hb _) _)
  | int k n => cases hy with
    | int k' m => exact sr_intInt _ rfl _ _ _ _ _
    | bot _ => exact .dead (Dead.bind (dead_eqR hb _) _)
    | _ => exact eq
  | _ => cases hy with
    | bot _ => exact .dead (Dead.bind (dead_eqR hb _) _)
    | _ => exact eq

theorem sr_add {t : TypeId} (hb : baseT P t = true) {x x' y y' : Value} (hx : VR F R x x') (hy : VR F R y y') : V P F R (binOp .add t x y) (binOp .add t x' y') := by
  cases hx with
  | int k n => cases hy with
    | int k' m => exact sr_intInt _ rfl _ _ _ _ _
    | pointer ha => exact sr_movedNumber t ha (.int _ _)
    | bot _ => exact .dead (dead_movedNone _ _ _)
    | _ => first | exact sr_stuck _ _ | exact sr_unsup (by trivial) _
  | pointer ha => cases hy with
    | int k' m => exact sr_plus hb ha (.int _ _)
    | _ => first | exact sr_stuck _ _ | exact sr_unsup (by trivial) _
  | bot _ => cases hy with
    | int k' m => exact .dead (dead_plus hb _ _)
    | _ => first | exact sr_stuck _ _ | exact sr_unsup (by trivial) _
  | _ => cases hy <;> first | exact sr_stuck _ _ | exact sr_unsup (by trivial) _

theorem sr_sub {t : TypeId} (hG : P.globals.size = 0) {x x' y y' : Value} (hx : VR F R x x') (hy : VR F R y y') : V P F R (binOp .sub t x y) (binOp .sub t x' y') := by
  cases hx with
  | int k n => cases hy with
    | int k' m => exact sr_intInt _ rfl _ _ _ _ _
    | _ => first | exact sr_stuck _ _ | exact sr_unsup (by trivial) _
  | pointer ha => cases hy with
    | int k' m => exact sr_movedNumber t ha (.int _ _)
    | pointer hb =>
      refine sr_bind _ (sr_behind ha) fun R2 h2 p p' hp => ?_
      refine sr_bind _ (sr_behind (hb.mono h2)) fun R3 h3 q q' hq => ?_
      exact sr_twoPlaces hG _ _ _ _
    | _ => first | exact sr_stuck _ _ | exact sr_unsup (by trivial) _
  | bot _ => cases hy with
    | int k' m => exact .dead (dead_movedNone _ _ _)
    | _ => first | exact sr_stuck _ _ | exact sr_unsup (by trivial) _
  | _ => cases hy <;> first | exact sr_stuck _ _ | exact sr_unsup (by trivial) _

theorem sr_rem {t : TypeId} {x x' y y' : Value} (hx : VR F R x x') (hy : VR F R y y') : V P F R (binOp .rem t x y) (binOp .rem t x' y') := by
  cases hx with
  | int k n => cases hy with
    | int k' m => exact sr_intInt _ rfl _ _ _ _ _
    | _ => first | exact sr_stuck _ _ | exact sr_unsup (by trivial) _
  | pointer ha => cases hy with
    | int k' m => exact sr_bind _ (sr_behind ha) fun R2 h2 p p' hp => sr_addrMod hp.1 _ _
    | _ => first | exact sr_stuck _ _ | exact sr_unsup (by trivial) _
  | _ => cases hy <;> first | exact sr_stuck _ _ | exact sr_unsup (by trivial) _

theorem sr_binOp {op : BinOp} (hop : okBin op = true) {t : TypeId} (hb : baseT P t = true) (hG : P.globals.size = 0) {x x' y y' : Value} (hx : VR F R x x') (hy : VR F R y y') : V P F R (binOp op t x y) (binOp op t x' y') := by
  cases op with
  | add => exact sr_add hb hx hy
  | sub => exact sr_sub hG hx hy
  | mul => exact sr_mul hx hy
  | quo => exact sr_quo hx hy
  | rem => exact sr_rem hx hy
  | eql => exact sr_eql hb hG hx hy
  | neq => exact sr_neq hb hG hx hy
  | lss => exact sr_lss hG hx hy
  | leq => exact sr_leq hG hx hy
  | gtr => exact sr_gtr hG hx hy
  | geq => exact sr_geq hG hx hy
  | _ => cases hop
end
end Go.Proofs.Ytneclhkpgalnlaa.Sm
