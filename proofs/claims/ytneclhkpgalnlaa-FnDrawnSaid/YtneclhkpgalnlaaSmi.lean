/-
  THE SIMULATION: one step.
-/
import Derived.Test.YtneclhkpgalnlaaSmhc
namespace Go.Proofs.Ytneclhkpgalnlaa.Sm
open Go Go.Conc
set_option linter.unusedVariables false
set_option linter.unusedSimpArgs false
section
variable {P : Program} {Fs : FuncId → Bool} {R : BR}

/-- ONE STEP, FOLLOWED. -/
structure Followed (P : Program) (Fs : FuncId → Bool) (main : Bool) (R : BR) (fr fr' : Frame) (up up' bs : List Frame) (v w : World) : Prop where
  ex : ∃ fr1 up1 v1 R1 fr1' up1' w1 es, step P (lone fr (up ++ [trap]) v) = .next (lone fr1 (up1 ++ [trap]) v1) ∧
    stepG P main (G fr' (up' ++ bs)) w = .go (G fr1' (up1' ++ bs)) w1 es ∧ Stretch (FFs Fs) R R1 v v1 w w1 es ∧ FR P Fs R1 fr1 fr1' ∧ CsR P Fs R1 up1 up1' ∧
    ∀ (T : Tape) (d : Nat), (∀ j q, j < v1.drawn - v.drawn → T (d + j) q = v.tape (v.drawn + j) q) →
      step P (lone fr (up ++ [trap]) (rt v T d)) = .next (lone fr1 (up1 ++ [trap]) (rt v1 T (d + (v1.drawn - v.drawn))))

/-- A step that looks at no world. -/
theorem Followed.still {main : Bool} {fr fr' fr1 fr1' : Frame} {up up' bs up1 up1' : List Frame} {v w : World} (hw : WR (FFs Fs) R v w)
    (h : ∀ v, stepG P true (G fr (up ++ [trap])) v = .go (G fr1 (up1 ++ [trap])) v) (h' : stepG P main (G fr' (up' ++ bs)) w = .go (G fr1' (up1' ++ bs)) w) (hf : FR P Fs R fr1 fr1') (hc : CsR P Fs R up1 up1') : Followed P Fs main R fr fr' up up' bs v w :=
  ⟨⟨fr1, up1, v, R, fr1', up1', w, #[], step_G (h v), h', .refl hw, hf, hc, fun T d _ => by rw [step_G (h (rt v T d))]; simp⟩⟩

theorem exit_ok {id : Nat} : ∀ {k k' : List Item}, exitTo id k = some k' → k.all (okItem P Fs) = true → k'.all (okItem P Fs) = true := by
  intro k
  induction k with
  | nil => intro k' h; simp [exitTo] at h
  | cons x k ih =>
    intro k' h hk
    simp only [List.all_cons, Bool.and_eq_true] at hk
    unfold exitTo at h
    split at h
    · split at h
      · simp only [Option.some.injEq] at h; subst h; rename_i heq _; cases heq; exact hk.2
      · rename_i heq _; cases heq; exact ih h hk.2
    · rename_i heq; cases heq; exact ih h hk.2
    · rename_i heq; cases heq

theorem yield_eq {t t' : Array Value} (h : AVR (FFs Fs) R t t') (ops : Array Oper) (j : Nat) : yielded ops t' j = yielded ops t j := by
  unfold yielded
  cases (ops[j]?).bind (·.dst) with
  | none => rfl
  | some d =>
    simp only [Option.bind_some]
    cases e : t[d]? with
    | none => rw [h.none e]
    | some v =>
      obtain ⟨v', e', hv⟩ := h.get e
      rw [e']
      cases hv with
      | bot hb =>
        cases v' <;> first | rfl | exact absurd rfl (hb.2.2 _)
      | _ => rfl

theorem FR.mk' {fn : FuncId} {kind : CallKind} {t t' : Array Value} {todo : List Item} (hF : Fs fn = true) (hk : kind = .normal ∨ kind = .deferred) (ht : AVR (FFs Fs) R t t') (hi : todo.all (okItem P Fs) = true) :
    FR P Fs R ((B fn kind).at ⟨t, []⟩ todo) ((B fn kind).at ⟨t', []⟩ todo) := ⟨fn, t, t', todo, .run, kind, rfl, rfl, hF, hk, .inl rfl, ht, hi⟩
theorem FR.mka {fn : FuncId} {kind : CallKind} {a a' : Act} {todo : List Item} (hF : Fs fn = true) (hk : kind = .normal ∨ kind = .deferred) (hd : a.defers = []) (hd' : a'.defers = []) (ht : AVR (FFs Fs) R a.tmps a'.tmps) (hi : todo.all (okItem P Fs) = true) :
    FR P Fs R ((B fn kind).at a todo) ((B fn kind).at a' todo) := by
  obtain ⟨t, d⟩ := a
  obtain ⟨t', d'⟩ := a'
  simp only at hd hd' ht
  subst hd hd'
  exact FR.mk' hF hk ht hi
theorem FR.mkr {fn : FuncId} {kind : CallKind} {t t' : Array Value} {todo : List Item} (hF : Fs fn = true) (hk : kind = .normal ∨ kind = .deferred) (ht : AVR (FFs Fs) R t t') (hi : todo.all (okItem P Fs) = true) :
    FR P Fs R { (B fn kind).at ⟨t, []⟩ todo with mode := .returning } { (B fn kind).at ⟨t', []⟩ todo with mode := .returning } := ⟨fn, t, t', todo, .returning, kind, rfl, rfl, hF, hk, .inr rfl, ht, hi⟩

theorem Stretch.evs_sub {F : FuncId → Prop} {R R1 : BR} {v v1 w w1 : World} {es es' : Array Event} (h : Stretch F R R1 v v1 w w1 es) (hs : ∀ e ∈ es', e ∈ es) : Stretch F R R1 v v1 w w1 es' := { h with evs := fun e he => h.evs e (hs e he) }

theorem put_rel {t t' : Array Value} (h : AVR (FFs Fs) R t t') (d : Option Tmp) {v v' : Value} (hv : VR (FFs Fs) R v v') : AVR (FFs Fs) R ((⟨t, []⟩ : Act).put d v).tmps ((⟨t', []⟩ : Act).put d v').tmps ∧ ((⟨t, []⟩ : Act).put d v).defers = [] ∧ ((⟨t', []⟩ : Act).put d v').defers = [] := by
  cases d with
  | none => exact ⟨h, rfl, rfl⟩
  | some d => exact ⟨h.set d hv, rfl, rfl⟩

/-- An operation. -/
theorem oper_sim (hP : OkProg P Fs) {main : Bool} {fn : FuncId} {kind : CallKind} {t t' : Array Value} {ops : Array Oper} {i : Nat} {rest : List Nat} {k : List Item} {o : Oper} {up up' bs : List Frame} {v w : World}
    (hF : Fs fn = true) (hk : kind = .normal ∨ kind = .deferred) (ht : AVR (FFs Fs) R t t') (hi : (Item.inRegion ops (i :: rest) :: k).all (okItem P Fs) = true) (hcs : CsR P Fs R up up') (hw : WR (FFs Fs) R v w) (hag : ∀ n, Agr v w n)
    (ho : ops[i]? = some o) (hwa : Region.wanted o (yielded ops t) = true) :
    Doomed P (lone ((B fn kind).at ⟨t, []⟩ (.inRegion ops (i :: rest) :: k)) (up ++ [trap]) v) ∨
    Followed P Fs main R ((B fn kind).at ⟨t, []⟩ (.inRegion ops (i :: rest) :: k)) ((B fn kind).at ⟨t', []⟩ (.inRegion ops (i :: rest) :: k)) up up' bs v w := by
  have hwa' : Region.wanted o (yielded ops t') = true := by
    have : yielded ops t' = yielded ops t := funext (yield_eq ht ops)
    rw [this]; exact hwa
  have hke : (B fn kind).kind ≠ .early := by rcases hk with rfl | rfl <;> simp [B]
  have hi2 := hi
  simp only [List.all_cons, Bool.and_eq_true, okItem] at hi2
  have hoc : okOpC P Fs o.op = true := by
    obtain ⟨hlt, rfl⟩ := Array.getElem?_eq_some_iff.1 ho
    exact Array.all_eq_true.1 hi2.1 i hlt
  cases hoo : okOp P Fs o.op with
  | false => exact .inl (comm_doomed hk ht hw ho hwa (by unfold okOpC at hoc; rw [hoo] at hoc; simpa using hoc))
  | true =>
  have hρ : RhoR (FFs Fs) R Fs (⟨t, []⟩ : Act).eval (⟨t', []⟩ : Act).eval := by
    intro x hx
    cases x with
    | tmp i => exact ht.getD i
    | const v => exact plain_VR 64 v hx
    | global g => cases hx
    | func f => exact .func (f := f) hx rfl rfl (fun i h1 _ => by simp at h1) (fun i h1 _ => by simp at h1)
  have hsr := sr_execOp hP.has hP.glob hρ (fun x v e => by subst e; exact ⟨rfl, rfl⟩) o hoo
  have hfol := hsr.follows v w #[] hw (.inl hag)
  have hloc := fun x v1 hr => hsr.local v w hw x v1 hr
  cases hr : (execOp (⟨t, []⟩ : Act).eval o).run P v with
  | halt h v1 =>
    left
    rw [hr] at hfol
    have hfol : okHalt h := hfol
    have hst : stepG P true (G ((B fn kind).at ⟨t, []⟩ (.inRegion ops (i :: rest) :: k)) (up ++ [trap])) v = _ := stepG_oper ho hwa
    have hk' : ((B fn kind).kind == CallKind.early) = false := by simpa using hke
    cases h with
    | panic x =>
      have e : ∃ es, stepG P true (G ((B fn kind).at ⟨t, []⟩ (.inRegion ops (i :: rest) :: k)) (up ++ [trap])) v = .go (G (((B fn kind).at ⟨t, []⟩ (.inRegion ops (i :: rest) :: k)).raise [{ v := x, recovered := false }]) (up ++ [trap])) v1 es := by
        rw [hst]; exact ⟨_, by simp [stepG.apply, hr, GStep.after, G]; rfl⟩
      obtain ⟨es, e⟩ := e
      obtain ⟨⟨ch, h1⟩, h2⟩ := raise_panic ((B fn kind).at ⟨t, []⟩ (.inRegion ops (i :: rest) :: k)) [{ v := x, recovered := false }]
      exact Doomed.of_next (step_G e) (not_fit_panic h1 _ _) (doomed_panic up (CsR.noDefers hcs) _ ch v1 h1 (h2.trans rfl))
    | stuck why => exact doomed_ended (step_Ge (by rw [hst]; simp [stepG.apply, hr, GStep.after]; exact ⟨rfl, rfl, rfl⟩))
    | unsupported u => cases u <;> first | exact hfol.elim | exact doomed_ended (step_Ge (by rw [hst]; simp [stepG.apply, hr, GStep.after]; exact ⟨rfl, rfl, rfl⟩))
    | _ => exact hfol.elim
  | ok x v1 =>
    right
    rw [hr] at hfol
    obtain ⟨R1, x', w1, es, hrun, hst, hx⟩ := hfol
    have hrun' : (execOp (⟨t', []⟩ : Act).eval o).run P w = .ok x' w1 := by have := congrArg Prod.fst hrun; rwa [Sem.runT_fst] at this
    have hev : (execOp (⟨t', []⟩ : Act).eval o).events P w #[] = es := by
      have := congrArg Prod.snd hrun
      rw [Array.empty_append] at this
      exact this
    have hst' := hst.evs_sub (es' := listed P fn ⟨t', []⟩ o w) fun e he => by have := mem_listed he; rwa [hev] at this
    have l := hloc x v1 hr
    cases hx with
    | value hv =>
      obtain ⟨p1, p2, p3⟩ := put_rel (ht.mono hst.ext) o.dst hv
      refine ⟨⟨_, up, v1, R1, _, up', w1, _, step_G (stepG_value ho hwa hke hr), stepG_value ho hwa' hke hrun', hst', ?_, hcs.mono hst.ext, fun T d hT => step_G (stepG_value ho hwa hke (l T d hT))⟩⟩
      exact FR.mka hF hk p2 p3 p1 (by simpa [okItem] using hi)
    | skip =>
      obtain ⟨p1, p2, p3⟩ := put_rel (ht.mono hst.ext) o.dst (VR.undef (F := FFs Fs) (R := R1))
      refine ⟨⟨_, up, v1, R1, _, up', w1, _, step_G (stepG_none ho hwa hke hr), stepG_none ho hwa' hke hrun', hst', ?_, hcs.mono hst.ext, fun T d hT => step_G (stepG_none ho hwa hke (l T d hT))⟩⟩
      exact FR.mka hF hk p2 p3 p1 (by simpa [okItem] using hi)
    | enter hf ha =>
      refine ⟨⟨_, _ :: up, v1, R1, _, _ :: up', w1, _, step_G (stepG_enter ho hwa hke hr), stepG_enter ho hwa' hke hrun', hst', FR.enter hP hf ha, ⟨FR.mk' hF hk (ht.mono hst.ext) hi, hcs.mono hst.ext⟩, fun T d hT => step_G (stepG_enter ho hwa hke (l T d hT))⟩⟩

/-! ### a return -/
theorem sr_mapM {F : FuncId → Prop} {f g : ResultVar → Sem Value} : ∀ (l : List ResultVar) {R : BR}, (∀ R1, (∀ b c, R b c → R1 b c) → ∀ x, V P F R1 (f x) (g x)) → SR P F (fun R a a' => LVR F R a a') R (l.mapM f) (l.mapM g) := by
  intro l
  induction l with
  | nil => intro R h; exact sr_pure trivial
  | cons x l ih =>
    intro R h
    rw [List.mapM_cons, List.mapM_cons]
    refine sr_bind _ (h R (fun _ _ x => x) x) fun R1 h1 v v' hv => ?_
    refine sr_bind _ (ih fun R2 h2 y => h R2 (fun _ _ z => h2 _ _ (h1 _ _ z)) y) fun R2 h2 vs vs' hvs => ?_
    exact sr_pure ⟨hv.mono h2, hvs⟩

theorem LVR.arr {F : FuncId → Prop} : ∀ {l l' : List Value}, LVR F R l l' → AVR F R l.toArray l'.toArray
  | [], [], _ => .nil
  | v :: l, v' :: l', ⟨h1, h2⟩ => by
    have h3 := LVR.arr h2
    refine .of_get (by simpa using h3.1) fun i u hu => ?_
    cases i with
    | zero => simp only [List.getElem?_toArray, List.getElem?_cons_zero, Option.some.injEq] at hu ⊢; subst hu; exact ⟨v', rfl, h1⟩
    | succ i =>
      simp only [List.getElem?_toArray, List.getElem?_cons_succ] at hu ⊢
      have := h3.get (i := i) (v := u) (by simpa using hu)
      simpa using this

theorem dead_asAddr_none {α : Type} (k : Addr → Sem α) : Dead P (asAddr (.pointer none) >>= k) := Dead.bind dead_nil _
theorem sr_results {F : FuncId → Prop} (fn : Func) {t t' : Array Value} (ht : AVR F R t t') : V P F R (results fn t) (results fn t') := by
  unfold results
  rw [Array.mapM_eq_mapM_toList, Array.mapM_eq_mapM_toList]
  have one : ∀ R1, (∀ b c, R b c → R1 b c) → ∀ x : ResultVar, V P F R1 (match x with | .tmp i => pure (t.getD i undef) | .cell a ty => do loadVar ty (← asAddr (t.getD a undef))) (match x with | .tmp i => pure (t'.getD i undef) | .cell a ty => do loadVar ty (← asAddr (t'.getD a undef))) := by
    intro R1 h1 x
    cases x with
    | tmp i => exact sr_pure ((ht.mono h1).getD i)
    | cell a ty =>
      have hv := (ht.mono h1).getD a
      dsimp only
      generalize t.getD a undef = v at hv
      generalize t'.getD a undef = v' at hv
      cases hv with
      | pointer ha => exact sr_loadVar ty ha
      | bot _ => exact .dead (dead_asAddr_none _)
      | _ => exact sr_stuckb _ _ _
  refine sr_bind (AVR F) ?_ fun R1 h1 vs vs' hvs => ?_
  · rw [← bind_pure_comp, ← bind_pure_comp]
    refine sr_bind _ (sr_mapM fn.results.toList one) fun R2 h2 l l' hl => sr_pure hl.arr
  · have hs := hvs.1
    by_cases h : vs.size = 1
    · have h' : vs'.size = 1 := hs ▸ h
      rw [dif_pos h, dif_pos h']
      exact sr_pure (hvs.2 0 (by omega) (by omega))
    · have h' : ¬ vs'.size = 1 := hs ▸ h
      rw [dif_neg h, dif_neg h']
      exact sr_pure (.tupleOf hvs)
end
end Go.Proofs.Ytneclhkpgalnlaa.Sm
