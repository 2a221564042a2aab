/-
  THE SIMULATION: frames and steps. A virtual lone machine, whose callers end in a trap, takes a step: the real goroutine takes the like step, or the virtual machine comes to no good end.
-/
import Derived.Test.YtneclhkpgalnlaaSmg
import Derived.Conc.CompanyDraw
namespace Go.Proofs.Ytneclhkpgalnlaa.Sm
open Go Go.Conc
set_option linter.unusedVariables false
set_option linter.unusedSimpArgs false

abbrev FFs (Fs : FuncId → Bool) : FuncId → Prop := fun f => Fs f = true

/-- A go statement, a send, a receive: a lone machine does not pass it. -/
def recvT (P : Program) (t : TypeId) : Bool := match P.underlying t with
  | some (.chan _ e) => match P.info? e with
    | some i => i.zero.isSome
    | none => false
  | _ => false
def isComm (P : Program) (Fs : FuncId → Bool) : Op → Bool
  | .go c => (match c.callee with | .value f => okX Fs f | _ => false) && c.args.all (okX Fs)
  | .send a x => okX Fs a && okX Fs x
  | .recv t a _ => okX Fs a && recvT P t
  | _ => false
def okOpC (P : Program) (Fs : FuncId → Bool) (o : Op) : Bool := okOp P Fs o || isComm P Fs o

def okCode (P : Program) (Fs : FuncId → Bool) : Code → Bool
  | .skip | .exit _ | .ret | .label _ => true
  | .region _ ops _ => ops.all fun o => okOpC P Fs o.op
  | .seq a b => okCode P Fs a && okCode P Fs b
  | .cond c a b => okX Fs c && okCode P Fs a && okCode P Fs b
  | .block _ b | .loop b => okCode P Fs b
  | _ => false
def okItem (P : Program) (Fs : FuncId → Bool) : Item → Bool
  | .code c | .inLoop c => okCode P Fs c
  | .inBlock _ => true
  | .inRegion ops _ => ops.all fun o => okOpC P Fs o.op
  | _ => false

structure OkProg (P : Program) (Fs : FuncId → Bool) : Prop where
  body : ∀ f, Fs f = true → ∃ fn c, P.funcs[f]? = some fn ∧ (fn.name == "runtime.NumGoroutine") = false ∧ fn.body = some c ∧ okCode P Fs c = true
  glob : P.globals.size = 0

theorem OkProg.has {P : Program} {Fs : FuncId → Bool} (h : OkProg P Fs) : HasBody P (FFs Fs) := fun f hf => by
  obtain ⟨fn, c, h1, h2, h3, _⟩ := h.body f hf
  exact ⟨fn, h1, h2, by rw [h3]; rfl⟩

/-- The frame that ends the virtual run where it is returned to, or unwound into. -/
def trap : Frame := { fn := 0, tmps := #[], todo := [.code (.refuse "")], defers := [{ target := .nil, args := #[] }], mode := .run, kind := .normal, roundOf := none }

def FR (P : Program) (Fs : FuncId → Bool) (R : BR) (fr fr' : Frame) : Prop := ∃ fn t t' todo mode kind,
  fr = { fn := fn, tmps := t, todo := todo, defers := [], mode := mode, kind := kind, roundOf := none } ∧
  fr' = { fn := fn, tmps := t', todo := todo, defers := [], mode := mode, kind := kind, roundOf := none } ∧
  Fs fn = true ∧ (kind = .normal ∨ kind = .deferred) ∧ (mode = .run ∨ mode = .returning) ∧ AVR (FFs Fs) R t t' ∧ todo.all (okItem P Fs) = true

def CsR (P : Program) (Fs : FuncId → Bool) (R : BR) : List Frame → List Frame → Prop
  | [], [] => True
  | a :: as, b :: bs => FR P Fs R a b ∧ CsR P Fs R as bs
  | _, _ => False

section
variable {P : Program} {Fs : FuncId → Bool} {R : BR}

theorem FR.mono {R' : BR} (h : ∀ b c, R b c → R' b c) {fr fr' : Frame} (x : FR P Fs R fr fr') : FR P Fs R' fr fr' := by
  obtain ⟨fn, t, t', todo, mode, kind, h1, h2, h3, h4, h5, h6, h7⟩ := x
  exact ⟨fn, t, t', todo, mode, kind, h1, h2, h3, h4, h5, h6.mono h, h7⟩
theorem CsR.mono {R' : BR} (h : ∀ b c, R b c → R' b c) : ∀ {l l' : List Frame}, CsR P Fs R l l' → CsR P Fs R' l l'
  | [], [], _ => trivial
  | _ :: _, _ :: _, ⟨a, b⟩ => ⟨a.mono h, CsR.mono h b⟩

theorem FR.rho {fr fr' : Frame} (h : FR P Fs R fr fr') : RhoR (FFs Fs) R Fs fr.eval fr'.eval := by
  obtain ⟨fn, t, t', todo, mode, kind, rfl, rfl, h3, h4, h5, h6, h7⟩ := h
  intro x hx
  cases x with
  | tmp i => exact h6.getD i
  | const v => exact plain_VR 64 v hx
  | global g => cases hx
  | func f => exact .func (f := f) hx rfl rfl (fun i h1 _ => by simp at h1) (fun i h1 _ => by simp at h1)

theorem FR.finish {fr fr' : Frame} (h : FR P Fs R fr fr') {v v' : Value} (hv : VR (FFs Fs) R v v') : FR P Fs R (fr.finish v) (fr'.finish v') := by
  obtain ⟨fn, t, t', todo, mode, kind, rfl, rfl, h3, h4, h5, h6, h7⟩ := h
  unfold Frame.finish
  cases todo with
  | nil => exact ⟨fn, t, t', _, mode, kind, rfl, rfl, h3, h4, h5, h6, h7⟩
  | cons x k =>
    simp only [List.all_cons, Bool.and_eq_true] at h7
    cases x with
    | inRegion ops todo =>
      cases todo with
      | nil => exact ⟨fn, t, t', _, mode, kind, rfl, rfl, h3, h4, h5, h6, by simp only [List.all_cons, Bool.and_eq_true]; exact h7⟩
      | cons i rest =>
        refine ⟨fn, _, _, .inRegion ops rest :: k, mode, kind, rfl, rfl, h3, h4, h5, ?_, by simp only [List.all_cons, Bool.and_eq_true]; exact h7⟩
        dsimp only
        cases (ops[i]?).bind (·.dst) with
        | none => exact h6
        | some d => exact h6.set d hv
    | code _ => exact ⟨fn, t, t', _, mode, kind, rfl, rfl, h3, h4, h5, h6, by simp only [List.all_cons, Bool.and_eq_true]; exact h7⟩
    | inLoop _ => exact ⟨fn, t, t', _, mode, kind, rfl, rfl, h3, h4, h5, h6, by simp only [List.all_cons, Bool.and_eq_true]; exact h7⟩
    | inBlock _ => exact ⟨fn, t, t', _, mode, kind, rfl, rfl, h3, h4, h5, h6, by simp only [List.all_cons, Bool.and_eq_true]; exact h7⟩
    | _ => cases h7.1

theorem FR.enter (hP : OkProg P Fs) {f : FuncId} (hf : Fs f = true) {as as' : Array Value} (h : AVR (FFs Fs) R as as') : FR P Fs R (Frame.enter P f as .normal) (Frame.enter P f as' .normal) := by
  obtain ⟨fn, c, h1, h2, h3, h4⟩ := hP.body f hf
  unfold Frame.enter
  simp only [h1, Option.map_some, Option.getD_some, Option.bind_some, h3]
  refine ⟨f, _, _, [.code c], .run, .normal, rfl, rfl, hf, .inl rfl, .inl rfl, ?_, by simp [okItem, h4]⟩
  rw [← h.1]
  exact h.append (.replicate _ VR.undef)

/-! ### the virtual machine comes to no good end -/
def OkFr (fr : Frame) : Prop := fr.defers = [] ∧ (fr.mode = .run ∨ fr.mode = .returning)
def Fit (m : Machine) : Prop := ∃ fr up v, m = lone fr (up ++ [trap]) v ∧ OkFr fr
/-- From here on, behind the next step, it never stands as a walk does. -/
def Doomed (P : Program) (m : Machine) : Prop := ∀ n m', runN P (n + 1) m = .next m' → ¬ Fit m'

theorem lone_frame {fr fr' : Frame} {cs cs' : List Frame} {v v' : World} (h : lone fr cs v = lone fr' cs' v') : fr = fr' ∧ cs = cs' ∧ v = v' := by
  unfold lone at h
  simp only [Machine.mk.injEq, Array.mk.injEq, List.cons.injEq, Goroutine.mk.injEq] at h
  exact ⟨h.2.1.1.1, h.2.1.1.2.1, h.1⟩

theorem doomed_ended {m : Machine} {o : Outcome} {w : World} (h : step P m = .ended o w) : Doomed P m := fun n m' hn => by simp [runN, h] at hn
theorem Doomed.of_next {m m1 : Machine} (h : step P m = .next m1) (hf : ¬ Fit m1) (hd : Doomed P m1) : Doomed P m := fun n m' hn => by
  simp only [runN, h] at hn
  cases n with
  | zero => simp only [runN, Stepped.next.injEq] at hn; exact hn ▸ hf
  | succ n => exact hd n m' hn

theorem trap_not_ok : ¬ OkFr trap := fun h => by simp [OkFr, trap] at h
theorem step_trap (cs : List Frame) (v : World) : ∃ o w, step P (lone trap cs v) = .ended o w :=
  ⟨_, _, step_lone_ended (w' := v) (show stepG P true (G trap []) v = .ended _ v from rfl)⟩
theorem trap_panic (chain : List PanicEntry) (cs : List Frame) (v : World) : ∃ o w, step P (lone { trap with mode := .panicking chain } cs v) = .ended o w :=
  ⟨_, _, step_lone_ended (o := _) (w' := v) (by simp [stepG, unwind, callDeferred, trap]; rfl)⟩
end
end Go.Proofs.Ytneclhkpgalnlaa.Sm
