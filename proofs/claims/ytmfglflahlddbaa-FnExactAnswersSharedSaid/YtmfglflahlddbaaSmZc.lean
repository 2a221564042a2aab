/-
  THE SIMULATION: frames and steps. A virtual lone machine, whose callers end in a trap, takes a step: the real goroutine takes the like step, or the virtual machine comes to no good end.
-/
import Derived.Test.YtmfglflahlddbaaSmZb
import Derived.Conc.CompanyDraw
import Derived.Conc.CrowdComm
import Derived.Conc.Own2
import Derived.Lone
namespace Go.Proofs.Ytmfglflahlddbaa.Sm
open Go Go.Conc
set_option linter.unusedVariables false
set_option linter.unusedSimpArgs false

abbrev FFs (Fs : FuncId → Bool) : FuncId → Prop := fun f => Fs f = true

/-- A go statement, a send, a receive: a lone machine does not pass it. -/
def recvT (P : Program) (t : TypeId) : Bool := match P.underlying t with
  | some (.chan _ e) => match P.info? e with
    | some i => i.zero.isSome
    | none => false
  | _ => false
def isComm (P : Program) (Fs : FuncId → Bool) : Op → Bool
  | .go c => (match c.callee with | .value f => okX Fs f | _ => false) && c.args.all (okX Fs)
  | .send a x => okX Fs a && okX Fs x
  | .recv t a _ => okX Fs a && recvT P t
  | _ => false
def okOpC (P : Program) (Fs : FuncId → Bool) (o : Op) : Bool := okOp P Fs o || isComm P Fs o

def okCode (P : Program) (Fs : FuncId → Bool) : Code → Bool
  | .skip | .exit _ | .ret | .label _ => true
  | .region _ ops _ => ops.all fun o => okOpC P Fs o.op
  | .seq a b => okCode P Fs a && okCode P Fs b
  | .cond c a b => okX Fs c && okCode P Fs a && okCode P Fs b
  | .block _ b | .loop b => okCode P Fs b
  | _ => false
def okItem (P : Program) (Fs : FuncId → Bool) : Item → Bool
  | .code c | .inLoop c => okCode P Fs c
  | .inBlock _ => true
  | .inRegion ops _ => ops.all fun o => okOpC P Fs o.op
  | _ => false

structure OkProg (P : Program) (Fs : FuncId → Bool) : Prop where
  body : ∀ f, Fs f = true → ∃ fn c, P.funcs[f]? = some fn ∧ (fn.name == "runtime.NumGoroutine") = false ∧ fn.body = some c ∧ okCode P Fs c = true
  glob : P.globals.size = 0

theorem OkProg.has {P : Program} {Fs : FuncId → Bool} (h : OkProg P Fs) : HasBody P (FFs Fs) := fun f hf => by
  obtain ⟨fn, c, h1, h2, h3, _⟩ := h.body f hf
  exact ⟨fn, h1, h2, by rw [h3]; rfl⟩

/-- The frame that ends the virtual run where it is returned to, or unwound into. -/
def trap : Frame := { fn := 0, tmps := #[], todo := [.code (.refuse "")], defers := [{ target := .nil, args := #[] }], mode := .run, kind := .normal, roundOf := none }

def FR (P : Program) (Fs : FuncId → Bool) (R : BR) (fr fr' : Frame) : Prop := ∃ fn t t' todo mode kind,
  fr = { fn := fn, tmps := t, todo := todo, defers := [], mode := mode, kind := kind, roundOf := none } ∧
  fr' = { fn := fn, tmps := t', todo := todo, defers := [], mode := mode, kind := kind, roundOf := none } ∧
  Fs fn = true ∧ (kind = .normal ∨ kind = .deferred) ∧ (mode = .run ∨ mode = .returning) ∧ AVR (FFs Fs) R t t' ∧ todo.all (okItem P Fs) = true

def CsR (P : Program) (Fs : FuncId → Bool) (R : BR) : List Frame → List Frame → Prop
  | [], [] => True
  | a :: as, b :: bs => FR P Fs R a b ∧ CsR P Fs R as bs
  | _, _ => False

section
variable {P : Program} {Fs : FuncId → Bool} {R : BR}

theorem FR.mono {R' : BR} (h : ∀ b c, R b c → R' b c) {fr fr' : Frame} (x : FR P Fs R fr fr') : FR P Fs R' fr fr' := by
  obtain ⟨fn, t, t', todo, mode, kind, h1, h2, h3, h4, h5, h6, h7⟩ := x
  exact ⟨fn, t, t', todo, mode, kind, h1, h2, h3, h4, h5, h6.mono h, h7⟩
theorem CsR.mono {R' : BR} (h : ∀ b c, R b c → R' b c) : ∀ {l l' : List Frame}, CsR P Fs R l l' → CsR P Fs R' l l'
  | [], [], _ => trivial
  | _ :: _, _ :: _, ⟨a, b⟩ => ⟨a.mono h, CsR.mono h b⟩

theorem FR.rho {fr fr' : Frame} (h : FR P Fs R fr fr') : RhoR (FFs Fs) R Fs fr.eval fr'.eval := by
  obtain ⟨fn, t, t', todo, mode, kind, rfl, rfl, h3, h4, h5, h6, h7⟩ := h
  intro x hx
  cases x with
  | tmp i => exact h6.getD i
  | const v => exact plain_VR 64 v hx
  | global g => cases hx
  | func f => exact .func (f := f) hx rfl rfl (fun i h1 _ => by simp at h1) (fun i h1 _ => by simp at h1)

theorem FR.finish {fr fr' : Frame} (h : FR P Fs R fr fr') {v v' : Value} (hv : VR (FFs Fs) R v v') : FR P Fs R (fr.finish v) (fr'.finish v') := by
  obtain ⟨fn, t, t', todo, mode, kind, rfl, rfl, h3, h4, h5, h6, h7⟩ := h
  unfold Frame.finish
  cases todo with
  | nil => exact ⟨fn, t, t', _, mode, kind, rfl, rfl, h3, h4, h5, h6, h7⟩
  | cons x k =>
    simp only [List.all_cons, Bool.and_eq_true] at h7
    cases x with
    | inRegion ops todo =>
      cases todo with
      | nil => exact ⟨fn, t, t', _, mode, kind, rfl, rfl, h3, h4, h5, h6, by simp only [List.all_cons, Bool.and_eq_true]; exact h7⟩
      | cons i rest =>
        refine ⟨fn, _, _, .inRegion ops rest :: k, mode, kind, rfl, rfl, h3, h4, h5, ?_, by simp only [List.all_cons, Bool.and_eq_true]; exact h7⟩
        dsimp only
        cases (ops[i]?).bind (·.dst) with
        | none => exact h6
        | some d => exact h6.set d hv
    | code _ => exact ⟨fn, t, t', _, mode, kind, rfl, rfl, h3, h4, h5, h6, by simp only [List.all_cons, Bool.and_eq_true]; exact h7⟩
    | inLoop _ => exact ⟨fn, t, t', _, mode, kind, rfl, rfl, h3, h4, h5, h6, by simp only [List.all_cons, Bool.and_eq_true]; exact h7⟩
    | inBlock _ => exact ⟨fn, t, t', _, mode, kind, rfl, rfl, h3, h4, h5, h6, by simp only [List.all_cons, Bool.and_eq_true]; exact h7⟩
    | _ => cases h7.1

theorem FR.enter (hP : OkProg P Fs) {f : FuncId} (hf : Fs f = true) {as as' : Array Value} (h : AVR (FFs Fs) R as as') : FR P Fs R (Frame.enter P f as .normal) (Frame.enter P f as' .normal) := by
  obtain ⟨fn, c, h1, h2, h3, h4⟩ := hP.body f hf
  unfold Frame.enter
  simp only [h1, Option.map_some, Option.getD_some, Option.bind_some, h3]
  refine ⟨f, _, _, [.code c], .run, .normal, rfl, rfl, hf, .inl rfl, .inl rfl, ?_, by simp [okItem, h4]⟩
  rw [← h.1]
  exact h.append (.replicate _ VR.undef)

/-! ### the virtual machine comes to no good end -/
def OkFr (fr : Frame) : Prop := fr.defers = [] ∧ (fr.mode = .run ∨ fr.mode = .returning)
def Fit (m : Machine) : Prop := ∃ fr up v, m = lone fr (up ++ [trap]) v ∧ OkFr fr
/-- From here on, behind the next step, it never stands as a walk does. -/
def Doomed (P : Program) (m : Machine) : Prop := ∀ n m', runN P (n + 1) m = .next m' → ¬ Fit m'

theorem lone_frame {fr fr' : Frame} {cs cs' : List Frame} {v v' : World} (h : lone fr cs v = lone fr' cs' v') : fr = fr' ∧ cs = cs' ∧ v = v' := by
  unfold lone at h
  simp only [Machine.mk.injEq, Array.mk.injEq, List.cons.injEq, Goroutine.mk.injEq] at h
  exact ⟨h.2.1.1.1, h.2.1.1.2.1, h.1⟩

theorem doomed_ended {m : Machine} {o : Outcome} {w : World} (h : step P m = .ended o w) : Doomed P m := fun n m' hn => by simp [runN, h] at hn
theorem Doomed.of_next {m m1 : Machine} (h : step P m = .next m1) (hf : ¬ Fit m1) (hd : Doomed P m1) : Doomed P m := fun n m' hn => by
  simp only [runN, h] at hn
  cases n with
  | zero => simp only [runN, Stepped.next.injEq] at hn; exact hn ▸ hf
  | succ n => exact hd n m' hn

theorem trap_not_ok : ¬ OkFr trap := fun h => by simp [OkFr, trap] at h
theorem step_trap (cs : List Frame) (v : World) : ∃ o w, step P (lone trap cs v) = .ended o w :=
  ⟨_, _, step_lone_ended (w' := v) (show stepG P true (G trap []) v = .ended _ v from rfl)⟩
theorem trap_panic (chain : List PanicEntry) (cs : List Frame) (v : World) : ∃ o w, step P (lone { trap with mode := .panicking chain } cs v) = .ended o w :=
  ⟨_, _, step_lone_ended (o := _) (w' := v) (by simp [stepG, unwind, callDeferred, trap]; rfl)⟩
end
end Go.Proofs.Ytmfglflahlddbaa.Sm
namespace Go.Proofs.Ytmfglflahlddbaa.Sm
open Go Go.Conc
set_option linter.unusedVariables false
set_option linter.unusedSimpArgs false
section
variable {P : Program} {Fs : FuncId → Bool} {R : BR}

theorem step_G {fr fr1 : Frame} {cs cs1 : List Frame} {v v1 : World} {es : Array Event} (h : stepG P true (G fr cs) v = .go (G fr1 cs1) v1 es) : step P (lone fr cs v) = .next (lone fr1 cs1 v1) :=
  step_lone_go (by
    show (stepG P true (G fr cs) v).bare = _
    rw [h]; rfl)
theorem step_Ge {fr : Frame} {cs : List Frame} {v v1 : World} {o : Outcome} {es : Array Event} (h : stepG P true (G fr cs) v = .ended o v1 es) : step P (lone fr cs v) = .ended o v1 :=
  step_lone_ended (by
    show (stepG P true (G fr cs) v).bare = _
    rw [h]; rfl)

theorem fit_lone {fr : Frame} {cs : List Frame} {v : World} (h : Fit (lone fr cs v)) : OkFr fr := by
  obtain ⟨fr1, up, v1, e, ho⟩ := h
  obtain ⟨rfl, _, _⟩ := lone_frame e
  exact ho
theorem not_fit_panic {fr : Frame} {chain : List PanicEntry} (hm : fr.mode = .panicking chain) (cs : List Frame) (v : World) : ¬ Fit (lone fr cs v) := fun h => by
  have := (fit_lone h).2
  rw [hm] at this
  rcases this with h | h <;> cases h

theorem doomed_trap (cs : List Frame) (v : World) : ¬ Fit (lone trap cs v) ∧ Doomed P (lone trap cs v) :=
  ⟨fun h => trap_not_ok (fit_lone h), let ⟨_, _, e⟩ := step_trap (P := P) cs v; doomed_ended e⟩

theorem raise_panic (fr : Frame) (chain : List PanicEntry) : (∃ chain', (fr.raise chain).mode = .panicking chain') ∧ (fr.raise chain).defers = fr.defers := by
  unfold Frame.raise
  split <;> exact ⟨⟨_, rfl⟩, rfl⟩

theorem doomed_panic : ∀ (up : List Frame), (∀ c ∈ up, c.defers = []) → ∀ (fr : Frame) (chain : List PanicEntry) (v : World), fr.mode = .panicking chain → fr.defers = [] → Doomed P (lone fr (up ++ [trap]) v) := by
  intro up
  induction up with
  | nil =>
    intro _ fr chain v hm hd
    by_cases hc : fr.catches P = true
    · exact doomed_ended (step_Ge (es := #[]) (by simp [G, stepG, unwind, hm, hd, hc]; exact ⟨rfl, rfl⟩))
    · have e : step P (lone fr ([] ++ [trap]) v) = .next (lone { trap with mode := .panicking chain } [] v) := step_G (es := #[]) (by simp [G, stepG, unwind, hm, hd, hc, Frame.raise, trap])
      obtain ⟨_, _, e2⟩ := trap_panic (P := P) chain [] v
      exact Doomed.of_next e (not_fit_panic rfl _ _) (doomed_ended e2)
  | cons c up ih =>
    intro hup fr chain v hm hd
    by_cases hc : fr.catches P = true
    · exact doomed_ended (step_Ge (es := #[]) (by simp [G, stepG, unwind, hm, hd, hc]; exact ⟨rfl, rfl⟩))
    · have e : step P (lone fr (c :: up ++ [trap]) v) = .next (lone (c.raise chain) (up ++ [trap]) v) := step_G (es := #[]) (by simp [G, stepG, unwind, hm, hd, hc])
      obtain ⟨⟨ch, h1⟩, h2⟩ := raise_panic c chain
      exact Doomed.of_next e (not_fit_panic h1 _ _) (ih (fun x hx => hup x (by simp [hx])) _ ch v h1 (h2.trans (hup c (by simp))))

theorem CsR.noDefers : ∀ {l l' : List Frame}, CsR P Fs R l l' → ∀ c ∈ l, c.defers = []
  | a :: as, b :: bs, h, c, hc => by
    obtain ⟨h1, h2⟩ := h
    rcases List.mem_cons.1 hc with rfl | hc
    · obtain ⟨_, _, _, _, _, _, rfl, _⟩ := h1; rfl
    · exact CsR.noDefers h2 c hc
  | [], _, _, c, hc => by simp at hc

def B (fn : FuncId) (kind : CallKind) : Frame := { (default : Frame) with fn := fn, kind := kind }


theorem runN_size (n : Nat) : ∀ (m m' : Machine), runN P n m = .next m' → m.gs.size ≤ m'.gs.size := by
  induction n with
  | zero => intro m m' h; simp only [runN, Stepped.next.injEq] at h; rw [h]; exact Nat.le_refl _
  | succ n ih =>
    intro m m' h
    simp only [runN] at h
    cases hs : step P m with
    | next m1 => rw [hs] at h; exact Nat.le_trans (stepT_size P m m1 true hs) (ih m1 m' h)
    | ended o w => rw [hs] at h; cases h

theorem doomed_many {m m1 : Machine} (h : step P m = .next m1) (h2 : 2 ≤ m1.gs.size) : Doomed P m := fun n m' hn hf => by
  simp only [runN, h] at hn
  have h3 := runN_size n m1 m' hn
  obtain ⟨fr, up, v, rfl, _⟩ := hf
  simp [lone] at h3
  omega

theorem doomed_spawn {fr : Frame} {cs : List Frame} {v v1 : World} {a child : Goroutine} {es : Array Event} (h : stepG P true (G fr cs) v = .spawn a child v1 es) : Doomed P (lone fr cs v) := by
  have h1 : step P (lone fr cs v) = .next (duo a child v1 none) := by
    have : stepT P (solo (G fr cs) v) = runT P (solo (G fr cs) v) 0 := stepT_solo rfl
    show (stepT P (solo (G fr cs) v)).1 = _
    rw [this, runT_solo_spawn h]
  exact doomed_many h1 (by simp [duo])

theorem step_asleep {g : Goroutine} (hg : g.status = .blocked) (v : World) : ∃ o w, step P (crowd #[g] v none) = .ended o w := by
  have hr : runnable #[g] v.os.mono = [] := by simp [runnable_eq, Goroutine.canRun, hg, List.range_succ]
  have ha : ∀ b, ahead { world := v, gs := #[g], rest := { timers := #[], alone := none, slice := none } } b = none := by intro b; cases b <;> simp [ahead, hg]
  have key : ∃ o w ops, ask P { world := v, gs := #[g], rest := { timers := #[], alone := none, slice := none } } = .machine (.ended o w) ops := by
    simp only [ask, askOn, hr, due, ha]
    simp [pure, Sem.run, hg, ha]
    split <;> exact ⟨_, _, _, rfl⟩
  obtain ⟨o, w, ops, key⟩ := key
  exact ⟨o, w, by simp [step, stepT, move, crowd, key]⟩

theorem comm_lone {fr : Frame} {cs : List Frame} {v : World} {c : CommCase} {shape : CommShape} {es : Array Event} (h : stepG P true (G fr cs) v = .comm (G fr cs) #[c] true shape v es)
    (hc : illMade v c = true ∨ NoWays v #[ph] c) : Doomed P (lone fr cs v) := by
  have e0 : lone fr cs v = crowd #[G fr cs] v none := rfl
  have hst : step P (lone fr cs v) = (runT P (crowd #[G fr cs] v none) 0).1 := by
    have : stepT P (solo (G fr cs) v) = runT P (solo (G fr cs) v) 0 := stepT_solo rfl
    show (stepT P (solo (G fr cs) v)).1 = _
    rw [this]; rfl
  have hset : (#[G fr cs] : Array Goroutine).setIfInBounds 0 ph = #[ph] := rfl
  rcases hc with hc | hc
  · have : ∃ o w, (runT P (crowd #[G fr cs] v none) 0).1 = .ended o w := by
      rw [runT_crowd_comm (i := 0) rfl h]
      unfold communicate
      rw [if_pos]
      · exact ⟨_, _, rfl⟩
      · exact (show (#[c] : Array CommCase).any (illMade v) = true by simp [hc])
    obtain ⟨o, w, e⟩ := this
    exact doomed_ended (hst.trans e)
  · have hw := crowd_waits (P := P) (gs := #[G fr cs]) (sl := none) (i := 0) (cases := #[c]) rfl h (fun cc hcc => by
      simp only [List.mem_toArray, List.mem_cons, List.not_mem_nil, or_false] at hcc
      subst hcc
      rw [hset]; exact hc)
    rw [hw] at hst
    have e1 : (#[G fr cs] : Array Goroutine).setIfInBounds 0 (parked (G fr cs) #[c] shape) = #[parked (G fr cs) #[c] shape] := rfl
    rw [e1] at hst
    obtain ⟨o, w, e2⟩ := step_asleep (P := P) (g := parked (G fr cs) #[c] shape) rfl v
    refine Doomed.of_next hst (fun hf => ?_) (doomed_ended e2)
    obtain ⟨fr1, up1, v1, e3, _⟩ := hf
    unfold crowd lone parked at e3
    simp at e3

theorem ways_of {v w : World} {F : FuncId → Prop} (hw : WR F R v w) {x x' : Value} (hx : VR F R x x') (s : Option Value) (z : Value) : illMade v { chan := x, send := s, zero := z } = true ∨ NoWays v #[ph] { chan := x, send := s, zero := z } := by
  have hp : ∀ c b, partners #[ph] c b = [] := fun c b => partners_nil fun j g hj => by
    cases j with
    | zero => simp only [List.getElem?_toArray, List.getElem?_cons_zero, Option.some.injEq] at hj; subst hj; rfl
    | succ j => simp at hj
  cases hx with
  | chanNone => exact .inr (ways_nil s)
  | @chan r r' hr =>
    obtain ⟨o, o', ho, ho', hOR⟩ := hw.obj r r' hr
    cases hOR with
    | chan s1 s2 tm =>
      right
      cases s with
      | none => exact ways_recv_none ho (hp _ _)
      | some x => exact ways_send_none ho (Nat.le_refl _) (hp _ _)
    | cells => left; simp [illMade, ho]
    | map => left; simp [illMade, ho]
    | number => left; simp [illMade, ho]
  | _ => left; simp [illMade]

theorem stepG_stuck {b : Frame} {a : Act} {k : List Item} {cs : List Frame} {ops : Array Oper} {i : Nat} {rest : List Nat} {o : Oper} {v v1 : World} {h : Halt} (ho : ops[i]? = some o) (hwa : Region.wanted o (yielded ops a.tmps) = true)
    (hr : (execOp a.eval o).run P v = .halt h v1) (hh : (∃ why, h = .stuck why) ∨ ∃ u, h = .unsupported u ∧ okHalt (.unsupported u)) : Doomed P (lone (b.at a (.inRegion ops (i :: rest) :: k)) cs v) := by
  have hst : stepG P true (G (b.at a (.inRegion ops (i :: rest) :: k)) cs) v = _ := stepG_oper ho hwa
  rcases hh with ⟨why, rfl⟩ | ⟨u, rfl, hu⟩
  · exact doomed_ended (step_Ge (by rw [hst]; simp [stepG.apply, hr, GStep.after]; exact ⟨rfl, rfl, rfl⟩))
  · cases u <;> first | exact hu.elim | exact doomed_ended (step_Ge (by rw [hst]; simp [stepG.apply, hr, GStep.after]; exact ⟨rfl, rfl, rfl⟩))

theorem comm_doomed {fn : FuncId} {kind : CallKind} {t t' : Array Value} {ops : Array Oper} {i : Nat} {rest : List Nat} {k : List Item} {o : Oper} {up : List Frame} {v w : World}
    (hk : kind = .normal ∨ kind = .deferred) (ht : AVR (FFs Fs) R t t') (hw : WR (FFs Fs) R v w) (ho : ops[i]? = some o) (hwa : Region.wanted o (yielded ops t) = true) (hc : isComm P Fs o.op = true) :
    Doomed P (lone ((B fn kind).at ⟨t, []⟩ (.inRegion ops (i :: rest) :: k)) (up ++ [trap]) v) := by
  have hke : (B fn kind).kind ≠ .early := by rcases hk with rfl | rfl <;> simp [B]
  have hρ : RhoR (FFs Fs) R Fs (⟨t, []⟩ : Act).eval (⟨t', []⟩ : Act).eval := by
    intro x hx
    cases x with
    | tmp i => exact ht.getD i
    | const v => exact plain_VR 64 v hx
    | global g => cases hx
    | func f => exact .func (f := f) hx rfl rfl (fun i h1 _ => by simp at h1) (fun i h1 _ => by simp at h1)
  unfold isComm at hc
  cases hop : o.op <;> rw [hop] at hc <;> simp only at hc <;> try (cases hc; done)
  case go c =>
    simp only [Bool.and_eq_true] at hc
    cases hcal : c.callee <;> rw [hcal] at hc <;> simp only at hc <;> try (cases hc.1; done)
    rename_i f
    have hf := hρ f hc.1
    have hex : execOp (⟨t, []⟩ : Act).eval o = (Deferred.ofValue ((⟨t, []⟩ : Act).eval f) (c.args.map (⟨t, []⟩ : Act).eval) >>= fun d => pure (.spawn d)) := by
      unfold execOp resolve
      rw [hop]
      simp only [hcal]
    generalize (⟨t, []⟩ : Act).eval f = x at hf hex
    generalize (⟨t', []⟩ : Act).eval f = x' at hf
    cases hf with
    | @func g hg p p' cc cc' hp hcs ip ic =>
      have hr : (execOp (⟨t, []⟩ : Act).eval o).run P v = .ok (.spawn { target := .fn (.func g) cc, args := p ++ c.args.map (⟨t, []⟩ : Act).eval }) v := by rw [hex]; rfl
      have hsp := stepG_spawn (main := true) (b := B fn kind) (cs := up ++ [trap]) (rest := rest) (k := k) ho hwa hke hr rfl
      exact doomed_spawn hsp
    | _ => exact stepG_stuck ho hwa (v1 := v) (h := .stuck "call: function value expected") (by rw [hex]; rfl) (.inl ⟨_, rfl⟩)
  case send ch x =>
    simp only [Bool.and_eq_true] at hc
    have hr : (execOp (⟨t, []⟩ : Act).eval o).run P v = .ok (.comm #[{ chan := (⟨t, []⟩ : Act).eval ch, send := some ((⟨t, []⟩ : Act).eval x), zero := .tuple #[] }] true .send) v := by unfold execOp; rw [hop]; rfl
    exact comm_lone (stepG_comm ho hwa hke hr) (ways_of hw (hρ ch hc.1) _ _)
  case recv ty ch ok =>
    simp only [Bool.and_eq_true] at hc
    obtain ⟨hch, hty⟩ := hc
    unfold recvT at hty
    split at hty
    · rename_i d e hu
      split at hty
      · rename_i inf hi
        obtain ⟨z, hz⟩ := Option.isSome_iff_exists.1 hty
        have hr : (execOp (⟨t, []⟩ : Act).eval o).run P v = .ok (.comm #[{ chan := (⟨t, []⟩ : Act).eval ch, send := none, zero := z }] true (.recv ok)) v := by
          unfold execOp
          rw [hop]
          simp only [underlying, zeroValue, typeInfo, program, bind, Sem.bind, pure, Sem.run, hu, hi, hz]
        exact comm_lone (stepG_comm ho hwa hke hr) (ways_of hw (hρ ch hch) _ _)
      · cases hty
    · cases hty
end
end Go.Proofs.Ytmfglflahlddbaa.Sm
namespace Go.Proofs.Ytmfglflahlddbaa.Sm
open Go Go.Conc
set_option linter.unusedVariables false
set_option linter.unusedSimpArgs false
section
variable {P : Program} {Fs : FuncId → Bool} {R : BR}

/-- ONE STEP, FOLLOWED. -/
structure Followed (P : Program) (Fs : FuncId → Bool) (main : Bool) (R : BR) (fr fr' : Frame) (up up' bs : List Frame) (v w : World) : Prop where
  ex : ∃ fr1 up1 v1 R1 fr1' up1' w1 es, step P (lone fr (up ++ [trap]) v) = .next (lone fr1 (up1 ++ [trap]) v1) ∧
    stepG P main (G fr' (up' ++ bs)) w = .go (G fr1' (up1' ++ bs)) w1 es ∧ Stretch (FFs Fs) R R1 v v1 w w1 es ∧ FR P Fs R1 fr1 fr1' ∧ CsR P Fs R1 up1 up1' ∧
    ∀ (T : Tape) (d : Nat), (∀ j q, j < v1.drawn - v.drawn → T (d + j) q = v.tape (v.drawn + j) q) →
      step P (lone fr (up ++ [trap]) (rt v T d)) = .next (lone fr1 (up1 ++ [trap]) (rt v1 T (d + (v1.drawn - v.drawn))))

/-- A step that looks at no world. -/
theorem Followed.still {main : Bool} {fr fr' fr1 fr1' : Frame} {up up' bs up1 up1' : List Frame} {v w : World} (hw : WR (FFs Fs) R v w)
    (h : ∀ v, stepG P true (G fr (up ++ [trap])) v = .go (G fr1 (up1 ++ [trap])) v) (h' : stepG P main (G fr' (up' ++ bs)) w = .go (G fr1' (up1' ++ bs)) w) (hf : FR P Fs R fr1 fr1') (hc : CsR P Fs R up1 up1') : Followed P Fs main R fr fr' up up' bs v w :=
  ⟨⟨fr1, up1, v, R, fr1', up1', w, #[], step_G (h v), h', .refl hw, hf, hc, fun T d _ => by rw [step_G (h (rt v T d))]; simp⟩⟩

theorem exit_ok {id : Nat} : ∀ {k k' : List Item}, exitTo id k = some k' → k.all (okItem P Fs) = true → k'.all (okItem P Fs) = true := by
  intro k
  induction k with
  | nil => intro k' h; simp [exitTo] at h
  | cons x k ih =>
    intro k' h hk
    simp only [List.all_cons, Bool.and_eq_true] at hk
    unfold exitTo at h
    split at h
    · split at h
      · simp only [Option.some.injEq] at h; subst h; rename_i heq _; cases heq; exact hk.2
      · rename_i heq _; cases heq; exact ih h hk.2
    · rename_i heq; cases heq; exact ih h hk.2
    · rename_i heq; cases heq

theorem yield_eq {t t' : Array Value} (h : AVR (FFs Fs) R t t') (ops : Array Oper) (j : Nat) : yielded ops t' j = yielded ops t j := by
  unfold yielded
  cases (ops[j]?).bind (·.dst) with
  | none => rfl
  | some d =>
    simp only [Option.bind_some]
    cases e : t[d]? with
    | none => rw [h.none e]
    | some v =>
      obtain ⟨v', e', hv⟩ := h.get e
      rw [e']
      cases hv with
      | bot hb =>
        cases v' <;> first | rfl | exact absurd rfl (hb.2.2 _)
      | _ => rfl

theorem FR.mk' {fn : FuncId} {kind : CallKind} {t t' : Array Value} {todo : List Item} (hF : Fs fn = true) (hk : kind = .normal ∨ kind = .deferred) (ht : AVR (FFs Fs) R t t') (hi : todo.all (okItem P Fs) = true) :
    FR P Fs R ((B fn kind).at ⟨t, []⟩ todo) ((B fn kind).at ⟨t', []⟩ todo) := ⟨fn, t, t', todo, .run, kind, rfl, rfl, hF, hk, .inl rfl, ht, hi⟩
theorem FR.mka {fn : FuncId} {kind : CallKind} {a a' : Act} {todo : List Item} (hF : Fs fn = true) (hk : kind = .normal ∨ kind = .deferred) (hd : a.defers = []) (hd' : a'.defers = []) (ht : AVR (FFs Fs) R a.tmps a'.tmps) (hi : todo.all (okItem P Fs) = true) :
    FR P Fs R ((B fn kind).at a todo) ((B fn kind).at a' todo) := by
  obtain ⟨t, d⟩ := a
  obtain ⟨t', d'⟩ := a'
  simp only at hd hd' ht
  subst hd hd'
  exact FR.mk' hF hk ht hi
theorem FR.mkr {fn : FuncId} {kind : CallKind} {t t' : Array Value} {todo : List Item} (hF : Fs fn = true) (hk : kind = .normal ∨ kind = .deferred) (ht : AVR (FFs Fs) R t t') (hi : todo.all (okItem P Fs) = true) :
    FR P Fs R { (B fn kind).at ⟨t, []⟩ todo with mode := .returning } { (B fn kind).at ⟨t', []⟩ todo with mode := .returning } := ⟨fn, t, t', todo, .returning, kind, rfl, rfl, hF, hk, .inr rfl, ht, hi⟩

theorem Stretch.evs_sub {F : FuncId → Prop} {R R1 : BR} {v v1 w w1 : World} {es es' : Array Event} (h : Stretch F R R1 v v1 w w1 es) (hs : ∀ e ∈ es', e ∈ es) : Stretch F R R1 v v1 w w1 es' := { h with evs := fun e he => h.evs e (hs e he) }

theorem put_rel {t t' : Array Value} (h : AVR (FFs Fs) R t t') (d : Option Tmp) {v v' : Value} (hv : VR (FFs Fs) R v v') : AVR (FFs Fs) R ((⟨t, []⟩ : Act).put d v).tmps ((⟨t', []⟩ : Act).put d v').tmps ∧ ((⟨t, []⟩ : Act).put d v).defers = [] ∧ ((⟨t', []⟩ : Act).put d v').defers = [] := by
  cases d with
  | none => exact ⟨h, rfl, rfl⟩
  | some d => exact ⟨h.set d hv, rfl, rfl⟩

/-- An operation. -/
theorem oper_sim (hP : OkProg P Fs) {main : Bool} {fn : FuncId} {kind : CallKind} {t t' : Array Value} {ops : Array Oper} {i : Nat} {rest : List Nat} {k : List Item} {o : Oper} {up up' bs : List Frame} {v w : World}
    (hF : Fs fn = true) (hk : kind = .normal ∨ kind = .deferred) (ht : AVR (FFs Fs) R t t') (hi : (Item.inRegion ops (i :: rest) :: k).all (okItem P Fs) = true) (hcs : CsR P Fs R up up') (hw : WR (FFs Fs) R v w) (hag : ∀ n, Agr v w n)
    (ho : ops[i]? = some o) (hwa : Region.wanted o (yielded ops t) = true) :
    Doomed P (lone ((B fn kind).at ⟨t, []⟩ (.inRegion ops (i :: rest) :: k)) (up ++ [trap]) v) ∨
    Followed P Fs main R ((B fn kind).at ⟨t, []⟩ (.inRegion ops (i :: rest) :: k)) ((B fn kind).at ⟨t', []⟩ (.inRegion ops (i :: rest) :: k)) up up' bs v w := by
  have hwa' : Region.wanted o (yielded ops t') = true := by
    have : yielded ops t' = yielded ops t := funext (yield_eq ht ops)
    rw [this]; exact hwa
  have hke : (B fn kind).kind ≠ .early := by rcases hk with rfl | rfl <;> simp [B]
  have hi2 := hi
  simp only [List.all_cons, Bool.and_eq_true, okItem] at hi2
  have hoc : okOpC P Fs o.op = true := by
    obtain ⟨hlt, rfl⟩ := Array.getElem?_eq_some_iff.1 ho
    exact Array.all_eq_true.1 hi2.1 i hlt
  cases hoo : okOp P Fs o.op with
  | false => exact .inl (comm_doomed hk ht hw ho hwa (by unfold okOpC at hoc; rw [hoo] at hoc; simpa using hoc))
  | true =>
  have hρ : RhoR (FFs Fs) R Fs (⟨t, []⟩ : Act).eval (⟨t', []⟩ : Act).eval := by
    intro x hx
    cases x with
    | tmp i => exact ht.getD i
    | const v => exact plain_VR 64 v hx
    | global g => cases hx
    | func f => exact .func (f := f) hx rfl rfl (fun i h1 _ => by simp at h1) (fun i h1 _ => by simp at h1)
  have hsr := sr_execOp hP.has hP.glob hρ (fun x v e => by subst e; exact ⟨rfl, rfl⟩) o hoo
  have hfol := hsr.follows v w #[] hw (.inl hag)
  have hloc := fun x v1 hr => hsr.local v w hw x v1 hr
  cases hr : (execOp (⟨t, []⟩ : Act).eval o).run P v with
  | halt h v1 =>
    left
    rw [hr] at hfol
    have hfol : okHalt h := hfol
    have hst : stepG P true (G ((B fn kind).at ⟨t, []⟩ (.inRegion ops (i :: rest) :: k)) (up ++ [trap])) v = _ := stepG_oper ho hwa
    have hk' : ((B fn kind).kind == CallKind.early) = false := by simpa using hke
    cases h with
    | panic x =>
      have e : ∃ es, stepG P true (G ((B fn kind).at ⟨t, []⟩ (.inRegion ops (i :: rest) :: k)) (up ++ [trap])) v = .go (G (((B fn kind).at ⟨t, []⟩ (.inRegion ops (i :: rest) :: k)).raise [{ v := x, recovered := false }]) (up ++ [trap])) v1 es := by
        rw [hst]; exact ⟨_, by simp [stepG.apply, hr, GStep.after, G]; rfl⟩
      obtain ⟨es, e⟩ := e
      obtain ⟨⟨ch, h1⟩, h2⟩ := raise_panic ((B fn kind).at ⟨t, []⟩ (.inRegion ops (i :: rest) :: k)) [{ v := x, recovered := false }]
      exact Doomed.of_next (step_G e) (not_fit_panic h1 _ _) (doomed_panic up (CsR.noDefers hcs) _ ch v1 h1 (h2.trans rfl))
    | stuck why => exact doomed_ended (step_Ge (by rw [hst]; simp [stepG.apply, hr, GStep.after]; exact ⟨rfl, rfl, rfl⟩))
    | unsupported u => cases u <;> first | exact hfol.elim | exact doomed_ended (step_Ge (by rw [hst]; simp [stepG.apply, hr, GStep.after]; exact ⟨rfl, rfl, rfl⟩))
    | _ => exact hfol.elim
  | ok x v1 =>
    right
    rw [hr] at hfol
    obtain ⟨R1, x', w1, es, hrun, hst, hx⟩ := hfol
    have hrun' : (execOp (⟨t', []⟩ : Act).eval o).run P w = .ok x' w1 := by have := congrArg Prod.fst hrun; rwa [Sem.runT_fst] at this
    have hev : (execOp (⟨t', []⟩ : Act).eval o).events P w #[] = es := by
      have := congrArg Prod.snd hrun
      rw [Array.empty_append] at this
      exact this
    have hst' := hst.evs_sub (es' := listed P fn ⟨t', []⟩ o w) fun e he => by have := mem_listed he; rwa [hev] at this
    have l := hloc x v1 hr
    cases hx with
    | value hv =>
      obtain ⟨p1, p2, p3⟩ := put_rel (ht.mono hst.ext) o.dst hv
      refine ⟨⟨_, up, v1, R1, _, up', w1, _, step_G (stepG_value ho hwa hke hr), stepG_value ho hwa' hke hrun', hst', ?_, hcs.mono hst.ext, fun T d hT => step_G (stepG_value ho hwa hke (l T d hT))⟩⟩
      exact FR.mka hF hk p2 p3 p1 (by simpa [okItem] using hi)
    | skip =>
      obtain ⟨p1, p2, p3⟩ := put_rel (ht.mono hst.ext) o.dst (VR.undef (F := FFs Fs) (R := R1))
      refine ⟨⟨_, up, v1, R1, _, up', w1, _, step_G (stepG_none ho hwa hke hr), stepG_none ho hwa' hke hrun', hst', ?_, hcs.mono hst.ext, fun T d hT => step_G (stepG_none ho hwa hke (l T d hT))⟩⟩
      exact FR.mka hF hk p2 p3 p1 (by simpa [okItem] using hi)
    | enter hf ha =>
      refine ⟨⟨_, _ :: up, v1, R1, _, _ :: up', w1, _, step_G (stepG_enter ho hwa hke hr), stepG_enter ho hwa' hke hrun', hst', FR.enter hP hf ha, ⟨FR.mk' hF hk (ht.mono hst.ext) hi, hcs.mono hst.ext⟩, fun T d hT => step_G (stepG_enter ho hwa hke (l T d hT))⟩⟩

/-! ### a return -/
theorem sr_mapM {F : FuncId → Prop} {f g : ResultVar → Sem Value} : ∀ (l : List ResultVar) {R : BR}, (∀ R1, (∀ b c, R b c → R1 b c) → ∀ x, V P F R1 (f x) (g x)) → SR P F (fun R a a' => LVR F R a a') R (l.mapM f) (l.mapM g) := by
  intro l
  induction l with
  | nil => intro R h; exact sr_pure trivial
  | cons x l ih =>
    intro R h
    rw [List.mapM_cons, List.mapM_cons]
    refine sr_bind _ (h R (fun _ _ x => x) x) fun R1 h1 v v' hv => ?_
    refine sr_bind _ (ih fun R2 h2 y => h R2 (fun _ _ z => h2 _ _ (h1 _ _ z)) y) fun R2 h2 vs vs' hvs => ?_
    exact sr_pure ⟨hv.mono h2, hvs⟩

theorem LVR.arr {F : FuncId → Prop} : ∀ {l l' : List Value}, LVR F R l l' → AVR F R l.toArray l'.toArray
  | [], [], _ => .nil
  | v :: l, v' :: l', ⟨h1, h2⟩ => by
    have h3 := LVR.arr h2
    refine .of_get (by simpa using h3.1) fun i u hu => ?_
    cases i with
    | zero => simp only [List.getElem?_toArray, List.getElem?_cons_zero, Option.some.injEq] at hu ⊢; subst hu; exact ⟨v', rfl, h1⟩
    | succ i =>
      simp only [List.getElem?_toArray, List.getElem?_cons_succ] at hu ⊢
      have := h3.get (i := i) (v := u) (by simpa using hu)
      simpa using this

theorem dead_asAddr_none {α : Type} (k : Addr → Sem α) : Dead P (asAddr (.pointer none) >>= k) := Dead.bind dead_nil _
theorem sr_results {F : FuncId → Prop} (fn : Func) {t t' : Array Value} (ht : AVR F R t t') : V P F R (results fn t) (results fn t') := by
  unfold results
  rw [Array.mapM_eq_mapM_toList, Array.mapM_eq_mapM_toList]
  have one : ∀ R1, (∀ b c, R b c → R1 b c) → ∀ x : ResultVar, V P F R1 (match x with | .tmp i => pure (t.getD i undef) | .cell a ty => do loadVar ty (← asAddr (t.getD a undef))) (match x with | .tmp i => pure (t'.getD i undef) | .cell a ty => do loadVar ty (← asAddr (t'.getD a undef))) := by
    intro R1 h1 x
    cases x with
    | tmp i => exact sr_pure ((ht.mono h1).getD i)
    | cell a ty =>
      have hv := (ht.mono h1).getD a
      dsimp only
      generalize t.getD a undef = v at hv
      generalize t'.getD a undef = v' at hv
      cases hv with
      | pointer ha => exact sr_loadVar ty ha
      | bot _ => exact .dead (dead_asAddr_none _)
      | _ => exact sr_stuckb _ _ _
  refine sr_bind (AVR F) ?_ fun R1 h1 vs vs' hvs => ?_
  · rw [← bind_pure_comp, ← bind_pure_comp]
    refine sr_bind _ (sr_mapM fn.results.toList one) fun R2 h2 l l' hl => sr_pure hl.arr
  · have hs := hvs.1
    by_cases h : vs.size = 1
    · have h' : vs'.size = 1 := hs ▸ h
      rw [dif_pos h, dif_pos h']
      exact sr_pure (hvs.2 0 (by omega) (by omega))
    · have h' : ¬ vs'.size = 1 := hs ▸ h
      rw [dif_neg h, dif_neg h']
      exact sr_pure (.tupleOf hvs)
end
end Go.Proofs.Ytmfglflahlddbaa.Sm
namespace Go.Proofs.Ytmfglflahlddbaa.Sm
open Go Go.Conc
set_option linter.unusedVariables false
set_option linter.unusedSimpArgs false
section
variable {P : Program} {Fs : FuncId → Bool} {R : BR}

theorem stepG_return {main : Bool} {fn : FuncId} {kind : CallKind} {t : Array Value} {todo : List Item} {cs : List Frame} {w w1 : World} {f : Func} {x : Value} {es : Array Event} (hf : P.funcs[fn]? = some f) (hr : (results f t).runT P w #[] = (.ok x w1, es)) :
    stepG P main (G { (B fn kind).at ⟨t, []⟩ todo with mode := .returning } cs) w = GStep.after (seen P fn es) (doReturn P main { (B fn kind).at ⟨t, []⟩ todo with mode := .returning } cs none x w1) := by
  simp only [G, stepG, unwind, Frame.at, B, hf]
  rw [hr]

theorem doReturn_normal {main : Bool} {fn : FuncId} {t : Array Value} {todo : List Item} {c : Frame} {cs : List Frame} {w : World} {x : Value} :
    doReturn P main { (B fn .normal).at ⟨t, []⟩ todo with mode := .returning } (c :: cs) none x w = .go (G (c.finish x) cs) w := rfl
theorem doReturn_deferred {main : Bool} {fn : FuncId} {t : Array Value} {todo : List Item} {c : Frame} {cs : List Frame} {w : World} {x : Value} (hc : c.mode = .run ∨ c.mode = .returning) :
    doReturn P main { (B fn .deferred).at ⟨t, []⟩ todo with mode := .returning } (c :: cs) none x w = .go (G c cs) w := by
  unfold doReturn
  simp only [B, Frame.at]
  rcases hc with hc | hc <;> rw [hc] <;> rfl

theorem FR.mode {fr fr' : Frame} (h : FR P Fs R fr fr') : (fr.mode = .run ∨ fr.mode = .returning) ∧ (fr'.mode = .run ∨ fr'.mode = .returning) := by
  obtain ⟨fn, t, t', todo, mode, kind, rfl, rfl, h3, h4, h5, h6, h7⟩ := h
  exact ⟨h5, h5⟩

/-- Where a return goes on. -/
def back (kind : CallKind) (c : Frame) (x : Value) : Frame := match kind with
  | .deferred => c
  | _ => c.finish x

theorem ret_sim (hP : OkProg P Fs) {main : Bool} {fn : FuncId} {kind : CallKind} {t t' : Array Value} {todo : List Item} {up up' bs : List Frame} {v w : World}
    (hF : Fs fn = true) (hk : kind = .normal ∨ kind = .deferred) (ht : AVR (FFs Fs) R t t') (hcs : CsR P Fs R up up') (hw : WR (FFs Fs) R v w) (hag : ∀ n, Agr v w n) :
    Doomed P (lone { (B fn kind).at ⟨t, []⟩ todo with mode := .returning } (up ++ [trap]) v) ∨
    Followed P Fs main R { (B fn kind).at ⟨t, []⟩ todo with mode := .returning } { (B fn kind).at ⟨t', []⟩ todo with mode := .returning } up up' bs v w := by
  obtain ⟨f, c, hf, hname, hbody, hcode⟩ := hP.body fn hF
  have hsr := sr_results (P := P) (F := FFs Fs) f ht
  have hfol := hsr.follows v w #[] hw (.inl hag)
  have hloc := fun x v1 hr => hsr.local v w hw x v1 hr
  cases hr : (results f t).run P v with
  | halt h v1 =>
    left
    have hrT : ∃ es, (results f t).runT P v #[] = (.halt h v1, es) := ⟨((results f t).runT P v #[]).2, by
      have := Sem.runT_fst P (results f t) v #[]
      rw [hr] at this
      exact Prod.ext this rfl⟩
    obtain ⟨es, hrT⟩ := hrT
    have e : ∃ o es', stepG P true (G { (B fn kind).at ⟨t, []⟩ todo with mode := .returning } (up ++ [trap])) v = .ended o v1 es' := by
      simp only [G, stepG, unwind, Frame.at, B, hf]
      rw [hrT]
      cases h <;> exact ⟨_, _, rfl⟩
    obtain ⟨o, es', e⟩ := e
    exact doomed_ended (step_Ge e)
  | ok x v1 =>
    rw [hr] at hfol
    obtain ⟨R1, x', w1, es, hrun, hst, hx⟩ := hfol
    rw [Array.empty_append] at hrun
    have runT : ∀ {x : Value} {v v1 : World}, (results f t).run P v = .ok x v1 → ∃ es, (results f t).runT P v #[] = (.ok x v1, es) := fun {x v v1} hr => ⟨((results f t).runT P v #[]).2, by
      have := Sem.runT_fst P (results f t) v #[]
      rw [hr] at this
      exact Prod.ext this rfl⟩
    have hst' := hst.evs_sub (es' := seen P fn es) fun e he => mem_seen he
    have l := hloc x v1 hr
    cases up with
    | nil =>
      left
      obtain ⟨esv, hrv⟩ := runT hr
      have e := stepG_return (P := P) (main := true) (kind := kind) (todo := todo) (cs := [] ++ [trap]) hf hrv
      have e2 : ∃ es, stepG P true (G { (B fn kind).at ⟨t, []⟩ todo with mode := .returning } ([] ++ [trap])) v = .go (G trap []) v1 es := by
        rw [e]
        rcases hk with rfl | rfl
        · exact ⟨_, by rw [show ([] ++ [trap] : List Frame) = trap :: [] from rfl, doReturn_normal]; rfl⟩
        · exact ⟨_, by rw [show ([] ++ [trap] : List Frame) = trap :: [] from rfl, doReturn_deferred (.inl rfl)]; rfl⟩
      obtain ⟨es2, e2⟩ := e2
      exact Doomed.of_next (step_G e2) (doomed_trap (P := P) _ _).1 (doomed_trap _ _).2
    | cons c up =>
      cases up' with
      | nil => exact hcs.elim
      | cons c' up' =>
        right
        obtain ⟨hc, hcs⟩ := hcs
        have step : ∀ {x : Value} {v v1 : World}, (results f t).run P v = .ok x v1 → step P (lone { (B fn kind).at ⟨t, []⟩ todo with mode := .returning } (c :: up ++ [trap]) v) = .next (lone (back kind c x) (up ++ [trap]) v1) := by
          intro x v v1 hr
          obtain ⟨esv, hrv⟩ := runT hr
          have e := stepG_return (P := P) (main := true) (kind := kind) (todo := todo) (cs := c :: up ++ [trap]) hf hrv
          rcases hk with rfl | rfl
          · rw [show (c :: up ++ [trap] : List Frame) = c :: (up ++ [trap]) from rfl, doReturn_normal] at e
            exact step_G e
          · rw [show (c :: up ++ [trap] : List Frame) = c :: (up ++ [trap]) from rfl, doReturn_deferred hc.mode.1] at e
            exact step_G e
        have e' := stepG_return (P := P) (main := main) (kind := kind) (todo := todo) (cs := c' :: up' ++ bs) hf hrun
        have e2' : stepG P main (G { (B fn kind).at ⟨t', []⟩ todo with mode := .returning } (c' :: up' ++ bs)) w = .go (G (back kind c' x') (up' ++ bs)) w1 (seen P fn es) := by
          rcases hk with rfl | rfl
          · rw [show (c' :: up' ++ bs : List Frame) = c' :: (up' ++ bs) from rfl, doReturn_normal] at e'
            rw [show (c' :: up' ++ bs : List Frame) = c' :: (up' ++ bs) from rfl, e']
            simp [GStep.after, back]
          · rw [show (c' :: up' ++ bs : List Frame) = c' :: (up' ++ bs) from rfl, doReturn_deferred hc.mode.2] at e'
            rw [show (c' :: up' ++ bs : List Frame) = c' :: (up' ++ bs) from rfl, e']
            simp [GStep.after, back]
        refine ⟨⟨_, up, v1, R1, _, up', w1, _, step hr, e2', hst', ?_, hcs.mono hst.ext, fun T d hT => step (l T d hT)⟩⟩
        rcases hk with rfl | rfl
        · exact (hc.mono hst.ext).finish hx
        · exact hc.mono hst.ext

/-- EVERY STEP. -/
theorem step_sim (hP : OkProg P Fs) {main : Bool} {fr fr' : Frame} {up up' bs : List Frame} {v w : World} (hfr : FR P Fs R fr fr') (hcs : CsR P Fs R up up') (hw : WR (FFs Fs) R v w) (hag : ∀ n, Agr v w n) :
    Doomed P (lone fr (up ++ [trap]) v) ∨ Followed P Fs main R fr fr' up up' bs v w := by
  obtain ⟨fn, t, t', todo, mode, kind, rfl, rfl, hF, hk, hm, ht, hi⟩ := hfr
  rcases hm with rfl | rfl
  · have b1 : ({ fn := fn, tmps := t, todo := todo, defers := [], mode := .run, kind := kind, roundOf := none } : Frame) = (B fn kind).at ⟨t, []⟩ todo := rfl
    have b2 : ({ fn := fn, tmps := t', todo := todo, defers := [], mode := .run, kind := kind, roundOf := none } : Frame) = (B fn kind).at ⟨t', []⟩ todo := rfl
    rw [b1, b2]
    have still : ∀ {todo1 : List Item}, (∀ (main : Bool) (t : Array Value) (cs : List Frame) (v : World), stepG P main (G ((B fn kind).at ⟨t, []⟩ todo) cs) v = .go (G ((B fn kind).at ⟨t, []⟩ todo1) cs) v) → todo1.all (okItem P Fs) = true →
        Followed P Fs main R ((B fn kind).at ⟨t, []⟩ todo) ((B fn kind).at ⟨t', []⟩ todo) up up' bs v w := fun h h1 =>
      Followed.still hw (fun v => h true t _ v) (h main t' _ w) (FR.mk' hF hk ht h1) hcs
    have toRet : (∀ (main : Bool) (t : Array Value) (cs : List Frame) (v : World), stepG P main (G ((B fn kind).at ⟨t, []⟩ todo) cs) v = .go (G { (B fn kind).at ⟨t, []⟩ todo with mode := .returning } cs) v) →
        Followed P Fs main R ((B fn kind).at ⟨t, []⟩ todo) ((B fn kind).at ⟨t', []⟩ todo) up up' bs v w := fun h =>
      Followed.still hw (fun v => h true t _ v) (h main t' _ w) (FR.mkr hF hk ht hi) hcs
    cases todo with
    | nil => exact .inr (toRet fun main t cs v => stepG_end)
    | cons x k =>
      have hi2 := hi
      simp only [List.all_cons, Bool.and_eq_true] at hi2
      obtain ⟨hx, hkk⟩ := hi2
      cases x with
      | inBlock id => exact .inr (still (fun main t cs v => stepG_inBlock) hkk)
      | inLoop c => exact .inr (still (fun main t cs v => stepG_inLoop) (by simp only [List.all_cons, Bool.and_eq_true]; exact ⟨hx, hx, hkk⟩))
      | inRegion ops todo =>
        cases todo with
        | nil => exact .inr (still (fun main t cs v => stepG_region_end) hkk)
        | cons i rest =>
          have hr2 : (Item.inRegion ops rest :: k).all (okItem P Fs) = true := by simp only [List.all_cons, Bool.and_eq_true]; exact ⟨hx, hkk⟩
          cases ho : ops[i]? with
          | none =>
            exact .inr (still (todo1 := .inRegion ops rest :: k) (fun main t cs v => by simp [G, stepG, stepG.exec, Frame.at, ho, Frame.finish]) hr2)
          | some o =>
            cases hwa : Region.wanted o (yielded ops t) with
            | true => exact oper_sim hP hF hk ht hi hcs hw hag ho hwa
            | false =>
              have hwa' : Region.wanted o (yielded ops t') = false := by
                have : yielded ops t' = yielded ops t := funext (yield_eq ht ops)
                rw [this]; exact hwa
              obtain ⟨p1, p2, p3⟩ := put_rel ht o.dst (VR.undef (F := FFs Fs) (R := R))
              exact .inr (Followed.still hw (fun v => stepG_unwanted ho hwa) (stepG_unwanted ho hwa') (FR.mka hF hk p2 p3 p1 hr2) hcs)
      | code c =>
        have hx : okCode P Fs c = true := hx
        cases c with
        | skip => exact .inr (still (fun main t cs v => stepG_skip) hkk)
        | label l => exact .inr (still (fun main t cs v => stepG_label) hkk)
        | ret => exact .inr (toRet fun main t cs v => stepG_ret')
        | seq a b =>
          simp only [okCode, Bool.and_eq_true] at hx
          exact .inr (still (fun main t cs v => stepG_seq) (by simp only [List.all_cons, Bool.and_eq_true, okItem]; exact ⟨hx.1, hx.2, hkk⟩))
        | block id b => exact .inr (still (fun main t cs v => stepG_block) (by simp only [List.all_cons, Bool.and_eq_true, okItem]; exact ⟨hx, trivial, hkk⟩))
        | loop b => exact .inr (still (fun main t cs v => stepG_loop) (by simp only [List.all_cons, Bool.and_eq_true, okItem]; exact ⟨hx, hx, hkk⟩))
        | exit id =>
          cases he : exitTo id k with
          | some k' => exact .inr (still (fun main t cs v => stepG_exit he) (exit_ok he hkk))
          | none =>
            left
            exact doomed_ended (step_Ge (es := #[]) (o := .stuck "exit, goto: no such block or label" (((B fn kind).at ⟨t, []⟩ (.code (.exit id) :: k)).pos P)) (v1 := v) (by simp [G, stepG, stepG.exec, Frame.at, he]))
        | cond c x y =>
          simp only [okCode, Bool.and_eq_true] at hx
          have hρ : VR (FFs Fs) R ((⟨t, []⟩ : Act).eval c) ((⟨t', []⟩ : Act).eval c) := (FR.rho (FR.mk' hF hk ht hi)) c hx.1.1
          cases hb : (⟨t, []⟩ : Act).eval c with
          | bool b =>
            rw [hb] at hρ
            have hb' : (⟨t', []⟩ : Act).eval c = .bool b := by generalize (⟨t', []⟩ : Act).eval c = z at hρ; cases hρ; rfl
            refine .inr (Followed.still hw (fun v => stepG_cond hb) (stepG_cond hb') (FR.mk' hF hk ht ?_) hcs)
            simp only [List.all_cons, Bool.and_eq_true, okItem]
            cases b
            · exact ⟨hx.2, hkk⟩
            · exact ⟨hx.1.2, hkk⟩
          | _ =>
            left
            have h' : ((B fn kind).at ⟨t, []⟩ (.code (.cond c x y) :: k)).eval c = _ := (Frame.eval_at _ _ _ _).trans hb
            simp only [Frame.at, B] at h'
            exact doomed_ended (step_Ge (es := #[]) (o := .stuck "cond: bool expected" (((B fn kind).at ⟨t, []⟩ (.code (.cond c x y) :: k)).pos P)) (v1 := v) (by simp [G, stepG, stepG.exec, Frame.at, B, h']))
        | region id ops draw =>
          have hr2 : ∀ l, (Item.inRegion ops l :: k).all (okItem P Fs) = true := fun l => by simp only [List.all_cons, Bool.and_eq_true]; exact ⟨hx, hkk⟩
          cases draw with
          | false => exact .inr (still (fun main t cs v => stepG_region) (hr2 _))
          | true =>
            right
            have e0 : w.tape w.drawn (.order fn id) = v.tape v.drawn (.order fn id) := hag 1 0 _ (by omega)
            have hst : Stretch (FFs Fs) R R v { v with drawn := v.drawn + 1 } w { w with drawn := w.drawn + 1 } #[] :=
              ⟨fun _ _ x => x, fun _ _ x => .inl x, ⟨hw.obj, hw.fn, hw.inj⟩, Nat.le_succ _, by simp only []; omega, rfl, rfl, rfl, rfl, ⟨Nat.le_refl _, fun b c el fz h => ⟨c, h, rfl, fun _ _ => rfl⟩, fun b o h n => ⟨o, h, n, .inl rfl⟩⟩, ⟨Nat.le_refl _, fun _ _ _ => rfl, fun c x el fz hx => ⟨x, hx, rfl, fun _ => .inl rfl⟩⟩, by simp, fun _ _ _ _ h _ => .inl h⟩
            refine ⟨⟨_, up, _, R, _, up', _, #[], step_G stepG_region_draw, stepG_region_draw, hst, ?_, hcs, fun T d hT => ?_⟩⟩
            · rw [show (B fn kind).fn = fn from rfl, e0]
              exact FR.mk' hF hk ht (hr2 _)
            · have e1 : T d (.order fn id) = v.tape v.drawn (.order fn id) := hT 0 _ (by simp)
              refine (step_G stepG_region_draw).trans ?_
              simp only [rt, show (B fn kind).fn = fn from rfl, e1]
              simp
        | _ => cases hx
      | _ => cases hx
  · exact ret_sim hP hF hk ht hcs hw hag
end
end Go.Proofs.Ytmfglflahlddbaa.Sm
