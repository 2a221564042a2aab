/-
  THE SIMULATION: small laws of steps; a go statement, a send, a receive are no steps that a lone machine lives through.
-/
import Derived.Test.YtneclhkpgalnlaaSmh
import Derived.Conc.CrowdComm
import Derived.Conc.Own2
import Derived.Lone
namespace Go.Proofs.Ytneclhkpgalnlaa.Sm
open Go Go.Conc
set_option linter.unusedVariables false
set_option linter.unusedSimpArgs false
section
variable {P : Program} {Fs : FuncId → Bool} {R : BR}

theorem step_G {fr fr1 : Frame} {cs cs1 : List Frame} {v v1 : World} {es : Array Event} (h : stepG P true (G fr cs) v = .go (G fr1 cs1) v1 es) : step P (lone fr cs v) = .next (lone fr1 cs1 v1) :=
  step_lone_go (by
    show (stepG P true (G fr cs) v).bare = _
    rw [h]; rfl)
theorem step_Ge {fr : Frame} {cs : List Frame} {v v1 : World} {o : Outcome} {es : Array Event} (h : stepG P true (G fr cs) v = .ended o v1 es) : step P (lone fr cs v) = .ended o v1 :=
  step_lone_ended (by
    show (stepG P true (G fr cs) v).bare = _
    rw [h]; rfl)

theorem fit_lone {fr : Frame} {cs : List Frame} {v : World} (h : Fit (lone fr cs v)) : OkFr fr := by
  obtain ⟨fr1, up, v1, e, ho⟩ := h
  obtain ⟨rfl, _, _⟩ := lone_frame e
  exact ho
theorem not_fit_panic {fr : Frame} {chain : List PanicEntry} (hm : fr.mode = .panicking chain) (cs : List Frame) (v : World) : ¬ Fit (lone fr cs v) := fun h => by
  have := (fit_lone h).2
  rw [hm] at this
  rcases this with h | h <;> cases h

theorem doomed_trap (cs : List Frame) (v : World) : ¬ Fit (lone trap cs v) ∧ Doomed P (lone trap cs v) :=
  ⟨fun h => trap_not_ok (fit_lone h), let ⟨_, _, e⟩ := step_trap (P := P) cs v; doomed_ended e⟩

theorem raise_panic (fr : Frame) (chain : List PanicEntry) : (∃ chain', (fr.raise chain).mode = .panicking chain') ∧ (fr.raise chain).defers = fr.defers := by
  unfold Frame.raise
  split <;> exact ⟨⟨_, rfl⟩, rfl⟩

theorem doomed_panic : ∀ (up : List Frame), (∀ c ∈ up, c.defers = []) → ∀ (fr : Frame) (chain : List PanicEntry) (v : World), fr.mode = .panicking chain → fr.defers = [] → Doomed P (lone fr (up ++ [trap]) v) := by
  intro up
  induction up with
  | nil =>
    intro _ fr chain v hm hd
    by_cases hc : fr.catches P = true
    · exact doomed_ended (step_Ge (es := #[]) (by simp [G, stepG, unwind, hm, hd, hc]; exact ⟨rfl, rfl⟩))
    · have e : step P (lone fr ([] ++ [trap]) v) = .next (lone { trap with mode := .panicking chain } [] v) := step_G (es := #[]) (by simp [G, stepG, unwind, hm, hd, hc, Frame.raise, trap])
      obtain ⟨_, _, e2⟩ := trap_panic (P := P) chain [] v
      exact Doomed.of_next e (not_fit_panic rfl _ _) (doomed_ended e2)
  | cons c up ih =>
    intro hup fr chain v hm hd
    by_cases hc : fr.catches P = true
    · exact doomed_ended (step_Ge (es := #[]) (by simp [G, stepG, unwind, hm, hd, hc]; exact ⟨rfl, rfl⟩))
    · have e : step P (lone fr (c :: up ++ [trap]) v) = .next (lone (c.raise chain) (up ++ [trap]) v) := step_G (es := #[]) (by simp [G, stepG, unwind, hm, hd, hc])
      obtain ⟨⟨ch, h1⟩, h2⟩ := raise_panic c chain
      exact Doomed.of_next e (not_fit_panic h1 _ _) (ih (fun x hx => hup x (by simp [hx])) _ ch v h1 (h2.trans (hup c (by simp))))

theorem CsR.noDefers : ∀ {l l' : List Frame}, CsR P Fs R l l' → ∀ c ∈ l, c.defers = []
  | a :: as, b :: bs, h, c, hc => by
    obtain ⟨h1, h2⟩ := h
    rcases List.mem_cons.1 hc with rfl | hc
    · obtain ⟨_, _, _, _, _, _, rfl, _⟩ := h1; rfl
    · exact CsR.noDefers h2 c hc
  | [], _, _, c, hc => by simp at hc

def B (fn : FuncId) (kind : CallKind) : Frame := { (default : Frame) with fn := fn, kind := kind }


theorem runN_size (n : Nat) : ∀ (m m' : Machine), runN P n m = .next m' → m.gs.size ≤ m'.gs.size := by
  induction n with
  | zero => intro m m' h; simp only [runN, Stepped.next.injEq] at h; rw [h]; exact Nat.le_refl _
  | succ n ih =>
    intro m m' h
    simp only [runN] at h
    cases hs : step P m with
    | next m1 => rw [hs] at h; exact Nat.le_trans (stepT_size P m m1 true hs) (ih m1 m' h)
    | ended o w => rw [hs] at h; cases h

theorem doomed_many {m m1 : Machine} (h : step P m = .next m1) (h2 : 2 ≤ m1.gs.size) : Doomed P m := fun n m' hn hf => by
  simp only [runN, h] at hn
  have h3 := runN_size n m1 m' hn
  obtain ⟨fr, up, v, rfl, _⟩ := hf
  simp [lone] at h3
  omega

theorem doomed_spawn {fr : Frame} {cs : List Frame} {v v1 : World} {a child : Goroutine} {es : Array Event} (h : stepG P true (G fr cs) v = .spawn a child v1 es) : Doomed P (lone fr cs v) := by
  have h1 : step P (lone fr cs v) = .next (duo a child v1 none) := by
    have : stepT P (solo (G fr cs) v) = runT P (solo (G fr cs) v) 0 := stepT_solo rfl
    show (stepT P (solo (G fr cs) v)).1 = _
    rw [this, runT_solo_spawn h]
  exact doomed_many h1 (by simp [duo])

theorem step_asleep {g : Goroutine} (hg : g.status = .blocked) (v : World) : ∃ o w, step P (crowd #[g] v none) = .ended o w := by
  have hr : runnable #[g] v.os.mono = [] := by simp [runnable_eq, Goroutine.canRun, hg, List.range_succ]
  have ha : ∀ b, ahead { world := v, gs := #[g], rest := { timers := #[], alone := none, slice := none } } b = none := by intro b; cases b <;> simp [ahead, hg]
  have key : ∃ o w ops, ask P { world := v, gs := #[g], rest := { timers := #[], alone := none, slice := none } } = .machine (.ended o w) ops := by
    simp only [ask, askOn, hr, due, ha]
    simp [pure, Sem.run, hg, ha]
    split <;> exact ⟨_, _, _, rfl⟩
  obtain ⟨o, w, ops, key⟩ := key
  exact ⟨o, w, by simp [step, stepT, move, crowd, key]⟩

theorem comm_lone {fr : Frame} {cs : List Frame} {v : World} {c : CommCase} {shape : CommShape} {es : Array Event} (h : stepG P true (G fr cs) v = .comm (G fr cs) #[c] true shape v es)
    (hc : illMade v c = true ∨ NoWays v #[ph] c) : Doomed P (lone fr cs v) := by
  have e0 : lone fr cs v = crowd #[G fr cs] v none := rfl
  have hst : step P (lone fr cs v) = (runT P (crowd #[G fr cs] v none) 0).1 := by
    have : stepT P (solo (G fr cs) v) = runT P (solo (G fr cs) v) 0 := stepT_solo rfl
    show (stepT P (solo (G fr cs) v)).1 = _
    rw [this]; rfl
  have hset : (#[G fr cs] : Array Goroutine).setIfInBounds 0 ph = #[ph] := rfl
  rcases hc with hc | hc
  · have : ∃ o w, (runT P (crowd #[G fr cs] v none) 0).1 = .ended o w := by
      rw [runT_crowd_comm (i := 0) rfl h]
      unfold communicate
      rw [if_pos]
      · exact ⟨_, _, rfl⟩
      · exact (show (#[c] : Array CommCase).any (illMade v) = true by simp [hc])
    obtain ⟨o, w, e⟩ := this
    exact doomed_ended (hst.trans e)
  · have hw := crowd_waits (P := P) (gs := #[G fr cs]) (sl := none) (i := 0) (cases := #[c]) rfl h (fun cc hcc => by
      simp only [List.mem_toArray, List.mem_cons, List.not_mem_nil, or_false] at hcc
      subst hcc
      rw [hset]; exact hc)
    rw [hw] at hst
    have e1 : (#[G fr cs] : Array Goroutine).setIfInBounds 0 (parked (G fr cs) #[c] shape) = #[parked (G fr cs) #[c] shape] := rfl
    rw [e1] at hst
    obtain ⟨o, w, e2⟩ := step_asleep (P := P) (g := parked (G fr cs) #[c] shape) rfl v
    refine Doomed.of_next hst (fun hf => ?_) (doomed_ended e2)
    obtain ⟨fr1, up1, v1, e3, _⟩ := hf
    unfold crowd lone parked at e3
    simp at e3

theorem ways_of {v w : World} {F : FuncId → Prop} (hw : WR F R v w) {x x' : Value} (hx : VR F R x x') (s : Option Value) (z : Value) : illMade v { chan := x, send := s, zero := z } = true ∨ NoWays v #[ph] { chan := x, send := s, zero := z } := by
  have hp : ∀ c b, partners #[ph] c b = [] := fun c b => partners_nil fun j g hj => by
    cases j with
    | zero => simp only [List.getElem?_toArray, List.getElem?_cons_zero, Option.some.injEq] at hj; subst hj; rfl
    | succ j => simp at hj
  cases hx with
  | chanNone => exact .inr (ways_nil s)
  | @chan r r' hr =>
    obtain ⟨o, o', ho, ho', hOR⟩ := hw.obj r r' hr
    cases hOR with
    | chan s1 s2 tm =>
      right
      cases s with
      | none => exact ways_recv_none ho (hp _ _)
      | some x => exact ways_send_none ho (Nat.le_refl _) (hp _ _)
    | cells => left; simp [illMade, ho]
    | map => left; simp [illMade, ho]
    | number => left; simp [illMade, ho]
  | _ => left; simp [illMade]

theorem stepG_stuck {b : Frame} {a : Act} {k : List Item} {cs : List Frame} {ops : Array Oper} {i : Nat} {rest : List Nat} {o : Oper} {v v1 : World} {h : Halt} (ho : ops[i]? = some o) (hwa : Region.wanted o (yielded ops a.tmps) = true)
    (hr : (execOp a.eval o).run P v = .halt h v1) (hh : (∃ why, h = .stuck why) ∨ ∃ u, h = .unsupported u ∧ okHalt (.unsupported u)) : Doomed P (lone (b.at a (.inRegion ops (i :: rest) :: k)) cs v) := by
  have hst : stepG P true (G (b.at a (.inRegion ops (i :: rest) :: k)) cs) v = _ := stepG_oper ho hwa
  rcases hh with ⟨why, rfl⟩ | ⟨u, rfl, hu⟩
  · exact doomed_ended (step_Ge (by rw [hst]; simp [stepG.apply, hr, GStep.after]; exact ⟨rfl, rfl, rfl⟩))
  · cases u <;> first | exact hu.elim | exact doomed_ended (step_Ge (by rw [hst]; simp [stepG.apply, hr, GStep.after]; exact ⟨rfl, rfl, rfl⟩))

theorem comm_doomed {fn : FuncId} {kind : CallKind} {t t' : Array Value} {ops : Array Oper} {i : Nat} {rest : List Nat} {k : List Item} {o : Oper} {up : List Frame} {v w : World}
    (hk : kind = .normal ∨ kind = .deferred) (ht : AVR (FFs Fs) R t t') (hw : WR (FFs Fs) R v w) (ho : ops[i]? = some o) (hwa : Region.wanted o (yielded ops t) = true) (hc : isComm P Fs o.op = true) :
    Doomed P (lone ((B fn kind).at ⟨t, []⟩ (.inRegion ops (i :: rest) :: k)) (up ++ [trap]) v) := by
  have hke : (B fn kind).kind ≠ .early := by rcases hk with rfl | rfl <;> simp [B]
  have hρ : RhoR (FFs Fs) R Fs (⟨t, []⟩ : Act).eval (⟨t', []⟩ : Act).eval := by
    intro x hx
    cases x with
    | tmp i => exact ht.getD i
    | const v => exact plain_VR 64 v hx
    | global g => cases hx
    | func f => exact .func (f := f) hx rfl rfl (fun i h1 _ => by simp at h1) (fun i h1 _ => by simp at h1)
  unfold isComm at hc
  cases hop : o.op <;> rw [hop] at hc <;> simp only at hc <;> try (cases hc; done)
  case go c =>
    simp only [Bool.and_eq_true] at hc
    cases hcal : c.callee <;> rw [hcal] at hc <;> simp only at hc <;> try (cases hc.1; done)
    rename_i f
    have hf := hρ f hc.1
    have hex : execOp (⟨t, []⟩ : Act).eval o = (Deferred.ofValue ((⟨t, []⟩ : Act).eval f) (c.args.map (⟨t, []⟩ : Act).eval) >>= fun d => pure (.spawn d)) := by
      unfold execOp resolve
      rw [hop]
      simp only [hcal]
    generalize (⟨t, []⟩ : Act).eval f = x at hf hex
    generalize (⟨t', []⟩ : Act).eval f = x' at hf
    cases hf with
    | @func g hg p p' cc cc' hp hcs ip ic =>
      have hr : (execOp (⟨t, []⟩ : Act).eval o).run P v = .ok (.spawn { target := .fn (.func g) cc, args := p ++ c.args.map (⟨t, []⟩ : Act).eval }) v := by rw [hex]; rfl
      have hsp := stepG_spawn (main := true) (b := B fn kind) (cs := up ++ [trap]) (rest := rest) (k := k) ho hwa hke hr rfl
      exact doomed_spawn hsp
    | _ => exact stepG_stuck ho hwa (v1 := v) (h := .stuck "call: function value expected") (by rw [hex]; rfl) (.inl ⟨_, rfl⟩)
  case send ch x =>
    simp only [Bool.and_eq_true] at hc
    have hr : (execOp (⟨t, []⟩ : Act).eval o).run P v = .ok (.comm #[{ chan := (⟨t, []⟩ : Act).eval ch, send := some ((⟨t, []⟩ : Act).eval x), zero := .tuple #[] }] true .send) v := by unfold execOp; rw [hop]; rfl
    exact comm_lone (stepG_comm ho hwa hke hr) (ways_of hw (hρ ch hc.1) _ _)
  case recv ty ch ok =>
    simp only [Bool.and_eq_true] at hc
    obtain ⟨hch, hty⟩ := hc
    unfold recvT at hty
    split at hty
    · rename_i d e hu
      split at hty
      · rename_i inf hi
        obtain ⟨z, hz⟩ := Option.isSome_iff_exists.1 hty
        have hr : (execOp (⟨t, []⟩ : Act).eval o).run P v = .ok (.comm #[{ chan := (⟨t, []⟩ : Act).eval ch, send := none, zero := z }] true (.recv ok)) v := by
          unfold execOp
          rw [hop]
          simp only [underlying, zeroValue, typeInfo, program, bind, Sem.bind, pure, Sem.run, hu, hi, hz]
        exact comm_lone (stepG_comm ho hwa hke hr) (ways_of hw (hρ ch hch) _ _)
      · cases hty
    · cases hty
end
end Go.Proofs.Ytneclhkpgalnlaa.Sm
