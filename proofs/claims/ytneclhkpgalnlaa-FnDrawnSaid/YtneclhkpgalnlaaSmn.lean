/-
  WORKERS STARTED BY GOROUTINE 0, EACH WITH PLACES OF ITS OWN IN ONE ROW, JOINED OVER A CHANNEL: (1) the operations at which the ways stop, virtual and real; (2) the scripts.
-/
import Derived.Test.YtneclhkpgalnlaaSmm
namespace Go.Proofs.Ytneclhkpgalnlaa.Sm
open Go Go.Conc
set_option linter.unusedVariables false
set_option linter.unusedSimpArgs false

/-! ### (1) -/
/-- The frame stands at operation o, carried out; nx x: the frame behind it, if it yields x. -/
def AtOp (fr : Frame) (t : Array Value) (o : Oper) (nx : Value → Frame) : Prop := ∃ fn kind ops i rest k, fr = (B fn kind).at ⟨t, []⟩ (.inRegion ops (i :: rest) :: k) ∧ ops[i]? = some o ∧ o.guard = none ∧
  ∀ x, nx x = (B fn kind).at ((⟨t, []⟩ : Act).put o.dst x) (.inRegion ops rest :: k)

section
variable {P : Program} {Fs : FuncId → Bool} {R : BR} {main : Bool} {fr fr' : Frame} {t : Array Value} {o : Oper} {nx : Value → Frame} {cs : List Frame} {w w1 : World}

theorem wanted_none {o : Oper} (h : o.guard = none) (y : Nat → Option Bool) : Region.wanted o y = true := by unfold Region.wanted; rw [h]

theorem AtOp.real (h : AtOp fr t o nx) (hf : FR P Fs R fr fr') : ∃ t' nx', AtOp fr' t' o nx' ∧ fr'.kind ≠ .early ∧ AVR (FFs Fs) R t t' ∧ okOpC P Fs o.op = true ∧
    ∀ R1, (∀ b c, R b c → R1 b c) → ∀ x x', VR (FFs Fs) R1 x x' → FR P Fs R1 (nx x) (nx' x') := by
  obtain ⟨fn, kind, ops, i, rest, k, rfl, ho, hg, hn⟩ := h
  obtain ⟨fn0, t0, t', todo, mode, kind0, e1, rfl, h3, h4, h5, h6, h7⟩ := hf
  simp only [Frame.at, B, Frame.mk.injEq] at e1
  obtain ⟨rfl, rfl, rfl, _, rfl, rfl, _⟩ := e1
  have h7' := h7
  simp only [List.all_cons, Bool.and_eq_true, okItem] at h7
  refine ⟨t', fun x => (B fn kind).at ((⟨t', []⟩ : Act).put o.dst x) (.inRegion ops rest :: k), ⟨fn, kind, ops, i, rest, k, rfl, ho, hg, fun _ => rfl⟩, ?_, h6, ?_, fun R1 hR x x' hx => ?_⟩
  · rcases h4 with h | h <;> rw [h] <;> simp
  · obtain ⟨hlt, rfl⟩ := Array.getElem?_eq_some_iff.1 ho
    exact Array.all_eq_true.1 h7.1 i hlt
  · rw [hn]
    obtain ⟨p1, p2, p3⟩ := put_rel (h6.mono hR) o.dst hx
    exact FR.mka h3 h4 p2 p3 p1 (by simp only [List.all_cons, Bool.and_eq_true, okItem]; exact h7)

theorem AtOp.skip (h : AtOp fr t o nx) (hk : fr.kind ≠ .early) (hr : (execOp (⟨t, []⟩ : Act).eval o).run P w = .ok .skip w1) : stepG P main (G fr cs) w = .go (G (nx undef) cs) w1 (listed P fr.fn ⟨t, []⟩ o w) := by
  obtain ⟨fn, kind, ops, i, rest, k, rfl, ho, hg, hn⟩ := h
  rw [hn]
  exact stepG_none ho (wanted_none hg _) hk hr
theorem AtOp.spawn (h : AtOp fr t o nx) (hk : fr.kind ≠ .early) {d : Deferred} {f : Fn} {c : Array Value} (hr : (execOp (⟨t, []⟩ : Act).eval o).run P w = .ok (.spawn d) w1) (hd : d.target = .fn f c) :
    stepG P main (G fr cs) w = .spawn (G (nx undef) cs) (born P d) w1 (listed P fr.fn ⟨t, []⟩ o w) := by
  obtain ⟨fn, kind, ops, i, rest, k, rfl, ho, hg, hn⟩ := h
  rw [hn]
  exact stepG_spawn ho (wanted_none hg _) hk hr hd
theorem AtOp.comm (h : AtOp fr t o nx) (hk : fr.kind ≠ .early) {cases : Array CommCase} {shape : CommShape} (hr : (execOp (⟨t, []⟩ : Act).eval o).run P w = .ok (.comm cases true shape) w1) :
    stepG P main (G fr cs) w = .comm (G fr cs) cases true shape w1 (listed P fr.fn ⟨t, []⟩ o w) := by
  obtain ⟨fn, kind, ops, i, rest, k, rfl, ho, hg, hn⟩ := h
  exact stepG_comm ho (wanted_none hg _) hk hr
theorem AtOp.finish (h : AtOp fr t o nx) (x : Value) : fr.finish x = nx x := by
  obtain ⟨fn, kind, ops, i, rest, k, rfl, ho, hg, hn⟩ := h
  rw [hn, Frame.finish_at, ho]; rfl
end

/-- A type of one cell. -/
def OneCell (P : Program) (ty : TypeId) : Prop := ∃ i, P.info? ty = some i ∧ i.size = 1

theorem store_run {P : Program} {ty : TypeId} (hty : OneCell P ty) {a : Addr} (ha : a.spot = none) {k : IntKind} {n : Int} {w : World} (hc : (w.cell? a).isSome = true) (hf : w.frozen? a = false) :
    (Instr.storeAt ty (.pointer (some a)) (.int k n)).runT P w #[] = (.ok () (w.setCell a (.int k n)), #[⟨.cell a, true, false⟩]) := by
  obtain ⟨i, h1, h2⟩ := hty
  obtain ⟨x, hx⟩ := Option.isSome_iff_exists.1 hc
  have ea : a.add 0 = a := by simp [Addr.add]
  unfold Instr.storeAt Instr.sureAddr
  simp only [storeVar, sizeOf, typeInfo, program, asAddr, bind, Sem.bind, pure, Sem.runT, h1, h2, Value.cells, storeCells, store, ea, hx, hf]
  simp [Sem.runT, Sem.bind, pure, storeCells, store, hx, hf, ea]
  exact ⟨by simp [Sem.run, hx, hf], by simp [Sem.events, Sem.runT, hx, hf]⟩

/-- What a worker's place gets. -/
def StoreOp (P : Program) (bO i : Nat) (val : Int) (fr fr1 : Frame) : Prop := ∃ t o nx ty sa sv, AtOp fr t o nx ∧ o.op = .store ty (.tmp sa) (.tmp sv) ∧ t.getD sa undef = .pointer (some ⟨bO, i, none⟩) ∧ t.getD sv undef = .int .i64 val ∧ OneCell P ty ∧ fr1 = nx undef

/-- The frame from which a goroutine's outermost function is called. -/
def base (P : Program) : Frame := { (default : Frame) with fn := P.funcs.size, defers := [], mode := .panicking [goexitEntry] }

def SendOp (P : Program) (bC : Nat) (fr : Frame) : Prop := ∃ fn kind ops i rest k t o s, fr = (B fn kind).at ⟨t, []⟩ (.inRegion ops (i :: rest) :: k) ∧ ops[i]? = some o ∧ o.guard = none ∧ o.dst = none ∧
  o.op = .send (.tmp s) (.const (.bool true)) ∧ t.getD s undef = .chan (some bC) ∧ ∃ q, ∀ t', QuitsIn P q (G ((B fn kind).at ⟨t', []⟩ (.inRegion ops rest :: k)) [base P])

def RcvOp (bC : Nat) (fr fr1 : Frame) : Prop := ∃ t o nx ty s, AtOp fr t o nx ∧ o.op = .recv ty (.tmp s) false ∧ t.getD s undef = .chan (some bC) ∧ fr1 = nx (.bool true)

def GoOp (fW : FuncId) (caps : Array Value) (fr fr1 : Frame) : Prop := ∃ t o nx c s, AtOp fr t o nx ∧ o.op = .go c ∧ c.callee = .value (.tmp s) ∧ c.args = #[] ∧ t.getD s undef = .func (.func fW) #[] caps ∧ fr1 = nx undef

section
variable {P : Program} {Fs : FuncId → Bool} {R : BR} {fr fr1 fr' : Frame} {cs : List Frame} {w w1 : World}

theorem mem_listed' {fn : FuncId} {a : Act} {o : Oper} {e : Event} (h : e ∈ listed P fn a o w) : e ∈ (execOp a.eval o).events P w #[] := mem_listed h

theorem runT_of_events {α : Type} {s : Sem α} {r : Result α} {es : Array Event} (h : s.runT P w #[] = (r, es)) : s.run P w = r ∧ s.events P w #[] = es := by
  constructor
  · rw [← Sem.runT_fst P s w #[], h]
  · show (s.runT P w #[]).2 = es
    rw [h]

theorem StoreOp.real {bO cO i : Nat} {val : Int} (h : StoreOp P bO i val fr fr1) (hf : FR P Fs R fr fr') (hfn : ∀ c, R bO c → c = cO) {main : Bool} (hc : (w.cell? ⟨cO, i, none⟩).isSome = true) (hfz : w.frozen? ⟨cO, i, none⟩ = false) :
    ∃ fr1' es, stepG P main (G fr' cs) w = .go (G fr1' cs) (w.setCell ⟨cO, i, none⟩ (.int .i64 val)) es ∧ (∀ e ∈ es, e = ⟨.cell ⟨cO, i, none⟩, true, false⟩) ∧ FR P Fs R fr1 fr1' := by
  obtain ⟨t, o, nx, ty, sa, sv, hat, hop, ha, hv, hty, rfl⟩ := h
  obtain ⟨t', nx', hat', hk, ht, _, hnx⟩ := hat.real hf
  have e1 : t'.getD sa undef = .pointer (some ⟨cO, i, none⟩) := by
    have := ht.getD sa
    rw [ha] at this
    generalize t'.getD sa undef = z at this
    cases this with
    | @pointer _ a' hA =>
      obtain ⟨h1, h2, h3, _⟩ := hA
      obtain ⟨b', o', s'⟩ := a'
      simp only at h1 h2 h3
      rw [hfn _ h1, h2, h3]
  have e2 : t'.getD sv undef = .int .i64 val := by
    have := ht.getD sv
    rw [hv] at this
    generalize t'.getD sv undef = z at this
    cases this; rfl
  have hr := store_run (P := P) hty (a := ⟨cO, i, none⟩) rfl (k := .i64) (n := val) hc hfz
  obtain ⟨r1, r2⟩ := runT_of_events hr
  have hex : execOp (⟨t', []⟩ : Act).eval o = (Instr.storeAt ty (.pointer (some ⟨cO, i, none⟩)) (.int .i64 val) >>= fun _ => (pure Next.skip : Sem Next)) := by
    unfold execOp
    rw [hop]
    show (Instr.storeAt ty (t'.getD sa undef) (t'.getD sv undef) >>= fun _ => (pure Next.skip : Sem Next)) = _
    rw [e1, e2]
  have hrun : (execOp (⟨t', []⟩ : Act).eval o).run P w = .ok .skip (w.setCell ⟨cO, i, none⟩ (.int .i64 val)) := by
    rw [hex]
    have := Sem.run_bind' P (Instr.storeAt ty (.pointer (some ⟨cO, i, none⟩)) (.int .i64 val)) (fun _ => (pure Next.skip : Sem Next)) w
    rw [r1] at this
    exact this
  refine ⟨nx' undef, _, hat'.skip hk hrun, fun e he => ?_, hnx R (fun _ _ x => x) _ _ VR.undef⟩
  have he := mem_listed' he
  rw [hex] at he
  have h1 := Sem.runT_bind' P (Instr.storeAt ty (.pointer (some ⟨cO, i, none⟩)) (.int .i64 val)) (fun _ => (pure Next.skip : Sem Next)) w #[]
  have he : e ∈ (Sem.runT P ((Instr.storeAt ty (.pointer (some ⟨cO, i, none⟩)) (.int .i64 val)).bind fun _ => (pure Next.skip : Sem Next)) w #[]).2 := he
  rw [h1, hr] at he
  simpa [pure, Sem.runT] using he

theorem chan_of {bC cC s : Nat} {t t' : Array Value} (ht : AVR (FFs Fs) R t t') (hv : t.getD s undef = .chan (some bC)) (hfn : ∀ c, R bC c → c = cC) : t'.getD s undef = .chan (some cC) := by
  have := ht.getD s
  rw [hv] at this
  generalize t'.getD s undef = z at this
  cases this with
  | chan h => rw [hfn _ h]

theorem listed_nil {fn : FuncId} {a : Act} {o : Oper} (h : (execOp a.eval o).events P w #[] = #[]) : listed P fn a o w = #[] := by
  unfold listed; rw [h, seen_none]

theorem SendOp.real {bC cC : Nat} (h : SendOp P bC fr) (hf : FR P Fs R fr fr') (hfn : ∀ c, R bC c → c = cC) (cs' : List Frame) :
    (∀ w, stepG P false (G fr' cs') w = .comm (G fr' cs') #[scase cC (.bool true) (.tuple #[])] true .send w #[]) ∧ ∃ q, QuitsIn P q (Conc.served (G fr' [base P]) undef) := by
  obtain ⟨fn, kind, ops, i, rest, k, t, o, s, rfl, ho, hg, hd, hop, hv, q, hq⟩ := h
  obtain ⟨t', nx', hat', hk, ht, _, _⟩ := AtOp.real (nx := fun x => (B fn kind).at ((⟨t, []⟩ : Act).put o.dst x) (.inRegion ops rest :: k)) ⟨fn, kind, ops, i, rest, k, rfl, ho, hg, fun _ => rfl⟩ hf
  have e1 := chan_of ht hv hfn
  have hex : execOp (⟨t', []⟩ : Act).eval o = pure (.comm #[scase cC (.bool true) (.tuple #[])] true .send) := by
    unfold execOp
    rw [hop]
    show pure (Next.comm #[{ chan := t'.getD s undef, send := some (.bool true), zero := .tuple #[] }] true .send) = _
    rw [e1]; rfl
  refine ⟨fun w => ?_, q, ?_⟩
  · have := hat'.comm (P := P) (main := false) (cs := cs') (w := w) (w1 := w) hk (by rw [hex]; rfl)
    rw [this, listed_nil (by rw [hex]; rfl)]
  · unfold Conc.served
    have : fr'.finish undef = nx' undef := hat'.finish undef
    obtain ⟨fn0, t0, t1, todo, mode, kind0, e2, rfl, h3, h4, h5, h6, h7⟩ := hf
    simp only [Frame.at, B, Frame.mk.injEq] at e2
    obtain ⟨rfl, rfl, rfl, _, rfl, rfl, _⟩ := e2
    have e3 : ({ fn := fn, tmps := t1, todo := .inRegion ops (i :: rest) :: k, defers := [], mode := .run, kind := kind, roundOf := none } : Frame).finish undef = (B fn kind).at ⟨t1, []⟩ (.inRegion ops rest :: k) := by
      have := Frame.finish_at (B fn kind) ⟨t1, []⟩ ops i rest k undef
      rw [ho] at this
      simp only [Option.bind_some, hd] at this
      exact this
    show QuitsIn P q { frame := _, callers := _, status := .running, dying := none, offers := none }
    rw [show (G ({ fn := fn, tmps := t1, todo := .inRegion ops (i :: rest) :: k, defers := [], mode := .run, kind := kind, roundOf := none } : Frame) [base P]).frame = { fn := fn, tmps := t1, todo := .inRegion ops (i :: rest) :: k, defers := [], mode := .run, kind := kind, roundOf := none } from rfl, e3]
    exact hq t1

theorem RcvOp.real {bC cC : Nat} (h : RcvOp bC fr fr1) (hf : FR P Fs R fr fr') (hfn : ∀ c, R bC c → c = cC) (cs' : List Frame) :
    ∃ z fr1', (∀ w, stepG P true (G fr' cs') w = .comm (G fr' cs') #[rcase cC z] true (.recv false) w #[]) ∧ FR P Fs R fr1 fr1' ∧ ∀ cs, Conc.served (G fr' cs) (.bool true) = G fr1' cs := by
  obtain ⟨t, o, nx, ty, s, hat, hop, hv, rfl⟩ := h
  obtain ⟨t', nx', hat', hk, ht, hok, hnx⟩ := hat.real hf
  have e1 := chan_of ht hv hfn
  have hty : recvT P ty = true := by
    unfold okOpC at hok
    rw [hop] at hok
    simp only [okOp, isComm, Bool.false_or, Bool.and_eq_true] at hok
    exact hok.2
  unfold recvT at hty
  split at hty
  · rename_i d e hu
    split at hty
    · rename_i inf hi
      obtain ⟨z, hz⟩ := Option.isSome_iff_exists.1 hty
      have hrT : ∀ w, (execOp (⟨t', []⟩ : Act).eval o).runT P w #[] = (.ok (.comm #[rcase cC z] true (.recv false)) w, #[]) := by
        intro w
        unfold execOp
        rw [hop]
        have e2 : (⟨t', []⟩ : Act).eval (.tmp s) = .chan (some cC) := e1
        simp only [underlying, zeroValue, typeInfo, program, bind, Sem.bind, pure, Sem.runT, hu, hi, hz, e2, rcase]
      refine ⟨z, nx' (.bool true), fun w => ?_, hnx R (fun _ _ x => x) _ _ (.bool true), fun cs => ?_⟩
      · obtain ⟨r1, r2⟩ := runT_of_events (hrT w)
        rw [hat'.comm (P := P) (main := true) (cs := cs') (w := w) (w1 := w) hk r1, listed_nil r2]
      · show ({ frame := fr'.finish (.bool true), callers := cs, status := .running, dying := none, offers := none } : Goroutine) = _
        rw [hat'.finish]; rfl
    · cases hty
  · cases hty

theorem GoOp.real {fW : FuncId} {caps : Array Value} (h : GoOp fW caps fr fr1) (hf : FR P Fs R fr fr') (cs' : List Frame) :
    ∃ caps' fr1', (∀ w, stepG P true (G fr' cs') w = .spawn (G fr1' cs') (born P { target := .fn (.func fW) caps', args := #[] }) w #[]) ∧ FR P Fs R fr1 fr1' ∧ AVR (FFs Fs) R caps caps' := by
  obtain ⟨t, o, nx, c, s, hat, hop, hcal, hargs, hv, rfl⟩ := h
  obtain ⟨t', nx', hat', hk, ht, hok, hnx⟩ := hat.real hf
  have := ht.getD s
  rw [hv] at this
  have e1 : ∃ p' caps', t'.getD s undef = .func (.func fW) p' caps' ∧ p'.size = 0 ∧ AVR (FFs Fs) R caps caps' := by
    generalize t'.getD s undef = z at this
    cases this with
    | func hf hp hc ip ic => exact ⟨_, _, rfl, by simpa using hp.symm, hc, ic⟩
  obtain ⟨p', caps', e1, hp, hcaps⟩ := e1
  obtain rfl : p' = #[] := Array.eq_empty_of_size_eq_zero hp
  have hex : execOp (⟨t', []⟩ : Act).eval o = pure (.spawn { target := .fn (.func fW) caps', args := #[] }) := by
    unfold execOp
    rw [hop]
    show (resolve (⟨t', []⟩ : Act).eval c o.type >>= fun d => pure (Next.spawn d)) = _
    unfold resolve
    rw [hcal, hargs]
    simp only [Array.map_empty]
    show (Deferred.ofValue (t'.getD s undef) #[] >>= fun d => pure (Next.spawn d)) = _
    rw [e1]; rfl
  refine ⟨caps', nx' undef, fun w => ?_, hnx R (fun _ _ x => x) _ _ VR.undef, hcaps⟩
  rw [hat'.spawn (P := P) (main := true) (cs := cs') (w := w) (w1 := w) hk (by rw [hex]; rfl) rfl, listed_nil (by rw [hex]; rfl)]

/-- A child's first step: its function is entered. -/
theorem born_step (hP : OkProg P Fs) {f : FuncId} (hf : Fs f = true) (caps : Array Value) (w : World) : stepG P false (born P { target := .fn (.func f) caps, args := #[] }) w = .go (G (Frame.enter P f caps .deferred) [base P]) w #[] := by
  obtain ⟨fn, c, h1, h2, h3, h4⟩ := hP.body f hf
  have h5 : fn.body.isNone = false := by rw [h3]; rfl
  have hr : (invoke (.fn (.func f) caps) #[]).runT P w #[] = (.ok (.enter f caps) w, #[]) := by
    unfold invoke callFunc
    simp only [program, bind, Sem.bind, pure, Sem.runT, h1, h2, h5, Array.empty_append, Bool.false_eq_true, if_false]
  have e : stepG P false (born P { target := .fn (.func f) caps, args := #[] }) w = callDeferred P (base P) [] none { target := .fn (.func f) caps, args := #[] } w := rfl
  rw [e]
  unfold callDeferred
  dsimp only
  rw [hr]
  simp only [seen_none, GStep.after]
  simp
  rfl

theorem FR.enterD (hP : OkProg P Fs) {f : FuncId} (hf : Fs f = true) {as as' : Array Value} (h : AVR (FFs Fs) R as as') : FR P Fs R (Frame.enter P f as .deferred) (Frame.enter P f as' .deferred) := by
  obtain ⟨fn, c, h1, h2, h3, h4⟩ := hP.body f hf
  unfold Frame.enter
  simp only [h1, Option.map_some, Option.getD_some, Option.bind_some, h3]
  refine ⟨f, _, _, [.code c], .run, .deferred, rfl, rfl, hf, .inr rfl, .inl rfl, ?_, by simp [okItem, h4]⟩
  rw [← h.1]
  exact h.append (.replicate _ VR.undef)
end

/-! ### (2) -/
/-- From here the lone virtual machine comes to the stop, on every tape. -/
def Seg (P : Program) (Ch : Nat → Prop) (Q : VStop) (fr : Frame) (up : List Frame) (v : World) : Prop :=
  ∀ T d, ∃ frS upS vS, Steps P (lone fr (up ++ [trap]) (rt v T d)) (lone frS (upS ++ [trap]) vS) ∧ OkFr frS ∧ Q frS upS vS ∧ ∀ b o, Ch b → vS.heap[b]? = some o → ¬ IsMap o

theorem Seg.rt {P : Program} {Ch : Nat → Prop} {Q : VStop} {fr : Frame} {up : List Frame} {v : World} {T : Tape} {d : Nat} (h : Seg P Ch Q fr up (rt v T d)) : Seg P Ch Q fr up v := h

theorem way_of_seg {P : Program} {Fs : FuncId → Bool} {main : Bool} {bs : List Frame} {Ch : Nat → Prop} {Q : VStop} (hP : OkProg P Fs) {s : St} (hok : s.ok P Fs) (h : Seg P Ch Q s.fr s.up s.v) (hv : Veil Ch s.v) : ∃ t, Way P Fs main bs Ch Q t s :=
  way_of_ends hP hok (ends_of_steps fun T => h T s.v.drawn) hv

/-- A worker's script: its next place is e. -/
def WStop (P : Program) (Ch : Nat → Prop) (bO bC n len : Nat) (f : Nat → Int) : Nat → Nat → VStop
  | 0, e => fun fr up v => up = [] ∧ len ≤ e ∧ SendOp P bC fr
  | r + 1, e => fun fr up v => up = [] ∧ ((len ≤ e ∧ SendOp P bC fr) ∨ (e < len ∧ ∃ fr1, StoreOp P bO e (f e) fr fr1 ∧ Seg P Ch (WStop P Ch bO bC n len f r (e + n)) fr1 [] v))

def frzO : Obj → Obj
  | .cells c el _ => .cells c el (0, c.size)
  | o => o
def frz (v : World) : World := { v with heap := v.heap.map frzO }

/-- Goroutine 0's script from behind a receive, or from behind the last go statement: so many receives are left. -/
def RNext (P : Program) (Ch : Nat → Prop) (bC : Nat) (Fin : VStop) : Nat → VStop
  | 0 => Fin
  | r + 1 => Seg P Ch fun fr up v => ∃ fr1, RcvOp bC fr fr1 ∧ RNext P Ch bC Fin r fr1 up v

def GoAt (fW : FuncId) (ps : List Nat) (el0 : TypeId) (j : Nat) (fr fr1 : Frame) (v : World) : Prop := ∃ b, GoOp fW (#[.pointer (some ⟨b, 0, none⟩)] ++ (ps.map fun b => Value.pointer (some ⟨b, 0, none⟩)).toArray) fr fr1 ∧ v.heap[b]? = some (.cells #[.int .i64 j] el0 (0, 0))

/-- .. from behind a go statement, j workers being started. -/
def GNext (P : Program) (Ch : Nat → Prop) (fW : FuncId) (ps : List Nat) (el0 : TypeId) (bC n : Nat) (Fin : VStop) : Nat → VStop
  | 0 => RNext P Ch bC Fin n
  | s + 1 => Seg P Ch fun fr up v => ∃ fr1, GoAt fW ps el0 (n - (s + 1)) fr fr1 v ∧ GNext P Ch fW ps el0 bC n Fin s fr1 up (frz v)
end Go.Proofs.Ytneclhkpgalnlaa.Sm
