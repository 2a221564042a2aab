/-
  WORKERS STARTED BY GOROUTINE 0, EACH WITH PLACES OF ITS OWN IN ONE ROW, JOINED OVER A CHANNEL: (1) the operations at which the ways stop, virtual and real; (2) the scripts.
-/
import Derived.Test.YtmfglflahlddbaaSmZd
namespace Go.Proofs.Ytmfglflahlddbaa.Sm
open Go Go.Conc
set_option linter.unusedVariables false
set_option linter.unusedSimpArgs false

/-! ### (1) -/
/-- The frame stands at operation o, carried out; nx x: the frame behind it, if it yields x. -/
def AtOp (fr : Frame) (t : Array Value) (o : Oper) (nx : Value → Frame) : Prop := ∃ fn kind ops i rest k, fr = (B fn kind).at ⟨t, []⟩ (.inRegion ops (i :: rest) :: k) ∧ ops[i]? = some o ∧ o.guard = none ∧
  ∀ x, nx x = (B fn kind).at ((⟨t, []⟩ : Act).put o.dst x) (.inRegion ops rest :: k)

section
variable {P : Program} {Fs : FuncId → Bool} {R : BR} {main : Bool} {fr fr' : Frame} {t : Array Value} {o : Oper} {nx : Value → Frame} {cs : List Frame} {w w1 : World}

theorem wanted_none {o : Oper} (h : o.guard = none) (y : Nat → Option Bool) : Region.wanted o y = true := by unfold Region.wanted; rw [h]

theorem AtOp.real (h : AtOp fr t o nx) (hf : FR P Fs R fr fr') : ∃ t' nx', AtOp fr' t' o nx' ∧ fr'.kind ≠ .early ∧ AVR (FFs Fs) R t t' ∧ okOpC P Fs o.op = true ∧
    ∀ R1, (∀ b c, R b c → R1 b c) → ∀ x x', VR (FFs Fs) R1 x x' → FR P Fs R1 (nx x) (nx' x') := by
  obtain ⟨fn, kind, ops, i, rest, k, rfl, ho, hg, hn⟩ := h
  obtain ⟨fn0, t0, t', todo, mode, kind0, e1, rfl, h3, h4, h5, h6, h7⟩ := hf
  simp only [Frame.at, B, Frame.mk.injEq] at e1
  obtain ⟨rfl, rfl, rfl, _, rfl, rfl, _⟩ := e1
  have h7' := h7
  simp only [List.all_cons, Bool.and_eq_true, okItem] at h7
  refine ⟨t', fun x => (B fn kind).at ((⟨t', []⟩ : Act).put o.dst x) (.inRegion ops rest :: k), ⟨fn, kind, ops, i, rest, k, rfl, ho, hg, fun _ => rfl⟩, ?_, h6, ?_, fun R1 hR x x' hx => ?_⟩
  · rcases h4 with h | h <;> rw [h] <;> simp
  · obtain ⟨hlt, rfl⟩ := Array.getElem?_eq_some_iff.1 ho
    exact Array.all_eq_true.1 h7.1 i hlt
  · rw [hn]
    obtain ⟨p1, p2, p3⟩ := put_rel (h6.mono hR) o.dst hx
    exact FR.mka h3 h4 p2 p3 p1 (by simp only [List.all_cons, Bool.and_eq_true, okItem]; exact h7)

theorem AtOp.skip (h : AtOp fr t o nx) (hk : fr.kind ≠ .early) (hr : (execOp (⟨t, []⟩ : Act).eval o).run P w = .ok .skip w1) : stepG P main (G fr cs) w = .go (G (nx undef) cs) w1 (listed P fr.fn ⟨t, []⟩ o w) := by
  obtain ⟨fn, kind, ops, i, rest, k, rfl, ho, hg, hn⟩ := h
  rw [hn]
  exact stepG_none ho (wanted_none hg _) hk hr
theorem AtOp.spawn (h : AtOp fr t o nx) (hk : fr.kind ≠ .early) {d : Deferred} {f : Fn} {c : Array Value} (hr : (execOp (⟨t, []⟩ : Act).eval o).run P w = .ok (.spawn d) w1) (hd : d.target = .fn f c) :
    stepG P main (G fr cs) w = .spawn (G (nx undef) cs) (born P d) w1 (listed P fr.fn ⟨t, []⟩ o w) := by
  obtain ⟨fn, kind, ops, i, rest, k, rfl, ho, hg, hn⟩ := h
  rw [hn]
  exact stepG_spawn ho (wanted_none hg _) hk hr hd
theorem AtOp.comm (h : AtOp fr t o nx) (hk : fr.kind ≠ .early) {cases : Array CommCase} {shape : CommShape} (hr : (execOp (⟨t, []⟩ : Act).eval o).run P w = .ok (.comm cases true shape) w1) :
    stepG P main (G fr cs) w = .comm (G fr cs) cases true shape w1 (listed P fr.fn ⟨t, []⟩ o w) := by
  obtain ⟨fn, kind, ops, i, rest, k, rfl, ho, hg, hn⟩ := h
  exact stepG_comm ho (wanted_none hg _) hk hr
theorem AtOp.finish (h : AtOp fr t o nx) (x : Value) : fr.finish x = nx x := by
  obtain ⟨fn, kind, ops, i, rest, k, rfl, ho, hg, hn⟩ := h
  rw [hn, Frame.finish_at, ho]; rfl
end

/-- A type of one cell. -/
def OneCell (P : Program) (ty : TypeId) : Prop := ∃ i, P.info? ty = some i ∧ i.size = 1

theorem store_run {P : Program} {ty : TypeId} (hty : OneCell P ty) {a : Addr} (ha : a.spot = none) {k : IntKind} {n : Int} {w : World} (hc : (w.cell? a).isSome = true) (hf : w.frozen? a = false) :
    (Instr.storeAt ty (.pointer (some a)) (.int k n)).runT P w #[] = (.ok () (w.setCell a (.int k n)), #[⟨.cell a, true, false⟩]) := by
  obtain ⟨i, h1, h2⟩ := hty
  obtain ⟨x, hx⟩ := Option.isSome_iff_exists.1 hc
  have ea : a.add 0 = a := by simp [Addr.add]
  unfold Instr.storeAt Instr.sureAddr
  simp only [storeVar, sizeOf, typeInfo, program, asAddr, bind, Sem.bind, pure, Sem.runT, h1, h2, Value.cells, storeCells, store, ea, hx, hf]
  simp [Sem.runT, Sem.bind, pure, storeCells, store, hx, hf, ea]
  exact ⟨by simp [Sem.run, hx, hf], by simp [Sem.events, Sem.runT, hx, hf]⟩

/-- What a worker's place gets. -/
def StoreOp (P : Program) (bO i : Nat) (val : Int) (fr fr1 : Frame) : Prop := ∃ t o nx ty sa sv, AtOp fr t o nx ∧ o.op = .store ty (.tmp sa) (.tmp sv) ∧ t.getD sa undef = .pointer (some ⟨bO, i, none⟩) ∧ t.getD sv undef = .int .i64 val ∧ OneCell P ty ∧ fr1 = nx undef

/-- The frame from which a goroutine's outermost function is called. -/
def base (P : Program) : Frame := { (default : Frame) with fn := P.funcs.size, defers := [], mode := .panicking [goexitEntry] }

def SendOp (P : Program) (bC : Nat) (fr : Frame) : Prop := ∃ fn kind ops i rest k t o s, fr = (B fn kind).at ⟨t, []⟩ (.inRegion ops (i :: rest) :: k) ∧ ops[i]? = some o ∧ o.guard = none ∧ o.dst = none ∧
  o.op = .send (.tmp s) (.const (.bool true)) ∧ t.getD s undef = .chan (some bC) ∧ ∃ q, ∀ t', QuitsIn P q (G ((B fn kind).at ⟨t', []⟩ (.inRegion ops rest :: k)) [base P])

def RcvOp (bC : Nat) (fr fr1 : Frame) : Prop := ∃ t o nx ty s, AtOp fr t o nx ∧ o.op = .recv ty (.tmp s) false ∧ t.getD s undef = .chan (some bC) ∧ fr1 = nx (.bool true)

def GoOp (fW : FuncId) (caps : Array Value) (fr fr1 : Frame) : Prop := ∃ t o nx c s, AtOp fr t o nx ∧ o.op = .go c ∧ c.callee = .value (.tmp s) ∧ c.args = #[] ∧ t.getD s undef = .func (.func fW) #[] caps ∧ fr1 = nx undef

section
variable {P : Program} {Fs : FuncId → Bool} {R : BR} {fr fr1 fr' : Frame} {cs : List Frame} {w w1 : World}

theorem mem_listed' {fn : FuncId} {a : Act} {o : Oper} {e : Event} (h : e ∈ listed P fn a o w) : e ∈ (execOp a.eval o).events P w #[] := mem_listed h

theorem runT_of_events {α : Type} {s : Sem α} {r : Result α} {es : Array Event} (h : s.runT P w #[] = (r, es)) : s.run P w = r ∧ s.events P w #[] = es := by
  constructor
  · rw [← Sem.runT_fst P s w #[], h]
  · show (s.runT P w #[]).2 = es
    rw [h]

theorem StoreOp.real {bO cO i : Nat} {val : Int} (h : StoreOp P bO i val fr fr1) (hf : FR P Fs R fr fr') (hfn : ∀ c, R bO c → c = cO) {main : Bool} (hc : (w.cell? ⟨cO, i, none⟩).isSome = true) (hfz : w.frozen? ⟨cO, i, none⟩ = false) :
    ∃ fr1' es, stepG P main (G fr' cs) w = .go (G fr1' cs) (w.setCell ⟨cO, i, none⟩ (.int .i64 val)) es ∧ (∀ e ∈ es, e = ⟨.cell ⟨cO, i, none⟩, true, false⟩) ∧ FR P Fs R fr1 fr1' := by
  obtain ⟨t, o, nx, ty, sa, sv, hat, hop, ha, hv, hty, rfl⟩ := h
  obtain ⟨t', nx', hat', hk, ht, _, hnx⟩ := hat.real hf
  have e1 : t'.getD sa undef = .pointer (some ⟨cO, i, none⟩) := by
    have := ht.getD sa
    rw [ha] at this
    generalize t'.getD sa undef = z at this
    cases this with
    | @pointer _ a' hA =>
      obtain ⟨h1, h2, h3, _⟩ := hA
      obtain ⟨b', o', s'⟩ := a'
      simp only at h1 h2 h3
      rw [hfn _ h1, h2, h3]
  have e2 : t'.getD sv undef = .int .i64 val := by
    have := ht.getD sv
    rw [hv] at this
    generalize t'.getD sv undef = z at this
    cases this; rfl
  have hr := store_run (P := P) hty (a := ⟨cO, i, none⟩) rfl (k := .i64) (n := val) hc hfz
  obtain ⟨r1, r2⟩ := runT_of_events hr
  have hex : execOp (⟨t', []⟩ : Act).eval o = (Instr.storeAt ty (.pointer (some ⟨cO, i, none⟩)) (.int .i64 val) >>= fun _ => (pure Next.skip : Sem Next)) := by
    unfold execOp
    rw [hop]
    show (Instr.storeAt ty (t'.getD sa undef) (t'.getD sv undef) >>= fun _ => (pure Next.skip : Sem Next)) = _
    rw [e1, e2]
  have hrun : (execOp (⟨t', []⟩ : Act).eval o).run P w = .ok .skip (w.setCell ⟨cO, i, none⟩ (.int .i64 val)) := by
    rw [hex]
    have := Sem.run_bind' P (Instr.storeAt ty (.pointer (some ⟨cO, i, none⟩)) (.int .i64 val)) (fun _ => (pure Next.skip : Sem Next)) w
    rw [r1] at this
    exact this
  refine ⟨nx' undef, _, hat'.skip hk hrun, fun e he => ?_, hnx R (fun _ _ x => x) _ _ VR.undef⟩
  have he := mem_listed' he
  rw [hex] at he
  have h1 := Sem.runT_bind' P (Instr.storeAt ty (.pointer (some ⟨cO, i, none⟩)) (.int .i64 val)) (fun _ => (pure Next.skip : Sem Next)) w #[]
  have he : e ∈ (Sem.runT P ((Instr.storeAt ty (.pointer (some ⟨cO, i, none⟩)) (.int .i64 val)).bind fun _ => (pure Next.skip : Sem Next)) w #[]).2 := he
  rw [h1, hr] at he
  simpa [pure, Sem.runT] using he

theorem chan_of {bC cC s : Nat} {t t' : Array Value} (ht : AVR (FFs Fs) R t t') (hv : t.getD s undef = .chan (some bC)) (hfn : ∀ c, R bC c → c = cC) : t'.getD s undef = .chan (some cC) := by
  have := ht.getD s
  rw [hv] at this
  generalize t'.getD s undef = z at this
  cases this with
  | chan h => rw [hfn _ h]

theorem listed_nil {fn : FuncId} {a : Act} {o : Oper} (h : (execOp a.eval o).events P w #[] = #[]) : listed P fn a o w = #[] := by
  unfold listed; rw [h, seen_none]

theorem SendOp.real {bC cC : Nat} (h : SendOp P bC fr) (hf : FR P Fs R fr fr') (hfn : ∀ c, R bC c → c = cC) (cs' : List Frame) :
    (∀ w, stepG P false (G fr' cs') w = .comm (G fr' cs') #[scase cC (.bool true) (.tuple #[])] true .send w #[]) ∧ ∃ q, QuitsIn P q (Conc.served (G fr' [base P]) undef) := by
  obtain ⟨fn, kind, ops, i, rest, k, t, o, s, rfl, ho, hg, hd, hop, hv, q, hq⟩ := h
  obtain ⟨t', nx', hat', hk, ht, _, _⟩ := AtOp.real (nx := fun x => (B fn kind).at ((⟨t, []⟩ : Act).put o.dst x) (.inRegion ops rest :: k)) ⟨fn, kind, ops, i, rest, k, rfl, ho, hg, fun _ => rfl⟩ hf
  have e1 := chan_of ht hv hfn
  have hex : execOp (⟨t', []⟩ : Act).eval o = pure (.comm #[scase cC (.bool true) (.tuple #[])] true .send) := by
    unfold execOp
    rw [hop]
    show pure (Next.comm #[{ chan := t'.getD s undef, send := some (.bool true), zero := .tuple #[] }] true .send) = _
    rw [e1]; rfl
  refine ⟨fun w => ?_, q, ?_⟩
  · have := hat'.comm (P := P) (main := false) (cs := cs') (w := w) (w1 := w) hk (by rw [hex]; rfl)
    rw [this, listed_nil (by rw [hex]; rfl)]
  · unfold Conc.served
    have : fr'.finish undef = nx' undef := hat'.finish undef
    obtain ⟨fn0, t0, t1, todo, mode, kind0, e2, rfl, h3, h4, h5, h6, h7⟩ := hf
    simp only [Frame.at, B, Frame.mk.injEq] at e2
    obtain ⟨rfl, rfl, rfl, _, rfl, rfl, _⟩ := e2
    have e3 : ({ fn := fn, tmps := t1, todo := .inRegion ops (i :: rest) :: k, defers := [], mode := .run, kind := kind, roundOf := none } : Frame).finish undef = (B fn kind).at ⟨t1, []⟩ (.inRegion ops rest :: k) := by
      have := Frame.finish_at (B fn kind) ⟨t1, []⟩ ops i rest k undef
      rw [ho] at this
      simp only [Option.bind_some, hd] at this
      exact this
    show QuitsIn P q { frame := _, callers := _, status := .running, dying := none, offers := none }
    rw [show (G ({ fn := fn, tmps := t1, todo := .inRegion ops (i :: rest) :: k, defers := [], mode := .run, kind := kind, roundOf := none } : Frame) [base P]).frame = { fn := fn, tmps := t1, todo := .inRegion ops (i :: rest) :: k, defers := [], mode := .run, kind := kind, roundOf := none } from rfl, e3]
    exact hq t1

theorem RcvOp.real {bC cC : Nat} (h : RcvOp bC fr fr1) (hf : FR P Fs R fr fr') (hfn : ∀ c, R bC c → c = cC) (cs' : List Frame) :
    ∃ z fr1', (∀ w, stepG P true (G fr' cs') w = .comm (G fr' cs') #[rcase cC z] true (.recv false) w #[]) ∧ FR P Fs R fr1 fr1' ∧ ∀ cs, Conc.served (G fr' cs) (.bool true) = G fr1' cs := by
  obtain ⟨t, o, nx, ty, s, hat, hop, hv, rfl⟩ := h
  obtain ⟨t', nx', hat', hk, ht, hok, hnx⟩ := hat.real hf
  have e1 := chan_of ht hv hfn
  have hty : recvT P ty = true := by
    unfold okOpC at hok
    rw [hop] at hok
    simp only [okOp, isComm, Bool.false_or, Bool.and_eq_true] at hok
    exact hok.2
  unfold recvT at hty
  split at hty
  · rename_i d e hu
    split at hty
    · rename_i inf hi
      obtain ⟨z, hz⟩ := Option.isSome_iff_exists.1 hty
      have hrT : ∀ w, (execOp (⟨t', []⟩ : Act).eval o).runT P w #[] = (.ok (.comm #[rcase cC z] true (.recv false)) w, #[]) := by
        intro w
        unfold execOp
        rw [hop]
        have e2 : (⟨t', []⟩ : Act).eval (.tmp s) = .chan (some cC) := e1
        simp only [underlying, zeroValue, typeInfo, program, bind, Sem.bind, pure, Sem.runT, hu, hi, hz, e2, rcase]
      refine ⟨z, nx' (.bool true), fun w => ?_, hnx R (fun _ _ x => x) _ _ (.bool true), fun cs => ?_⟩
      · obtain ⟨r1, r2⟩ := runT_of_events (hrT w)
        rw [hat'.comm (P := P) (main := true) (cs := cs') (w := w) (w1 := w) hk r1, listed_nil r2]
      · show ({ frame := fr'.finish (.bool true), callers := cs, status := .running, dying := none, offers := none } : Goroutine) = _
        rw [hat'.finish]; rfl
    · cases hty
  · cases hty

theorem GoOp.real {fW : FuncId} {caps : Array Value} (h : GoOp fW caps fr fr1) (hf : FR P Fs R fr fr') (cs' : List Frame) :
    ∃ caps' fr1', (∀ w, stepG P true (G fr' cs') w = .spawn (G fr1' cs') (born P { target := .fn (.func fW) caps', args := #[] }) w #[]) ∧ FR P Fs R fr1 fr1' ∧ AVR (FFs Fs) R caps caps' := by
  obtain ⟨t, o, nx, c, s, hat, hop, hcal, hargs, hv, rfl⟩ := h
  obtain ⟨t', nx', hat', hk, ht, hok, hnx⟩ := hat.real hf
  have := ht.getD s
  rw [hv] at this
  have e1 : ∃ p' caps', t'.getD s undef = .func (.func fW) p' caps' ∧ p'.size = 0 ∧ AVR (FFs Fs) R caps caps' := by
    generalize t'.getD s undef = z at this
    cases this with
    | func hf hp hc ip ic => exact ⟨_, _, rfl, by simpa using hp.symm, hc, ic⟩
  obtain ⟨p', caps', e1, hp, hcaps⟩ := e1
  obtain rfl : p' = #[] := Array.eq_empty_of_size_eq_zero hp
  have hex : execOp (⟨t', []⟩ : Act).eval o = pure (.spawn { target := .fn (.func fW) caps', args := #[] }) := by
    unfold execOp
    rw [hop]
    show (resolve (⟨t', []⟩ : Act).eval c o.type >>= fun d => pure (Next.spawn d)) = _
    unfold resolve
    rw [hcal, hargs]
    simp only [Array.map_empty]
    show (Deferred.ofValue (t'.getD s undef) #[] >>= fun d => pure (Next.spawn d)) = _
    rw [e1]; rfl
  refine ⟨caps', nx' undef, fun w => ?_, hnx R (fun _ _ x => x) _ _ VR.undef, hcaps⟩
  rw [hat'.spawn (P := P) (main := true) (cs := cs') (w := w) (w1 := w) hk (by rw [hex]; rfl) rfl, listed_nil (by rw [hex]; rfl)]

/-- A child's first step: its function is entered. -/
theorem born_step (hP : OkProg P Fs) {f : FuncId} (hf : Fs f = true) (caps : Array Value) (w : World) : stepG P false (born P { target := .fn (.func f) caps, args := #[] }) w = .go (G (Frame.enter P f caps .deferred) [base P]) w #[] := by
  obtain ⟨fn, c, h1, h2, h3, h4⟩ := hP.body f hf
  have h5 : fn.body.isNone = false := by rw [h3]; rfl
  have hr : (invoke (.fn (.func f) caps) #[]).runT P w #[] = (.ok (.enter f caps) w, #[]) := by
    unfold invoke callFunc
    simp only [program, bind, Sem.bind, pure, Sem.runT, h1, h2, h5, Array.empty_append, Bool.false_eq_true, if_false]
  have e : stepG P false (born P { target := .fn (.func f) caps, args := #[] }) w = callDeferred P (base P) [] none { target := .fn (.func f) caps, args := #[] } w := rfl
  rw [e]
  unfold callDeferred
  dsimp only
  rw [hr]
  simp only [seen_none, GStep.after]
  simp
  rfl

theorem FR.enterD (hP : OkProg P Fs) {f : FuncId} (hf : Fs f = true) {as as' : Array Value} (h : AVR (FFs Fs) R as as') : FR P Fs R (Frame.enter P f as .deferred) (Frame.enter P f as' .deferred) := by
  obtain ⟨fn, c, h1, h2, h3, h4⟩ := hP.body f hf
  unfold Frame.enter
  simp only [h1, Option.map_some, Option.getD_some, Option.bind_some, h3]
  refine ⟨f, _, _, [.code c], .run, .deferred, rfl, rfl, hf, .inr rfl, .inl rfl, ?_, by simp [okItem, h4]⟩
  rw [← h.1]
  exact h.append (.replicate _ VR.undef)
end

/-! ### (2) -/
/-- From here the lone virtual machine comes to the stop, on every tape. -/
def Seg (P : Program) (Ch : Nat → Prop) (Q : VStop) (fr : Frame) (up : List Frame) (v : World) : Prop :=
  ∀ T d, ∃ frS upS vS, Steps P (lone fr (up ++ [trap]) (rt v T d)) (lone frS (upS ++ [trap]) vS) ∧ OkFr frS ∧ Q frS upS vS ∧ ∀ b o, Ch b → vS.heap[b]? = some o → ¬ IsMap o

theorem Seg.rt {P : Program} {Ch : Nat → Prop} {Q : VStop} {fr : Frame} {up : List Frame} {v : World} {T : Tape} {d : Nat} (h : Seg P Ch Q fr up (rt v T d)) : Seg P Ch Q fr up v := h

theorem way_of_seg {P : Program} {Fs : FuncId → Bool} {main : Bool} {bs : List Frame} {Ch : Nat → Prop} {Q : VStop} (hP : OkProg P Fs) {s : St} (hok : s.ok P Fs) (h : Seg P Ch Q s.fr s.up s.v) (hv : Veil Ch s.v) : ∃ t, Way P Fs main bs Ch Q t s :=
  way_of_ends hP hok (ends_of_steps fun T => h T s.v.drawn) hv

/-- A worker's script: its next place is e. -/
def WStop (P : Program) (Ch : Nat → Prop) (bO bC n len : Nat) (f : Nat → Int) : Nat → Nat → VStop
  | 0, e => fun fr up v => up = [] ∧ len ≤ e ∧ SendOp P bC fr
  | r + 1, e => fun fr up v => up = [] ∧ ((len ≤ e ∧ SendOp P bC fr) ∨ (e < len ∧ ∃ fr1, StoreOp P bO e (f e) fr fr1 ∧ Seg P Ch (WStop P Ch bO bC n len f r (e + n)) fr1 [] v))

def frzO : Obj → Obj
  | .cells c el _ => .cells c el (0, c.size)
  | o => o
def frz (v : World) : World := { v with heap := v.heap.map frzO }

/-- Goroutine 0's script from behind a receive, or from behind the last go statement: so many receives are left. -/
def RNext (P : Program) (Ch : Nat → Prop) (bC : Nat) (Fin : VStop) : Nat → VStop
  | 0 => Fin
  | r + 1 => Seg P Ch fun fr up v => ∃ fr1, RcvOp bC fr fr1 ∧ RNext P Ch bC Fin r fr1 up v

def GoAt (fW : FuncId) (ps : List Nat) (el0 : TypeId) (j : Nat) (fr fr1 : Frame) (v : World) : Prop := ∃ b, GoOp fW (#[.pointer (some ⟨b, 0, none⟩)] ++ (ps.map fun b => Value.pointer (some ⟨b, 0, none⟩)).toArray) fr fr1 ∧ v.heap[b]? = some (.cells #[.int .i64 j] el0 (0, 0))

/-- .. from behind a go statement, j workers being started. -/
def GNext (P : Program) (Ch : Nat → Prop) (fW : FuncId) (ps : List Nat) (el0 : TypeId) (bC n : Nat) (Fin : VStop) : Nat → VStop
  | 0 => RNext P Ch bC Fin n
  | s + 1 => Seg P Ch fun fr up v => ∃ fr1, GoAt fW ps el0 (n - (s + 1)) fr fr1 v ∧ GNext P Ch fW ps el0 bC n Fin s fr1 up (frz v)
end Go.Proofs.Ytmfglflahlddbaa.Sm
namespace Go.Proofs.Ytmfglflahlddbaa.Sm
open Go Go.Conc
open Go.ConcN (sumTo upd sumTo_upd upd_ne upd_same sumTo_congr)
set_option linter.unusedVariables false
set_option linter.unusedSimpArgs false

structure Job where
  P : Program
  Fs : FuncId → Bool
  fW : FuncId
  n : Nat
  len : Nat
  f : Nat → Int
  m : Nat
  H0 : Nat
  Old : Nat → Prop
  cO : Nat
  cC : Nat
  bO : Nat
  bC : Nat
  Rb : BR
  vb : World
  ps : List Nat
  el0 : TypeId
  wB : World
  elO : TypeId
  fzO : Nat × Nat
  szO : Nat
  tm : Bool
  s0 : Nat
  RB : BR
  nB : Nat
  Fin : VStop
  Ch : Nat → Prop

def Job.vx (J : Job) (x : Nat) : World := { J.vb with heap := J.vb.heap.push (.cells #[.int .i64 (x - 1 : Nat)] J.el0 (0, 1)) }
def Job.capsV (J : Job) : Array Value := #[.pointer (some ⟨J.vb.heap.size, 0, none⟩)] ++ (J.ps.map fun b => Value.pointer (some ⟨b, 0, none⟩)).toArray

structure Job.Ok (J : Job) : Prop where
  hP : OkProg J.P J.Fs
  hF : J.Fs J.fW = true
  hn : 1 ≤ J.n
  wr : WR (FFs J.Fs) J.Rb J.vb J.wB
  rO : J.Rb J.bO J.cO
  rC : J.Rb J.bC J.cC
  rps : ∀ b ∈ J.ps, ∃ c, J.Rb b c
  sub : ∀ b c, J.Rb b c → J.RB b c
  lay : ∀ b c, J.Rb b c → (RO J.vb b ∨ J.Ch b) ∧ (c = J.cO → ∀ off, ¬ Cl J.vb b off)
  vchan : Veil J.Ch J.vb
  H0 : J.H0 = J.wB.heap.size
  old : ∀ c, J.Old c → c < J.wB.heap.size
  oldR : ∀ b c, J.Rb b c → J.Old c
  out : ∃ y, J.wB.heap[J.cO]? = some (.cells y J.elO J.fzO) ∧ y.size = J.szO
  len : J.len ≤ J.szO
  unf : ∀ i, i < J.len → ¬ inFz J.fzO i
  chan : J.wB.heap[J.cC]? = some (.chan 0 #[] false J.s0 J.s0 J.tm)
  seg : ∀ k, k < J.n → Seg J.P J.Ch (WStop J.P J.Ch J.bO J.bC J.n J.len J.f (J.len + 1) k) (Frame.enter J.P J.fW J.capsV .deferred) [] (J.vx (k + 1))

/-! ### measures -/
abbrev Me := Nat × Tree
def Me.lt : Me → Me → Prop := Prod.Lex (fun a b : Nat => a < b) Tree.Lt
theorem Me.wf : WellFounded Me.lt := (Prod.lex ⟨_, Nat.lt_wfRel.wf⟩ ⟨_, Tree.wf⟩).wf
theorem Me.l {a b : Nat} (s t : Tree) (h : a < b) : Me.lt (a, s) (b, t) := .left _ _ h
theorem Me.r (a : Nat) {s t : Tree} (h : Tree.Lt s t) : Me.lt (a, s) (a, t) := .right _ h

def VLt : Nat → (Nat → Me) → (Nat → Me) → Prop
  | 0, _, _ => False
  | N + 1, f, g => Me.lt (f N) (g N) ∨ (f N = g N ∧ VLt N f g)
theorem VLt.wf : ∀ N, WellFounded (VLt N)
  | 0 => ⟨fun a => ⟨_, fun _ h => h.elim⟩⟩
  | N + 1 => by
    have h := (Prod.lex ⟨_, Me.wf⟩ ⟨_, VLt.wf N⟩ : WellFoundedRelation (Me × (Nat → Me))).wf
    refine Subrelation.wf (r := InvImage (Prod.Lex Me.lt (VLt N)) fun f : Nat → Me => (f N, f)) (fun {f g} hfg => ?_) (InvImage.wf _ h)
    rcases hfg with h1 | ⟨h1, h2⟩
    · exact .left _ _ h1
    · show Prod.Lex _ _ (f N, f) (g N, g)
      rw [h1]; exact .right _ h2
theorem VLt.upd {f : Nat → Me} {i : Nat} {a : Me} (h : Me.lt a (f i)) : ∀ {N}, i < N → VLt N (upd f i a) f
  | 0, hi => by omega
  | N + 1, hi => by
    by_cases e : i = N
    · subst e; exact .inl (by rw [upd_same]; exact h)
    · exact .inr ⟨upd_ne f a (Ne.symm e), VLt.upd h (by omega)⟩
def PLt (N : Nat) : Me × (Nat → Me) → Me × (Nat → Me) → Prop := Prod.Lex Me.lt (VLt N)
theorem PLt.wf (N : Nat) : WellFounded (PLt N) := (Prod.lex ⟨_, Me.wf⟩ ⟨_, VLt.wf N⟩).wf

/-! ### how many are joined -/
def cnt (n : Nat) (jd : Nat → Bool) : Nat := sumTo n fun k => if jd (k + 1) then 1 else 0
theorem cnt_le (jd : Nat → Bool) : ∀ n, cnt n jd ≤ n
  | 0 => Nat.le_refl _
  | n + 1 => by
    have := cnt_le jd n
    unfold cnt at this ⊢
    simp only [sumTo]
    split <;> omega
theorem cnt_free (jd : Nat → Bool) : ∀ n, cnt n jd < n → ∃ x, 1 ≤ x ∧ x ≤ n ∧ jd x = false
  | 0, h => by omega
  | n + 1, h => by
    cases e : jd (n + 1) with
    | false => exact ⟨n + 1, by omega, Nat.le_refl _, e⟩
    | true =>
      unfold cnt at h
      simp only [sumTo, e, if_true] at h
      obtain ⟨x, h1, h2, h3⟩ := cnt_free jd n (by unfold cnt; omega)
      exact ⟨x, h1, by omega, h3⟩
theorem cnt_full (jd : Nat → Bool) : ∀ n, cnt n jd = n → ∀ x, 1 ≤ x → x ≤ n → jd x = true
  | 0, _, x, h1, h2 => by omega
  | n + 1, h, x, h1, h2 => by
    have hle := cnt_le jd n
    unfold cnt at h hle
    simp only [sumTo] at h
    cases e : jd (n + 1) with
    | false => rw [e] at h; simp at h; omega
    | true =>
      rw [e] at h
      simp only [if_true] at h
      by_cases e2 : x = n + 1
      · rw [e2]; exact e
      · exact cnt_full jd n (by unfold cnt; omega) x h1 (by omega)
theorem cnt_upd {jd : Nat → Bool} {x : Nat} (h1 : 1 ≤ x) (hf : jd x = false) : ∀ n, x ≤ n → cnt n (upd jd x true) = cnt n jd + 1
  | 0, h => by omega
  | n + 1, h => by
    unfold cnt
    simp only [sumTo]
    by_cases e : x = n + 1
    · subst e
      rw [upd_same, hf, sumTo_congr (g := fun k => if jd (k + 1) then 1 else 0) (fun i hi => by rw [upd_ne jd true (by omega)])]
      simp
    · have := cnt_upd h1 hf n (by omega)
      unfold cnt at this
      rw [this, upd_ne jd true (by omega)]
      omega

/-! ### places -/
def OutAt (J : Job) (w : World) (i : Nat) (val : Int) : Prop := ∃ y, w.heap[J.cO]? = some (.cells y J.elO J.fzO) ∧ y[i]? = some (.int .i64 val)
def Done (J : Job) (w : World) (x e : Nat) : Prop := ∀ i, i < J.len → i % J.n + 1 = x → i < e → OutAt J w i (J.f i)

structure Com (J : Job) (g : Geo) (gs : Array Goroutine) (w : World) (t : Trace) (jd : Nat → Bool) : Prop where
  h0 : g.Old = J.Old
  hsz : J.H0 ≤ w.heap.size
  cO : g.cO = J.cO
  n : g.n = J.n
  j : g.j ≤ J.n
  ok : g.Ok w.heap.size
  size : gs.size = J.m + 1 + g.j
  out : ∃ y, w.heap[J.cO]? = some (.cells y J.elO J.fzO) ∧ y.size = J.szO
  outz : J.len = 0 → w.heap[J.cO]? = J.wB.heap[J.cO]?
  chan : w.heap[J.cC]? = some (.chan 0 #[] false (J.s0 + cnt J.n jd) (J.s0 + cnt J.n jd) J.tm)
  old : ∀ c, J.Old c → c ≠ J.cO → c ≠ J.cC → w.heap[c]? = J.wB.heap[c]?
  tape : w.tape = J.wB.tape
  os : w.os = J.wB.os
  outp : w.output = J.wB.output
  tr : TrI g J.m w.heap.size (fun x => 1 ≤ x ∧ x ≤ g.j ∧ jd x = false) t
  jall : ∀ x, jd x = true → 1 ≤ x ∧ x ≤ J.n ∧ g.j = J.n

structure Running (J : Job) (g : Geo) (w : World) (x : Nat) (t : Tree) (r e : Nat) (gr : Goroutine) (s : St) : Prop where
  gr : gr = G s.fr' (s.up' ++ [base J.P])
  ok : s.ok J.P J.Fs
  wr : WR (FFs J.Fs) s.R s.v w
  lay : Lay g x J.Ch s.R s.v
  veil : Veil J.Ch s.v
  sub : ∀ b c, J.Rb b c → s.R b c
  way : Way J.P J.Fs false [base J.P] J.Ch (WStop J.P J.Ch J.bO J.bC J.n J.len J.f r e) t s
  ex : e % J.n + 1 = x
  done : Done J w x e

inductive WSit (J : Job) (g : Geo) (w : World) (x : Nat) : Me → Goroutine → Bool → Prop
  | born {gr : Goroutine} {caps' : Array Value} (hg : gr = Conc.born J.P { target := .fn (.func J.fW) caps', args := #[] }) (hc : AVR (FFs J.Fs) (J.Rb.ext J.vb.heap.size (g.box x)) J.capsV caps')
      (hb : ∃ y fz, w.heap[g.box x]? = some (.cells y J.el0 fz) ∧ y[0]? = some (.int .i64 (x - 1 : Nat))) : WSit J g w x (J.len + 4, .leaf) gr false
  | run {gr : Goroutine} {t : Tree} {r e : Nat} {s : St} (h : Running J g w x t r e gr s) : WSit J g w x (r + 2, t) gr false
  | parked {gr g0 : Goroutine} {z : Value} (hg : gr = parked g0 #[scase J.cC (.bool true) z] .send) (hq : ∃ q, QuitsIn J.P q (Conc.served g0 undef)) (hd : Done J w x J.len) : WSit J g w x (1, .leaf) gr false
  | gone {gr : Goroutine} {q : Nat} (hq : QuitsIn J.P q gr) (hd : Done J w x J.len) : WSit J g w x (q, .leaf) gr true

structure ZR (J : Job) (g : Geo) (w : World) (s : St) : Prop where
  ok : s.ok J.P J.Fs
  wr : WR (FFs J.Fs) s.R s.v w
  lay : Lay g 0 J.Ch s.R s.v
  veil : Veil J.Ch s.v
  sub : ∀ b c, J.RB b c → s.R b c
  new : ∀ b c, s.R b c → J.RB b c ∨ (J.nB ≤ b ∧ J.H0 ≤ c)
  size : J.nB ≤ s.v.heap.size

def QG (J : Job) (j sp : Nat) : VStop := fun fr up v => ∃ fr1, GoAt J.fW J.ps J.el0 j fr fr1 v ∧ GNext J.P J.Ch J.fW J.ps J.el0 J.bC J.n J.Fin sp fr1 up (frz v)
def QR (J : Job) (r : Nat) : VStop := fun fr up v => ∃ fr1, RcvOp J.bC fr fr1 ∧ RNext J.P J.Ch J.bC J.Fin r fr1 up v

inductive ZSit (J : Job) (g : Geo) (w : World) (jd : Nat → Bool) : Me → Goroutine → Prop
  | go {gr : Goroutine} {s : St} {t : Tree} {sp : Nat} (hg : gr = G s.fr' s.up') (h : ZR J g w s) (hsp : g.j + sp + 1 = J.n) (hw : Way J.P J.Fs true [] J.Ch (QG J g.j sp) t s) : ZSit J g w jd (2 * (sp + 1 + J.n) + 1, t) gr
  | rc {gr : Goroutine} {s : St} {t : Tree} {r : Nat} (hg : gr = G s.fr' s.up') (h : ZR J g w s) (hj : g.j = J.n) (hr : cnt J.n jd + r + 1 = J.n) (hw : Way J.P J.Fs true [] J.Ch (QR J r) t s) : ZSit J g w jd (2 * (r + 1) + 1, t) gr
  | parked {gr g0 : Goroutine} {z : Value} {s : St} {r : Nat} (hg : gr = parked g0 #[rcase J.cC z] (.recv false)) (hs : Conc.served g0 (.bool true) = G s.fr' s.up') (h : ZR J g w s) (hj : g.j = J.n) (hr : cnt J.n jd + r + 1 = J.n)
      (hn : ∃ T d, RNext J.P J.Ch J.bC J.Fin r s.fr s.up (rt s.v T d)) : ZSit J g w jd (2 * (r + 1), .leaf) gr

/-- What y may count on while others act. -/
structure Keep (J : Job) (y : Nat) (g : Geo) (w : World) (g' : Geo) (w' : World) : Prop where
  wr : ∀ R v, WR (FFs J.Fs) R v w → Lay g y J.Ch R v → WR (FFs J.Fs) R v w'
  lay : ∀ R v, WR (FFs J.Fs) R v w → Lay g y J.Ch R v → Lay g' y J.Ch R v
  box : 1 ≤ y → y ≤ g.j → g'.box y = g.box y ∧ w'.heap[g.box y]? = w.heap[g.box y]?
  out : ∀ i val, i % J.n + 1 = y → OutAt J w i val → OutAt J w' i val

section
variable {J : Job} {g g' : Geo} {w w' : World} {x y : Nat} {gr : Goroutine} {μ : Me} {b : Bool} {jd : Nat → Bool}

theorem Done.keep {e : Nat} (h : Done J w y e) (hk : Keep J y g w g' w') : Done J w' y e := fun i h1 h2 h3 => hk.out i _ h2 (h i h1 h2 h3)

theorem WSit.keep (h : WSit J g w y μ gr b) (hk : Keep J y g w g' w') (h1 : 1 ≤ y) (h2 : y ≤ g.j) : WSit J g' w' y μ gr b := by
  cases h with
  | born hg hc hb =>
    obtain ⟨e1, e2⟩ := hk.box h1 h2
    exact .born hg (by rw [e1]; exact hc) (by rw [e1, e2]; exact hb)
  | run h => exact .run ⟨h.gr, h.ok, hk.wr _ _ h.wr h.lay, hk.lay _ _ h.wr h.lay, h.veil, h.sub, h.way, h.ex, h.done.keep hk⟩
  | parked hg hq hd => exact .parked hg hq (hd.keep hk)
  | gone hq hd => exact .gone hq (hd.keep hk)

theorem ZR.keep {s : St} (h : ZR J g w s) (hk : Keep J 0 g w g' w') : ZR J g' w' s := ⟨h.ok, hk.wr _ _ h.wr h.lay, hk.lay _ _ h.wr h.lay, h.veil, h.sub, h.new, h.size⟩
theorem ZSit.keep (h : ZSit J g w jd μ gr) (hk : Keep J 0 g w g' w') (hj : g'.j = g.j) : ZSit J g' w' jd μ gr := by
  cases h with
  | go hg h hsp hw => exact .go hg (h.keep hk) (by rw [hj]; exact hsp) (by rw [hj]; exact hw)
  | rc hg h hj' hr hw => exact .rc hg (h.keep hk) (hj.trans hj') hr hw
  | parked hg hs h hj' hr hn => exact .parked hg hs (h.keep hk) (hj.trans hj') hr hn

theorem keep_heap (h : w'.heap = w.heap) : Keep J y g w g w' :=
  ⟨fun R v hw _ => hw.heap' h, fun R v _ hl => hl, fun _ _ => ⟨rfl, by rw [h]⟩, fun i val _ ⟨z, h1, h2⟩ => ⟨z, by rw [h]; exact h1, h2⟩⟩

theorem keep_eff (he : Eff g x w w') (hok : g.Ok w.heap.size) (hcO : g.cO = J.cO) (hne : y ≠ x) : Keep J y g w (g.after w.heap.size x) w' := by
  refine ⟨fun R v hw hl => wr_other hw hl he hne, fun R v hw hl => lay_other (fun b c hb => (hw.lt hb).2) hl, fun h1 h2 => ⟨rfl, ?_⟩, fun i val _ ⟨z, h1, h2⟩ => ⟨z, ?_, h2⟩⟩
  · obtain ⟨a1, a2, a3⟩ := hok.box y h1 h2
    exact he.same _ a2 fun hm => hm.2.2 ⟨y, h1, h2, rfl⟩
  · have hlt : g.Old J.cO := hcO ▸ hok.cO
    rw [he.same _ (hok.h0 _ hlt) (Geo.not_mine_old hlt)]; exact h1

theorem keep_store {i : Nat} {val : Int} (hok : g.Ok w.heap.size) (hcO : g.cO = J.cO) (hout : ∃ y, w.heap[J.cO]? = some (.cells y J.elO J.fzO)) (hx : i % J.n + 1 = x) (hne : y ≠ x) :
    Keep J y g w (g.after w.heap.size x) (w.setCell ⟨J.cO, i, none⟩ (.int .i64 val)) := by
  obtain ⟨z, hz⟩ := hout
  have hlt : g.Old J.cO := hcO ▸ hok.cO
  have hset := setCell_heap w J.cO i (.int .i64 val) hz
  refine ⟨fun R v hw hl => wr_store hw (fun b hb => ?_) ⟨z, _, _, hz⟩, fun R v hw hl => lay_other (fun b c hb => (hw.lt hb).2) hl, fun h1 h2 => ⟨rfl, ?_⟩, fun k v2 hk ⟨z2, h1, h2⟩ => ?_⟩
  · rcases hl b _ hb with h | ⟨_, _, h⟩
    · exact absurd h (Geo.not_mine_old hlt)
    · exact h hcO.symm
  · obtain ⟨a1, a2, a3⟩ := hok.box y h1 h2
    rw [hset, if_neg (by rintro e; rw [e] at a1; exact a1 hlt)]
  · rw [hz] at h1
    simp only [Option.some.injEq, Obj.cells.injEq] at h1
    obtain ⟨rfl, _⟩ := h1
    refine ⟨z.setIfInBounds i (.int .i64 val), by rw [hset, if_pos rfl], ?_⟩
    have : i ≠ k := by rintro rfl; exact hne (hk.symm.trans hx)
    rw [Array.getElem?_setIfInBounds_ne this]; exact h2

theorem keep_chan {s s' d : Nat} {tm : Bool} (hok : g.Ok w.heap.size) (hc : w.heap[J.cC]? = some (.chan 0 #[] false s s tm)) (hlt : g.Old J.cC) (hout : ∃ y, w.heap[J.cO]? = some (.cells y J.elO J.fzO)) :
    Keep J y g w g ((w.at d).setChan J.cC 0 #[] false s' s' tm) := by
  obtain ⟨z, hz⟩ := hout
  have hne : J.cC ≠ J.cO := by intro e; rw [e, hz] at hc; cases hc
  refine ⟨fun R v hw hl => ?_, fun R v hw hl => hl, fun h1 h2 => ⟨rfl, ?_⟩, fun k v2 hk ⟨z2, h1, h2⟩ => ⟨z2, ?_, h2⟩⟩
  · exact wr_chan (w := w.at d) (WR.heap' (w := w) (w1 := w.at d) rfl hw) hc
  · obtain ⟨a1, a2, a3⟩ := hok.box y h1 h2
    show (w.heap.setIfInBounds J.cC _)[g.box y]? = _
    rw [Array.getElem?_setIfInBounds_ne (by rintro e; rw [← e] at a1; exact a1 hlt)]
  · show (w.heap.setIfInBounds J.cC _)[J.cO]? = _
    rw [Array.getElem?_setIfInBounds_ne hne]; exact h1

theorem box_spawned {c z : Nat} (h : g.Box z) : (g.spawned c).Box z := let ⟨y, a1, a2, a3⟩ := h
  ⟨y, a1, Nat.le_succ_of_le a2, by simp only [Geo.spawned]; rw [if_neg (by omega)]; exact a3⟩
theorem box_spawned' {c z : Nat} (h : (g.spawned c).Box z) : g.Box z ∨ z = c := by
  obtain ⟨y, a1, a2, a3⟩ := h
  simp only [Geo.spawned] at a2 a3
  by_cases e : y = g.j + 1
  · rw [if_pos e] at a3; exact .inr a3
  · rw [if_neg e] at a3; exact .inl ⟨y, a1, by omega, a3⟩
theorem box_same {c : Nat} (h : y ≤ g.j) : (g.spawned c).box y = g.box y := by simp only [Geo.spawned]; rw [if_neg (by omega)]

theorem keep_spawn {c : Nat} (hc : g.own c = 0) (h1 : 1 ≤ y) (h2 : y ≤ g.j) : Keep J y g w (g.spawned c) w := by
  refine ⟨fun R v hw _ => hw, fun R v hw hl b z hb => ?_, fun _ h => ⟨box_same h, rfl⟩, fun _ _ _ h => h⟩
  rcases hl b z hb with ⟨a1, a2, a3⟩ | ⟨a1, a2, a3⟩
  · refine .inl ⟨a1, a2, fun hb => ?_⟩
    rcases box_spawned' hb with hb | rfl
    · exact a3 hb
    · omega
  · refine .inr ⟨?_, a2, a3⟩
    rcases a1 with a1 | ⟨a1, a4⟩
    · exact .inl a1
    · exact .inr ⟨box_spawned a1, by rw [box_same h2]; exact a4⟩

theorem ok_spawned {c hs : Nat} (hok : g.Ok hs) (hc : g.own c = 0) (hc0 : ¬ g.Old c) (hlt : c < hs) (hb : ¬ g.Box c) : (g.spawned c).Ok hs := by
  refine ⟨hok.h0, hok.cO, fun y h1 h2 => ?_, fun y z h1 h2 h3 h4 e => ?_⟩
  · simp only [Geo.spawned] at h2 ⊢
    by_cases e : y = g.j + 1
    · simp only [e, if_true]; exact ⟨hc0, hlt, hc⟩
    · rw [if_neg e]; exact hok.box y h1 (by omega)
  · simp only [Geo.spawned] at h2 h4 e
    by_cases e1 : y = g.j + 1 <;> by_cases e2 : z = g.j + 1
    · omega
    · rw [if_pos e1, if_neg e2] at e
      exact absurd ⟨z, h3, by omega, e⟩ hb
    · rw [if_neg e1, if_pos e2] at e
      exact absurd ⟨y, h1, by omega, e.symm⟩ hb
    · rw [if_neg e1, if_neg e2] at e
      exact hok.inj y z h1 (by omega) h3 (by omega) e
end

/-! ### all frozen -/
section
variable {F : FuncId → Prop} {R : BR} {v w : World}
theorem frz_get (b : Nat) : (frz v).heap[b]? = (v.heap[b]?).map frzO := by simp [frz]
theorem frz_cells {b : Nat} {c : Array Value} {el : TypeId} {fz : Nat × Nat} (h : v.heap[b]? = some (.cells c el fz)) : (frz v).heap[b]? = some (.cells c el (0, c.size)) := by rw [frz_get, h]; rfl
theorem frz_non {b : Nat} {o : Obj} (h : v.heap[b]? = some o) (hn : ¬ IsCells o) : (frz v).heap[b]? = some o := by
  rw [frz_get, h]
  cases o <;> first | exact absurd trivial hn | rfl
theorem ro_frz {b : Nat} {c : Array Value} {el : TypeId} {fz : Nat × Nat} (h : v.heap[b]? = some (.cells c el fz)) : RO (frz v) b := ⟨c, el, _, frz_cells h, fun j hj => ⟨Nat.zero_le _, hj⟩⟩
theorem RO.frz {b : Nat} (h : RO v b) : RO (frz v) b := by
  obtain ⟨c, el, fz, h1, _⟩ := h
  exact ro_frz h1
theorem cl_frz {b off : Nat} (h : Cl (frz v) b off) : Cl v b off := by
  obtain ⟨c, el, fz, h1, h2⟩ := h
  rw [frz_get] at h1
  obtain ⟨o, ho, e⟩ := Option.map_eq_some_iff.1 h1
  cases o with
  | cells c2 el2 fz2 =>
    simp only [frzO, Obj.cells.injEq] at e
    obtain ⟨rfl, rfl, rfl⟩ := e
    exact ⟨c2, el2, fz2, ho, h2⟩
  | _ => cases e
theorem wr_frz (h : WR F R v w) : WR F R (frz v) w := by
  refine ⟨fun b c hb => ?_, h.fn, h.inj⟩
  · obtain ⟨o, o', ho, ho', hOR⟩ := h.obj b c hb
    refine ⟨frzO o, o', by rw [frz_get, ho]; rfl, ho', ?_⟩
    cases hOR with
    | cells h1 h2 => exact .cells h1 fun j hj hn => absurd ⟨Nat.zero_le _, hj⟩ hn
    | map hs h1 => exact .map hs h1
    | chan s s' tm => exact .chan s s' tm
    | number h l => exact .number h l
theorem veil_frz {Ch : Nat → Prop} (h : Veil Ch v) : Veil Ch (frz v) := fun b hb =>
  let ⟨o, h1, h2, h3⟩ := h b hb; ⟨o, frz_non h1 h2, h2, h3⟩

/-- Goroutine 0's blocks behind a go statement. -/
theorem lay_spawn {g : Geo} {Ch : Nat → Prop} {c : Nat} (hw : WR F R v w) (hl : Lay g 0 Ch R v) (hv : Veil Ch v) (hc : g.Mine 0 c) (hcO : g.Old g.cO) (hcb : ∀ b, R b c → ∃ y el fz, v.heap[b]? = some (.cells y el fz)) : Lay (g.spawned c) 0 Ch R (frz v) := by
  intro b z hb
  by_cases e : z = c
  · subst e
    obtain ⟨y, el, fz, h1⟩ := hcb b hb
    refine .inr ⟨.inr ⟨⟨g.j + 1, by omega, Nat.le_refl _, by simp [Geo.spawned]⟩, .inl rfl⟩, .inl (ro_frz h1), fun e => ?_⟩
    have e2 : z = g.cO := e
    exact absurd (by rw [e2]; exact hcO) hc.1
  · rcases hl b z hb with ⟨a1, a2, a3⟩ | ⟨a1, a2, a3⟩
    · refine .inl ⟨a1, a2, fun hb => ?_⟩
      rcases box_spawned' hb with hb | hb
      · exact a3 hb
      · exact e hb
    · refine .inr ⟨?_, a2.imp RO.frz id, fun e off hcl => a3 e off (cl_frz hcl)⟩
      rcases a1 with a1 | ⟨a1, a4⟩
      · exact .inl a1
      · exact .inr ⟨box_spawned a1, .inl rfl⟩
end
end Go.Proofs.Ytmfglflahlddbaa.Sm
namespace Go.Proofs.Ytmfglflahlddbaa.Sm
open Go Go.Conc
open Go.ConcN (sumTo upd sumTo_upd upd_ne upd_same sumTo_congr)
set_option linter.unusedVariables false
set_option linter.unusedSimpArgs false

structure PI (J : Job) (g : Geo) (jd : Nat → Bool) (μ : Me × (Nat → Me)) (gs : Array Goroutine) (w : World) (t : Trace) : Prop where
  com : Com J g gs w t jd
  z : ∃ gr, gs[0]? = some gr ∧ ZSit J g w jd μ.1 gr
  ws : ∀ x, 1 ≤ x → x ≤ g.j → ∃ gr, gs[J.m + x]? = some gr ∧ WSit J g w x (μ.2 (J.m + x)) gr (jd x)
  lv : ∀ i, 1 ≤ i → i ≤ J.m → ∃ gr, gs[i]? = some gr ∧ QuitsIn J.P (μ.2 i).1 gr ∧ (μ.2 i).2 = .leaf
  pk : ∀ gr, gs[0]? = some gr → gr.status = .blocked → ∀ x gr', 1 ≤ x → x ≤ g.j → gs[J.m + x]? = some gr' → gr'.status ≠ .blocked

structure PF (J : Job) (g : Geo) (q : Nat → Nat) (s : St) (gs : Array Goroutine) (w : World) (t : Trace) : Prop where
  com : ∃ jd, Com J g gs w t jd ∧ ∀ x, 1 ≤ x → x ≤ J.n → jd x = true
  j : g.j = J.n
  g0 : gs[0]? = some (G s.fr' s.up')
  zr : ZR J g w s
  fin : ∃ T d, J.Fin s.fr s.up (rt s.v T d)
  lv : ∀ i gr, 1 ≤ i → gs[i]? = some gr → QuitsIn J.P (q i) gr
  done : ∀ i, i < J.len → OutAt J w i (J.f i)

def Steady (J : Job) (gr : Goroutine) : Prop := gr.status = .running ∨ gr.status = .finished ∨ (∃ g0 z, gr = parked g0 #[scase J.cC (.bool true) z] .send) ∨ ∃ g0 z, gr = parked g0 #[rcase J.cC z] (.recv false)

section
variable {J : Job} {g : Geo} {jd : Nat → Bool} {μ : Me × (Nat → Me)} {gs : Array Goroutine} {w w1 : World} {t : Trace} {sl : Option (Nat × Nat)}

theorem WSit.steady {x : Nat} {m : Me} {gr : Goroutine} {b : Bool} (h : WSit J g w x m gr b) : Steady J gr := by
  cases h with
  | born hg => rw [hg]; exact .inl rfl
  | run h => rw [h.gr]; exact .inl rfl
  | parked hg => exact .inr (.inr (.inl ⟨_, _, hg⟩))
  | gone hq => exact hq.status.elim .inl fun h => .inr (.inl h)
theorem ZSit.steady {m : Me} {gr : Goroutine} (h : ZSit J g w jd m gr) : Steady J gr := by
  cases h with
  | go hg => rw [hg]; exact .inl rfl
  | rc hg => rw [hg]; exact .inl rfl
  | parked hg => exact .inr (.inr (.inr ⟨_, _, hg⟩))

/-- Who stands at place i. -/
theorem PI.who (h : PI J g jd μ gs w t) {i : Nat} {gr : Goroutine} (hi : gs[i]? = some gr) : i = 0 ∨ (1 ≤ i ∧ i ≤ J.m) ∨ ∃ x, 1 ≤ x ∧ x ≤ g.j ∧ i = J.m + x := by
  have := (Array.getElem?_eq_some_iff.1 hi).1
  have hs := h.com.size
  rcases Nat.eq_zero_or_pos i with h0 | h0
  · exact .inl h0
  · by_cases hm : i ≤ J.m
    · exact .inr (.inl ⟨h0, hm⟩)
    · exact .inr (.inr ⟨i - J.m, by omega, by omega, by omega⟩)

theorem PI.steady (h : PI J g jd μ gs w t) {i : Nat} {gr : Goroutine} (hi : gs[i]? = some gr) : Steady J gr := by
  rcases h.who hi with rfl | ⟨h1, h2⟩ | ⟨x, h1, h2, rfl⟩
  · obtain ⟨gr', h1, h2⟩ := h.z
    rw [hi] at h1
    obtain rfl := Option.some.inj h1
    exact h2.steady
  · obtain ⟨gr', a1, a2, _⟩ := h.lv i h1 h2
    rw [hi] at a1
    obtain rfl := Option.some.inj a1
    exact a2.status.elim .inl fun h => .inr (.inl h)
  · obtain ⟨gr', a1, a2⟩ := h.ws x h1 h2
    rw [hi] at a1
    obtain rfl := Option.some.inj a1
    exact a2.steady

theorem Steady.awake {gr : Goroutine} (h : Steady J gr) : awake gr := by
  rcases h with h | h | ⟨g0, z, rfl⟩ | ⟨g0, z, rfl⟩
  · exact awake_of (.inl h)
  · exact awake_of (.inr (.inr h))
  · exact awake_of (.inr (.inl rfl))
  · exact awake_of (.inr (.inl rfl))

theorem Steady.woken {gr a a' : Goroutine} (h : Steady J gr) {s r : Nat} {tm : Bool} (hc : w.heap[J.cC]? = some (.chan 0 #[] false s r tm)) : woken J.P a a' w gr = gr := by
  rcases h with h | h | ⟨g0, z, rfl⟩ | ⟨g0, z, rfl⟩
  · exact woken_run h
  · unfold Conc.woken
    split
    · exact again_running _ (.inr h)
    · rfl
  · exact woken_send_open a a' hc
  · exact woken_recv_open a a' hc

theorem woken_all (h : ∀ (i : Nat) gr, gs[i]? = some gr → Steady J gr) {a a' : Goroutine} {s r : Nat} {tm : Bool} (hc : w.heap[J.cC]? = some (.chan 0 #[] false s r tm)) : gs.map (woken J.P a a' w) = gs := by
  apply Array.ext_getElem?
  intro i
  rw [Array.getElem?_map]
  cases hi : gs[i]? with
  | none => rfl
  | some gr => simp only [Option.map_some]; rw [(h i gr hi).woken hc]

theorem Com.cC (hJ : J.Ok) (h : Com J g gs w t jd) : g.Old J.cC := by
  rw [h.h0]
  exact hJ.oldR _ _ hJ.rC
theorem Com.cOlt (h : Com J g gs w t jd) : g.Old J.cO := h.cO ▸ h.ok.cO

theorem Com.atd (h : Com J g gs w t jd) (d : Nat) : Com J g gs (w.at d) t jd := ⟨h.h0, h.hsz, h.cO, h.n, h.j, h.ok, h.size, h.out, h.outz, h.chan, h.old, h.tape, h.os, h.outp, h.tr, h.jall⟩
theorem Com.gsize (h : Com J g gs w t jd) {gs' : Array Goroutine} (hs : gs'.size = gs.size) : Com J g gs' w t jd := ⟨h.h0, h.hsz, h.cO, h.n, h.j, h.ok, hs.trans h.size, h.out, h.outz, h.chan, h.old, h.tape, h.os, h.outp, h.tr, h.jall⟩

theorem PI.atd (h : PI J g jd μ gs w t) (d : Nat) : PI J g jd μ gs (w.at d) t := by
  have hk : ∀ y, Keep J y g w g (w.at d) := fun y => keep_heap rfl
  refine ⟨h.com.atd d, ?_, fun x h1 h2 => ?_, h.lv, h.pk⟩
  · obtain ⟨gr, a1, a2⟩ := h.z
    exact ⟨gr, a1, a2.keep (hk 0) rfl⟩
  · obtain ⟨gr, a1, a2⟩ := h.ws x h1 h2
    exact ⟨gr, a1, a2.keep (hk x) h1 h2⟩

/-- The effect of an agent's own step. -/
theorem Com.eff (hJ : J.Ok) (h : Com J g gs w t jd) {x : Nat} (hx : x = 0 ∨ (1 ≤ x ∧ x ≤ g.j ∧ jd x = false)) (he : Eff g x w w1) {es : Array Event} {fn : FuncId} {pos : String} (hes : ∀ e ∈ es, EvOk (g.after w.heap.size x) x w1.heap.size e)
    {gs' : Array Goroutine} (hs : gs'.size = gs.size) : Com J (g.after w.heap.size x) gs' w1 (t ++ MemOp.ofEvents (gi J.m x) fn pos es) jd := by
  have hold : ∀ c, g.Old c → w1.heap[c]? = w.heap[c]? := fun c hc => he.same c (h.ok.h0 c hc) (Geo.not_mine_old hc)
  refine ⟨h.h0, Nat.le_trans h.hsz he.size, h.cO, h.n, h.j, h.ok.after he.size, hs.trans h.size, ?_, fun z => by rw [hold _ h.cOlt]; exact h.outz z, ?_, fun c h1 h2 h3 => ?_, he.tape.trans h.tape, he.os.trans h.os, he.out.trans h.outp, ?_, h.jall⟩
  · rw [hold _ h.cOlt]; exact h.out
  · rw [hold _ (h.cC hJ)]; exact h.chan
  · rw [hold c (by rw [h.h0]; exact h1)]; exact h.old c h1 h2 h3
  · exact h.tr.own h.ok.cO he.size (hx.imp id fun h => ⟨h.1, h⟩) (fun h => by omega) hes

theorem Com.cellsO (h : Com J g gs w t jd) : ∃ y el fz, w.heap[g.cO]? = some (.cells y el fz) := by
  obtain ⟨y, h1, _⟩ := h.out
  exact ⟨y, _, _, by rw [h.cO]; exact h1⟩

/-- A leaver's step: whoever he is. -/
theorem quit_step {i : Nat} {gr : Goroutine} {q : Nat} (h0 : 1 ≤ i) (hi : gs[i]? = some gr) (hq : QuitsIn J.P q gr) (hr : gr.status = .running) (hst : ∀ (i : Nat) gr, gs[i]? = some gr → Steady J gr) {s r : Nat} {tm : Bool} (hc : w.heap[J.cC]? = some (.chan 0 #[] false s r tm)) :
    ∃ m g', q = m + 1 ∧ QuitsIn J.P m g' ∧ runT J.P (crowd gs w sl) i = (.next (crowd (gs.setIfInBounds i g') w sl), #[]) := by
  obtain ⟨m, g', hm, hs, hq'⟩ := quits_run hq hr
  have e0 : (i == 0) = false := by simp; omega
  have hrunT := runT_crowd_go (P := J.P) (sl := sl) (i := i) hi (by rw [e0]; exact hs w)
  rw [ofEvents_none, woken_all hst hc] at hrunT
  exact ⟨m, g', hm, hq', hrunT⟩

/-- What is shown of a step. -/
def PStep (J : Job) (μ : Me × (Nat → Me)) (r : Stepped × Array MemOp) (t : Trace) : Prop := ∃ gs' w' sl' ops, r = (.next (crowd gs' w' sl'), ops) ∧ gs'.size ≤ J.m + J.n + 1 ∧
  ((∃ g' q s, PF J g' q s gs' w' (t ++ ops)) ∨ ∃ g' jd' μ', PLt (J.m + J.n + 1) μ' μ ∧ PI J g' jd' μ' gs' w' (t ++ ops))

theorem p_leaver (h : PI J g jd μ gs w t) {i : Nat} {gr : Goroutine} (h1 : 1 ≤ i) (h2 : i ≤ J.m) (hi : gs[i]? = some gr) (hr : gr.status = .running) : PStep J μ (runT J.P (crowd gs w sl) i) t := by
  obtain ⟨gr', a1, a2, a3⟩ := h.lv i h1 h2
  rw [hi] at a1
  obtain rfl := Option.some.inj a1
  obtain ⟨m, g', hm, hq', hrun⟩ := quit_step (sl := sl) h1 hi a2 hr (fun i gr => h.steady) h.com.chan
  have hlt := (Array.getElem?_eq_some_iff.1 hi).1
  have e1 : μ.2 i = (m + 1, .leaf) := by rw [← hm, ← a3]
  have hj := h.com.j
  have hsz := h.com.size
  refine ⟨_, _, _, _, hrun, by simp; omega, .inr ⟨g, jd, (μ.1, upd μ.2 i (m, .leaf)), .right _ (VLt.upd (by rw [e1]; exact Me.l _ _ (Nat.lt_succ_self m)) (by omega)), ?_⟩⟩
  rw [Array.append_empty]
  refine ⟨h.com.gsize (by simp), ?_, fun x x1 x2 => ?_, fun k k1 k2 => ?_, fun gr hgr hb x gr' x1 x2 hx => ?_⟩
  · rw [Array.getElem?_setIfInBounds_ne (by omega)]; exact h.z
  · rw [Array.getElem?_setIfInBounds_ne (by omega)]
    simp only
    rw [upd_ne μ.2 _ (by omega)]
    exact h.ws x x1 x2
  · by_cases e : k = i
    · subst e
      refine ⟨g', by rw [Array.getElem?_setIfInBounds_self_of_lt hlt], ?_⟩
      simp only
      rw [upd_same]
      exact ⟨hq', rfl⟩
    · rw [Array.getElem?_setIfInBounds_ne (Ne.symm e)]
      simp only
      rw [upd_ne μ.2 _ e]
      exact h.lv k k1 k2
  · rw [Array.getElem?_setIfInBounds_ne (by omega)] at hgr hx
    exact h.pk gr hgr hb x gr' x1 x2 hx
end
end Go.Proofs.Ytmfglflahlddbaa.Sm
namespace Go.Proofs.Ytmfglflahlddbaa.Sm
open Go Go.Conc
open Go.ConcN (sumTo upd sumTo_upd upd_ne upd_same sumTo_congr)
set_option linter.unusedVariables false
set_option linter.unusedSimpArgs false
section
variable {J : Job} {g : Geo} {jd : Nat → Bool} {μ : Me × (Nat → Me)} {gs : Array Goroutine} {w w1 : World} {t : Trace} {sl : Option (Nat × Nat)}

/-- A worker's place is laid anew. -/
theorem PI.set (h : PI J g jd μ gs w t) {x : Nat} (x1 : 1 ≤ x) (x2 : x ≤ g.j) {g' : Geo} {a : Me} {gr' : Goroutine} {w' : World} {t' : Trace} (hcom : Com J g' (gs.setIfInBounds (J.m + x) gr') w' t' jd) (hj : g'.j = g.j) (hk : ∀ y, y ≠ x → Keep J y g w g' w')
    (hs : WSit J g' w' x a gr' (jd x)) (hlt : Me.lt a (μ.2 (J.m + x))) (hb : gr'.status ≠ .blocked ∨ ∀ gr, gs[0]? = some gr → gr.status ≠ .blocked) :
    PLt (J.m + J.n + 1) (μ.1, upd μ.2 (J.m + x) a) μ ∧ PI J g' jd (μ.1, upd μ.2 (J.m + x) a) (gs.setIfInBounds (J.m + x) gr') w' t' := by
  have hjn := h.com.j
  have hsz := h.com.size
  refine ⟨.right _ (VLt.upd hlt (by omega)), hcom, ?_, fun y y1 y2 => ?_, fun k k1 k2 => ?_, fun gr hgr hbl y gr2 y1 y2 hy => ?_⟩
  · obtain ⟨gr, a1, a2⟩ := h.z
    exact ⟨gr, by rw [Array.getElem?_setIfInBounds_ne (by omega)]; exact a1, a2.keep (hk 0 (by omega)) hj⟩
  · rw [hj] at y2
    by_cases e : y = x
    · subst e
      refine ⟨gr', by rw [Array.getElem?_setIfInBounds_self_of_lt (by omega)], ?_⟩
      simp only
      rw [upd_same]
      exact hs
    · obtain ⟨gr, a1, a2⟩ := h.ws y y1 y2
      refine ⟨gr, by rw [Array.getElem?_setIfInBounds_ne (by omega)]; exact a1, ?_⟩
      simp only
      rw [upd_ne μ.2 _ (by omega)]
      exact a2.keep (hk y e) y1 y2
  · rw [Array.getElem?_setIfInBounds_ne (by omega)]
    simp only
    rw [upd_ne μ.2 _ (by omega)]
    exact h.lv k k1 k2
  · rw [Array.getElem?_setIfInBounds_ne (by omega)] at hgr
    rw [hj] at y2
    by_cases e : y = x
    · subst e
      rw [Array.getElem?_setIfInBounds_self_of_lt (by omega)] at hy
      obtain rfl := Option.some.inj hy
      exact hb.resolve_right fun hb => hb gr hgr hbl
    · rw [Array.getElem?_setIfInBounds_ne (by omega)] at hy
      exact h.pk gr hgr hbl y gr2 y1 y2 hy

theorem base_wr (hJ : J.Ok) (hC : Com J g gs w t jd) : WR (FFs J.Fs) J.Rb J.vb w := by
  refine ⟨fun b c hb => ?_, hJ.wr.fn, hJ.wr.inj⟩
  obtain ⟨o, o', ho, ho', hOR⟩ := hJ.wr.obj b c hb
  have hlt := (hJ.wr.lt hb).2
  by_cases e1 : c = J.cO
  · subst e1
    obtain ⟨y, hy, hys⟩ := hC.out
    obtain ⟨yB, hyB, _⟩ := hJ.out
    rw [hyB] at ho'
    simp only [Option.some.injEq] at ho'
    subst ho'
    cases hOR with
    | @cells z _ _ fz0 _ h1 h2 =>
      have hz : z.size = 0 := by
        rcases Nat.eq_zero_or_pos z.size with e | e
        · exact e
        · exact absurd ⟨z, _, fz0, ho, e⟩ ((hJ.lay b _ hb).2 rfl 0)
      exact ⟨_, _, ho, hy, .cells (fun j u hj => by have := (Array.getElem?_eq_some_iff.1 hj).1; omega) (fun j hj _ => by omega)⟩
  · by_cases e2 : c = J.cC
    · subst e2
      rw [hJ.chan] at ho'
      simp only [Option.some.injEq] at ho'
      subst ho'
      cases hOR with
      | chan s s' tm => exact ⟨_, _, ho, hC.chan, .chan _ _ _⟩
    · exact ⟨o, o', ho, by rw [hC.old c (hJ.oldR _ _ hb) e1 e2]; exact ho', hOR⟩

theorem steady_h (h : PI J g jd μ gs w t) : ∀ (i : Nat) gr, gs[i]? = some gr → Steady J gr := fun i gr => h.steady

/-- A worker takes a step of its own: what the machine does. -/
theorem worker_go (h : PI J g jd μ gs w t) {x : Nat} (x1 : 1 ≤ x) {gr gr' : Goroutine} {es : Array Event} (hi : gs[J.m + x]? = some gr) (hst : stepG J.P false gr w = .go gr' w1 es)
    (hc : ∃ s r tm, w1.heap[J.cC]? = some (.chan 0 #[] false s r tm)) : runT J.P (crowd gs w sl) (J.m + x) = (.next (crowd (gs.setIfInBounds (J.m + x) gr') w1 sl), MemOp.ofEvents (gi J.m x) gr.frame.fn gr.frame.place es) := by
  obtain ⟨s, r, tm, hc⟩ := hc
  have e0 : (J.m + x == 0) = false := by simp; omega
  have hrunT := runT_crowd_go (P := J.P) (sl := sl) (i := J.m + x) hi (by rw [e0]; exact hst)
  rw [woken_all (steady_h h) hc] at hrunT
  rw [hrunT]
  unfold gi
  rw [if_neg (by omega)]

theorem p_born (hJ : J.Ok) (h : PI J g jd μ gs w t) {x : Nat} (x1 : 1 ≤ x) (x2 : x ≤ g.j) {caps' : Array Value} (hi : gs[J.m + x]? = some (Conc.born J.P { target := .fn (.func J.fW) caps', args := #[] })) (hjd : jd x = false) (hμ : μ.2 (J.m + x) = (J.len + 4, .leaf))
    (hc : AVR (FFs J.Fs) (J.Rb.ext J.vb.heap.size (g.box x)) J.capsV caps') (hb : ∃ y fz, w.heap[g.box x]? = some (.cells y J.el0 fz) ∧ y[0]? = some (.int .i64 (x - 1 : Nat))) : PStep J μ (runT J.P (crowd gs w sl) (J.m + x)) t := by
  have hst := born_step hJ.hP hJ.hF caps' w
  have hrun := worker_go (sl := sl) h x1 hi hst ⟨_, _, _, h.com.chan⟩
  rw [ofEvents_none] at hrun
  obtain ⟨b1, b2, b3⟩ := h.com.ok.box x x1 x2
  have hwb := base_wr hJ h.com
  have hjn := h.com.j
  let s : St := ⟨J.Rb.ext J.vb.heap.size (g.box x), J.vx x, Frame.enter J.P J.fW J.capsV .deferred, Frame.enter J.P J.fW caps' .deferred, [], []⟩
  have hvx : ∀ (b : Nat) (o : Obj), J.vb.heap[b]? = some o → (J.vx x).heap[b]? = some o := by
    intro b o ho
    have := (Array.getElem?_eq_some_iff.1 ho).1
    show (J.vb.heap.push _)[b]? = _
    rw [Array.getElem?_push, if_neg (by omega)]; exact ho
  have hvn : (J.vx x).heap[J.vb.heap.size]? = some (.cells #[.int .i64 (x - 1 : Nat)] J.el0 (0, 1)) := by
    show (J.vb.heap.push _)[J.vb.heap.size]? = _
    simp
  have ro_x : ∀ b, RO J.vb b → RO (J.vx x) b := fun b ⟨c, el, fz, h1, h2⟩ => ⟨c, el, fz, hvx _ _ h1, h2⟩
  have hok : s.ok J.P J.Fs := ⟨FR.enterD hJ.hP hJ.hF hc, trivial⟩
  have hwr : WR (FFs J.Fs) s.R s.v w := by
    refine ⟨fun b c hbc => ?_, fun b c c' h1 h2 => ?_, fun b b' c h1 h2 => ?_⟩
    · rcases hbc with hbc | ⟨rfl, rfl⟩
      · obtain ⟨o, o', ho, ho', hOR⟩ := hwb.obj b c hbc
        exact ⟨o, o', hvx _ _ ho, ho', hOR.mono fun _ _ z => .inl z⟩
      · obtain ⟨y, fz, hy, hy0⟩ := hb
        refine ⟨_, _, hvn, hy, .cells (fun j u hj => ?_) (fun j hj hn => ?_)⟩
        · have hj0 : j = 0 := by
            have := (Array.getElem?_eq_some_iff.1 hj).1
            simp at this; exact this
          subst hj0
          simp only [List.getElem?_toArray, List.getElem?_cons_zero, Option.some.injEq] at hj
          subst hj
          exact ⟨_, hy0, .int _ _⟩
        · exact absurd ⟨Nat.zero_le _, by simpa using hj⟩ hn
    · rcases h1 with h1 | ⟨rfl, rfl⟩ <;> rcases h2 with h2 | ⟨e1, e2⟩
      · exact hwb.fn _ _ _ h1 h2
      · have := (hwb.lt h1).1; omega
      · have := (hwb.lt h2).1; omega
      · exact e2
    · rcases h1 with h1 | ⟨rfl, rfl⟩ <;> rcases h2 with h2 | ⟨e1, e2⟩
      · exact hwb.inj _ _ _ h1 h2
      · have := hJ.oldR _ _ h1; rw [← h.com.h0, e2] at this; exact absurd this b1
      · have := hJ.oldR _ _ h2; rw [← h.com.h0] at this; exact absurd this b1
      · exact e1.symm
  have hlay : Lay g x J.Ch s.R s.v := by
    intro b c hbc
    rcases hbc with hbc | ⟨rfl, rfl⟩
    · obtain ⟨l1, l2⟩ := hJ.lay b c hbc
      have hlt := (hJ.wr.lt hbc)
      refine .inr ⟨.inl (by rw [h.com.h0]; exact hJ.oldR _ _ hbc), l1.imp (ro_x b) id, fun e off hcl => ?_⟩
      refine l2 (by rw [e, h.com.cO]) off ?_
      obtain ⟨z, el, fz, z1, z2⟩ := hcl
      have ho : J.vb.heap[b]? = some J.vb.heap[b] := by simp [hlt.1]
      rw [show s.v.heap[b]? = _ from hvx _ _ ho] at z1
      exact ⟨z, el, fz, by rw [ho]; exact z1, z2⟩
    · refine .inr ⟨.inr ⟨⟨x, x1, x2, rfl⟩, .inr rfl⟩, .inl ⟨_, _, _, hvn, fun j hj => ⟨Nat.zero_le _, by simpa using hj⟩⟩, fun e => ?_⟩
      exact absurd (by rw [e]; exact h.com.ok.cO) b1
  have hveil : Veil J.Ch s.v := by
    intro b hb
    obtain ⟨o, h1, h2, h3⟩ := hJ.vchan b hb
    exact ⟨o, hvx _ _ h1, h2, h3⟩
  obtain ⟨k, rfl⟩ : ∃ k, x = k + 1 := ⟨x - 1, by omega⟩
  obtain ⟨tr, hway⟩ := way_of_seg (main := false) (bs := [base J.P]) hJ.hP hok (hJ.seg k (by omega)) hveil
  have hrunning : Running J g w (k + 1) tr (J.len + 1) k (G (Frame.enter J.P J.fW caps' .deferred) [base J.P]) s := by
    refine ⟨rfl, hok, hwr, hlay, hveil, fun _ _ z => .inl z, hway, by rw [Nat.mod_eq_of_lt (by omega)], fun i i1 i2 i3 => ?_⟩
    have : i % J.n = i := Nat.mod_eq_of_lt (by omega)
    omega
  have hnew := h.set x1 x2 (h.com.gsize (gs' := gs.setIfInBounds (J.m + (k + 1)) (G (Frame.enter J.P J.fW caps' .deferred) [base J.P])) (by simp)) rfl (fun y _ => keep_heap rfl)
    (by rw [hjd]; exact .run hrunning) (by rw [hμ]; exact Me.l _ _ (by omega)) (.inl (by simp [G]))
  have hsz := h.com.size
  exact ⟨_, _, _, _, hrun, by simp; omega, .inr ⟨_, _, _, hnew.1, by rw [Array.append_empty]; exact hnew.2⟩⟩

/-- A worker's followed step. -/
theorem p_walk (hJ : J.Ok) (h : PI J g jd μ gs w t) {x : Nat} (x1 : 1 ≤ x) (x2 : x ≤ g.j) {gr : Goroutine} (hi : gs[J.m + x]? = some gr) (hjd : jd x = false) {f : World → Tree} {r e : Nat} {s s1 : St} (hμ : μ.2 (J.m + x) = (r + 2, .node f)) (hR : Running J g w x (.node f) r e gr s)
    {es : Array Event} (hn : Nx J.P J.Fs false [base J.P] J.Ch s s1 w w1 es) (hw : Way J.P J.Fs false [base J.P] J.Ch (WStop J.P J.Ch J.bO J.bC J.n J.len J.f r e) (f w) s1) : PStep J μ (runT J.P (crowd gs w sl) (J.m + x)) t := by
  obtain ⟨u, hu, hst⟩ := hn.st
  have he := lay_eff h.com.ok hu hR.wr hst hR.lay hR.veil hn.ch
  have hv1 : Veil J.Ch s1.v := fun b hb => by
    obtain ⟨o, h1, h2, h3⟩ := hR.veil b hb
    exact ⟨o, by rw [hn.ch b hb]; exact h1, h2, h3⟩
  have hl1 := lay_next h.com.ok hu hR.wr hst hR.lay
  have hsame : ∀ c, g.Old c → w1.heap[c]? = w.heap[c]? := fun c hc => he.same c (h.com.ok.h0 c hc) (Geo.not_mine_old hc)
  have hcells : ∃ y el fz, w1.heap[(g.after w.heap.size x).cO]? = some (.cells y el fz) := by
    obtain ⟨y, el, fz, hy⟩ := h.com.cellsO
    exact ⟨y, el, fz, by rw [show (g.after w.heap.size x).cO = g.cO from rfl, hsame _ h.com.ok.cO]; exact hy⟩
  have hes : ∀ e ∈ es, EvOk (g.after w.heap.size x) x w1.heap.size e := fun e he => ev_ok hl1 hst.wr hv1 hcells (hst.evs e he)
  have hstep := hn.step
  rw [← hR.gr] at hstep
  have hrun := worker_go (sl := sl) h x1 hi hstep ⟨_, _, _, by rw [hsame _ (h.com.cC hJ)]; exact h.com.chan⟩
  have hcom := h.com.eff hJ (.inr ⟨x1, x2, hjd⟩) he (fn := gr.frame.fn) (pos := gr.frame.place) hes (gs' := gs.setIfInBounds (J.m + x) (G s1.fr' (s1.up' ++ [base J.P]))) (by simp)
  have hdone : Done J w1 x e := fun i i1 i2 i3 => by
    obtain ⟨y, y1, y2⟩ := hR.done i i1 i2 i3
    exact ⟨y, by rw [hsame _ h.com.cOlt]; exact y1, y2⟩
  have hnew := h.set x1 x2 hcom rfl (fun y hy => keep_eff he h.com.ok h.com.cO hy)
    (by rw [hjd]; exact .run (s := s1) ⟨rfl, hn.ok, hst.wr, hl1, hv1, fun b c hb => hst.ext _ _ (hR.sub b c hb), hw, hR.ex, hdone⟩) (by rw [hμ]; exact Me.r _ (.mk f w)) (.inl (by simp [G]))
  have hsz := h.com.size
  have hjn := h.com.j
  exact ⟨_, _, _, _, hrun, by simp; omega, .inr ⟨_, _, _, hnew.1, hnew.2⟩⟩

theorem mod_next {i e n : Nat} (h : i % n = e % n) (h1 : e ≤ i) (h2 : i < e + n) : i = e := by
  have := Nat.sub_mod_eq_zero_of_mod_eq h
  have h3 : i - e < n := by omega
  rw [Nat.mod_eq_of_lt h3] at this
  omega

/-- A worker lays a result into its place. -/
theorem p_store (hJ : J.Ok) (h : PI J g jd μ gs w t) {x : Nat} (x1 : 1 ≤ x) (x2 : x ≤ g.j) {gr : Goroutine} (hi : gs[J.m + x]? = some gr) (hjd : jd x = false) {tr : Tree} {r e : Nat} {s : St} (hμ : μ.2 (J.m + x) = (r + 1 + 2, tr)) (hR : Running J g w x tr (r + 1) e gr s)
    {fr1 : Frame} (hup : s.up = []) (he : e < J.len) (hop : StoreOp J.P J.bO e (J.f e) s.fr fr1) (hseg : Seg J.P J.Ch (WStop J.P J.Ch J.bO J.bC J.n J.len J.f r (e + J.n)) fr1 [] s.v) : PStep J μ (runT J.P (crowd gs w sl) (J.m + x)) t := by
  have hup' : s.up' = [] := by
    have := hR.ok.2
    rw [hup] at this
    cases hh : s.up' with
    | nil => rfl
    | cons a l => rw [hh] at this; exact this.elim
  obtain ⟨y, hy, hys⟩ := h.com.out
  have hlen := hJ.len
  have hcell : (w.cell? ⟨J.cO, e, none⟩).isSome = true := by
    simp only [World.cell?, hy]
    simp; omega
  have hfrz : w.frozen? ⟨J.cO, e, none⟩ = false := by
    simp only [World.frozen?, hy]
    have := hJ.unf e he
    simp only [inFz, not_and, Nat.not_lt] at this
    cases hh : decide (J.fzO.1 ≤ e) with
    | true => simp only [decide_eq_true_eq] at hh; simp [hh, this hh]
    | false => simp
  have hfn : ∀ c, s.R J.bO c → c = J.cO := fun c hc => hR.wr.fn _ _ _ (hR.sub _ _ hJ.rO) hc
  obtain ⟨fr1', es, hst, hes, hfr⟩ := hop.real (P := J.P) (Fs := J.Fs) (cs := s.up' ++ [base J.P]) (main := false) hR.ok.1 hfn hcell hfrz
  rw [← hR.gr] at hst
  have hset := setCell_heap w J.cO e (.int .i64 (J.f e)) hy
  have hcne : J.cC ≠ J.cO := by intro e1; have := h.com.chan; rw [e1, hy] at this; cases this
  have hrun := worker_go (sl := sl) h x1 hi hst ⟨_, _, _, by rw [hset, if_neg hcne]; exact h.com.chan⟩
  have hsz1 : (w.setCell ⟨J.cO, e, none⟩ (.int .i64 (J.f e))).heap.size = w.heap.size := by simp [World.setCell]
  have hx : e % g.n + 1 = x := by rw [h.com.n]; exact hR.ex
  have hevs : ∀ ev ∈ es, EvOk (g.after w.heap.size x) x (w.setCell ⟨J.cO, e, none⟩ (.int .i64 (J.f e))).heap.size ev := by
    intro ev hev
    rw [hes ev hev]
    refine ⟨fun a ha => ?_, fun m hm => by cases hm⟩
    simp only [ofEvent_cell0, MemAct.touch?, Option.some.injEq] at ha
    subst ha
    refine ⟨.inr (.inr ⟨_, rfl, h.com.cO.symm, hx⟩), ?_⟩
    rw [hsz1]
    exact (Array.getElem?_eq_some_iff.1 hy).1
  have hcom : Com J (g.after w.heap.size x) (gs.setIfInBounds (J.m + x) (G fr1' (s.up' ++ [base J.P]))) (w.setCell ⟨J.cO, e, none⟩ (.int .i64 (J.f e))) (t ++ MemOp.ofEvents (gi J.m x) gr.frame.fn gr.frame.place es) jd := by
    refine ⟨h.com.h0, by rw [hsz1]; exact h.com.hsz, h.com.cO, h.com.n, h.com.j, h.com.ok.after (by rw [hsz1]; exact Nat.le_refl _), by simp [h.com.size, Geo.after], ⟨_, by rw [hset, if_pos rfl], by simp [hys]⟩, fun z => by omega, by rw [hset, if_neg hcne]; exact h.com.chan, fun c c1 c2 c3 => by rw [hset, if_neg c2]; exact h.com.old c c1 c2 c3,
      h.com.tape, h.com.os, h.com.outp, ?_, h.com.jall⟩
    exact h.com.tr.own h.com.ok.cO (by rw [hsz1]; exact Nat.le_refl _) (.inr ⟨x1, x1, x2, hjd⟩) (fun z => by omega) hevs
  let s1 : St := ⟨s.R, s.v, fr1, fr1', [], []⟩
  have hok1 : s1.ok J.P J.Fs := ⟨hfr, trivial⟩
  obtain ⟨tr1, hway⟩ := way_of_seg (main := false) (bs := [base J.P]) hJ.hP hok1 hseg hR.veil
  have hno : ∀ b, s.R b J.cO → ∀ off, ¬ Cl s.v b off := by
    intro b hb
    rcases hR.lay b _ hb with hm | ⟨_, _, hm⟩
    · exact absurd hm (Geo.not_mine_old h.com.cOlt)
    · exact hm h.com.cO.symm
  have hdone : Done J (w.setCell ⟨J.cO, e, none⟩ (.int .i64 (J.f e))) x (e + J.n) := by
    intro i i1 i2 i3
    refine ⟨y.setIfInBounds e (.int .i64 (J.f e)), by rw [hset, if_pos rfl], ?_⟩
    by_cases hie : i = e
    · subst hie
      rw [Array.getElem?_setIfInBounds_self_of_lt (by omega)]
    · have hlt : i < e := by
        rcases Nat.lt_or_ge i e with h1 | h1
        · exact h1
        · exact absurd (mod_next (by have := hR.ex; omega) h1 i3) hie
      obtain ⟨y2, z1, z2⟩ := hR.done i i1 i2 hlt
      rw [hy] at z1
      simp only [Option.some.injEq, Obj.cells.injEq] at z1
      obtain ⟨rfl, _⟩ := z1
      rw [Array.getElem?_setIfInBounds_ne (Ne.symm hie)]; exact z2
  have hex2 : (e + J.n) % J.n + 1 = x := by rw [Nat.add_mod_right]; exact hR.ex
  have hnew := h.set x1 x2 hcom rfl (fun z hz => keep_store h.com.ok h.com.cO ⟨y, hy⟩ hR.ex hz)
    (by rw [hjd]; exact .run (s := s1) ⟨by rw [hup'], hok1, wr_store hR.wr hno ⟨y, _, _, hy⟩, lay_other (fun b c hb => (hR.wr.lt hb).2) hR.lay, hR.veil, hR.sub, hway, hex2, hdone⟩) (by rw [hμ]; exact Me.l _ _ (by omega)) (.inl (by simp [G]))
  have hsz := h.com.size
  have hjn := h.com.j
  exact ⟨_, _, _, _, hrun, by simp; omega, .inr ⟨_, _, _, hnew.1, hnew.2⟩⟩
end
end Go.Proofs.Ytmfglflahlddbaa.Sm
