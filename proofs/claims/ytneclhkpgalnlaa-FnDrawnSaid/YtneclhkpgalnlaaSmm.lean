/-
  GOROUTINE 0 BESIDE LEAVERS: its way is carried out by the machine, on whatever tape; and the end of the run.
-/
import Derived.Test.YtneclhkpgalnlaaSml
import Derived.Conc.Own4
import Derived.Conc.Pipeline3
namespace Go.Proofs.Ytneclhkpgalnlaa.Sm
open Go Go.Conc
open Go.ConcN (sumTo upd sumTo_upd upd_ne upd_same sumTo_congr)
set_option linter.unusedVariables false
set_option linter.unusedSimpArgs false

theorem quits_run {P : Program} {n : Nat} {g : Goroutine} (h : QuitsIn P n g) (hr : g.status = .running) : ∃ m g', n = m + 1 ∧ (∀ w, stepG P false g w = .go g' w #[]) ∧ QuitsIn P m g' := by
  cases n with
  | zero => rw [show g.status = .finished from h] at hr; cases hr
  | succ m =>
    rcases h with h | ⟨_, g', h1, h2⟩
    · rw [h] at hr; cases hr
    · exact ⟨m, g', rfl, h1, h2⟩
theorem woken_quits {P : Program} {g g' b : Goroutine} {w' : World} {k : Nat} (hB : QuitsIn P k b) : woken P g g' w' b = b := by
  unfold woken
  split
  · exact again_running _ hB.status
  · rfl
theorem ofEvents_none (i : Nat) (fn : FuncId) (pos : String) : MemOp.ofEvents i fn pos #[] = #[] := by rw [ofEvents_eq]; simp

/-- A block that the goroutine may not write stands. -/
theorem same_block {F : FuncId → Prop} {R R1 : BR} {Ch : Nat → Prop} {u v v1 w w1 : World} {es : Array Event} (hu : u.heap = v.heap) (hwr : WR F R v w) (hst : Stretch F R R1 u v1 w w1 es) (hv : Veil Ch v) (hk : ∀ b, Ch b → v1.heap[b]? = v.heap[b]?)
    {c : Nat} (hc : c < w.heap.size) (hb : ∀ b, R b c → RO v b ∨ Ch b) : w1.heap[c]? = w.heap[c]? := by
  refine Classical.byCases (p := ∃ b, R b c) (fun ⟨b, hbc⟩ => ?_) fun h => hst.keepR.off c hc fun b hb => h ⟨b, hb⟩
  have noUn : ∀ b' off, R b' c → ¬ Un u b' off := by
    intro b' off hb' hun
    have hun : Un v b' off := by unfold Un at hun ⊢; rw [hu] at hun; exact hun
    rcases hb b' hb' with h | h
    · exact h.not_un hun
    · obtain ⟨o, ho, hn, _⟩ := hv b' h
      exact not_un_non ho hn hun
  obtain ⟨o, o', ho, ho', hOR⟩ := hwr.obj b c hbc
  by_cases hcl : IsCells o'
  · cases o' with
    | cells y el fz =>
      obtain ⟨y1, a1, a2, a3⟩ := hst.keepR.cells c y el fz ho'
      have : y1 = y := by
        apply Array.ext_getElem?
        intro off
        rcases a3 off with e | ⟨b', hb', hun⟩
        · exact e
        · exact absurd hun (noUn b' off hb')
      rw [a1, ho', this]
    | _ => exact hcl.elim
  · rcases hst.obj b c o' hbc ho' hcl with e | ⟨o1, e, hmap⟩
    · rw [e, ho']
    · exfalso
      rcases hb b hbc with h | h
      · obtain ⟨y, el, fz, h1, _⟩ := h
        rw [ho] at h1
        simp only [Option.some.injEq] at h1
        subst h1
        cases hOR
        exact hcl trivial
      · obtain ⟨o2, ho2, _, hn⟩ := hv b h
        rw [hk b h, ho2] at e
        simp only [Option.some.injEq] at e
        subst e
        exact hn hmap

structure Calm (P : Program) (Fs : FuncId → Bool) (H : Nat) (W : World) (Ch : Nat → Prop) (gs : Array Goroutine) (w : World) (t : Trace) (q : Nat → Nat) (s : St) : Prop where
  g0 : gs[0]? = some (G s.fr' s.up')
  ok : s.ok P Fs
  wr : WR (FFs Fs) s.R s.v w
  lay : ∀ b c, s.R b c → c < H → RO s.v b
  veil : Veil Ch s.v
  hle : H ≤ w.heap.size
  old : ∀ c, c < H → w.heap[c]? = W.heap[c]?
  tape : w.tape = W.tape
  os : w.os = W.os
  out : w.output = W.output
  lv : ∀ i g, 0 < i → gs[i]? = some g → QuitsIn P (q i) g
  nr : ∀ said, ¬ Race said t
  wl : Wordless t
  kn : ∀ i a, touchAt t i = some a → a.loc.isMemory = true → Knows t 0 i

section
variable {P : Program} {Fs : FuncId → Bool} {H : Nat} {W : World} {Ch : Nat → Prop} {Q : VStop}

theorem Calm.at {gs : Array Goroutine} {w : World} {t : Trace} {q : Nat → Nat} {s : St} (h : Calm P Fs H W Ch gs w t q s) (d : Nat) : Calm P Fs H W Ch gs (w.at d) t q s :=
  ⟨h.g0, h.ok, WR.heap' (w := w) (w1 := w.at d) rfl h.wr, h.lay, h.veil, h.hle, h.old, h.tape, h.os, h.out, h.lv, h.nr, h.wl, h.kn⟩

theorem Calm.awake {gs : Array Goroutine} {w : World} {t : Trace} {q : Nat → Nat} {s : St} (h : Calm P Fs H W Ch gs w t q s) : ∀ g ∈ gs, awake g := by
  intro g hg
  obtain ⟨i, hi, rfl⟩ := Array.mem_iff_getElem.1 hg
  rcases Nat.eq_zero_or_pos i with rfl | hpos
  · have : gs[0] = G s.fr' s.up' := by simpa [Array.getElem?_eq_getElem hi] using h.g0
    rw [this]; exact awake_of (.inl rfl)
  · exact awake_of ((h.lv i _ hpos (Array.getElem?_eq_getElem hi)).status.elim .inl fun x => .inr (.inr x))

/-- A leaver's step. -/
theorem Calm.slip {gs : Array Goroutine} {w : World} {sl : Option (Nat × Nat)} {t : Trace} {q : Nat → Nat} {s : St} (h : Calm P Fs H W Ch gs w t q s) {i : Nat} {g : Goroutine} (hi0 : 0 < i) (hi : gs[i]? = some g) (hg : g.status = .running) :
    ∃ gs' q', runT P (crowd gs w sl) i = (.next (crowd gs' w sl), #[]) ∧ gs'.size = gs.size ∧ Calm P Fs H W Ch gs' w t q' s ∧ sumTo gs.size q' < sumTo gs.size q := by
  obtain ⟨m, g', hm, hst, hq'⟩ := quits_run (h.lv i g hi0 hi) hg
  have hlt : i < gs.size := (Array.getElem?_eq_some_iff.1 hi).1
  have e0 : (i == 0) = false := by simp; omega
  have hrunT := runT_crowd_go (P := P) (sl := sl) (i := i) hi (by rw [e0]; exact hst w)
  rw [ofEvents_none] at hrunT
  have hsum : sumTo gs.size (upd q i m) + (m + 1) = sumTo gs.size q + m := by
    have := sumTo_upd q m id hlt
    simpa [hm] using this
  refine ⟨_, upd q i m, hrunT, by simp, { h with g0 := ?_, lv := fun j x hj hx => ?_ }, by omega⟩
  · have hne : i ≠ 0 := by omega
    rw [Array.getElem?_setIfInBounds_ne hne, Array.getElem?_map, h.g0]
    simp [woken_run]
    exact woken_run rfl
  · by_cases hji : i = j
    · subst hji
      rw [Array.getElem?_setIfInBounds_self_of_lt (by simpa using hlt)] at hx
      obtain rfl := Option.some.inj hx
      rw [upd_same]; exact hq'
    · rw [Array.getElem?_setIfInBounds_ne hji, Array.getElem?_map] at hx
      obtain ⟨y, hy, rfl⟩ := Option.map_eq_some_iff.1 hx
      have hqj := h.lv j y hj hy
      rw [woken_quits hqj, upd_ne q m (Ne.symm hji)]
      exact hqj

/-- Goroutine 0's step. -/
theorem Calm.step {gs : Array Goroutine} {w w1 : World} {sl : Option (Nat × Nat)} {t : Trace} {q : Nat → Nat} {s s1 : St} {es : Array Event} (h : Calm P Fs H W Ch gs w t q s) (hn : Nx P Fs true [] Ch s s1 w w1 es) :
    ∃ gs', runT P (crowd gs w sl) 0 = (.next (crowd gs' w1 sl), MemOp.ofEvents 0 s.fr'.fn s.fr'.place es) ∧ gs'.size = gs.size ∧ Calm P Fs H W Ch gs' w1 (t ++ MemOp.ofEvents 0 s.fr'.fn s.fr'.place es) q s1 := by
  obtain ⟨u, hu, hst⟩ := hn.st
  have hstep := hn.step
  simp only [List.append_nil] at hstep
  have hrunT := runT_crowd_go (P := P) (sl := sl) (i := 0) h.g0 (show stepG P (0 == 0) _ w = _ from hstep)
  have hlt : 0 < gs.size := (Array.getElem?_eq_some_iff.1 h.g0).1
  have hug : ∀ op ∈ MemOp.ofEvents 0 s.fr'.fn s.fr'.place es, op.g = 0 := fun op hop => by obtain ⟨e, _, rfl⟩ := Conc.mem_ofEvents hop; rfl
  refine ⟨_, hrunT, by simp, ?_⟩
  refine { g0 := by simp [hlt], ok := hn.ok, wr := hst.wr, lay := fun b c hb hc => ?_, veil := fun b hb => ?_, hle := Nat.le_trans h.hle hst.keepR.size, old := fun c hc => ?_,
           tape := hst.tape'.trans h.tape, os := hst.os'.trans h.os, out := hst.out'.trans h.out, lv := fun j x hj hx => ?_, nr := fun said => ?_, wl := h.wl.append (wordless_ofEvents fun e he => ev_mark (hst.evs e he)), kn := fun i a ha hm => ?_ }
  · rcases hst.new b c hb with hb | ⟨_, hc'⟩
    · have := h.lay b c hb hc
      exact hst.keepV.ro (by unfold RO at this ⊢; rw [hu]; exact this)
    · have := h.hle; omega
  · obtain ⟨o, ho, h1, h2⟩ := h.veil b hb
    exact ⟨o, by rw [hn.ch b hb]; exact ho, h1, h2⟩
  · rw [← h.old c hc]
    exact same_block hu h.wr hst h.veil hn.ch (Nat.lt_of_lt_of_le hc h.hle) fun b hb => .inl (h.lay b c hb hc)
  · have hne : 0 ≠ j := by omega
    rw [Array.getElem?_setIfInBounds_ne hne, Array.getElem?_map] at hx
    obtain ⟨y, hy, rfl⟩ := Option.map_eq_some_iff.1 hx
    have hqj := h.lv j y hj hy
    rw [woken_quits hqj]; exact hqj
  · exact noRace_append (h.nr said) hug fun i a ha op hop b hb hc => h.kn i a ha hc.2.1
  · rcases touchAt_app ha with ⟨op, ho, ha'⟩ | ⟨op, ho, hou, _⟩
    · exact (h.kn i a ha' hm).app _
    · have := knows_own ho
      rwa [hug op hou] at this

/-- ████ TO THE STOP ████ -/
theorem calm_way : ∀ (μ : Tree × Nat) (gs : Array Goroutine) (w : World) (sl : Option (Nat × Nat)) (t : Trace) (q : Nat → Nat) (s : St), μ.2 = sumTo gs.size q → Calm P Fs H W Ch gs w t q s → Way P Fs true [] Ch Q μ.1 s →
    ∃ N gs' w' sl' t' q' s', runNT P N (crowd gs w sl) t = (.next (crowd gs' w' sl'), t') ∧ gs'.size = gs.size ∧ Calm P Fs H W Ch gs' w' t' q' s' ∧ s'.at Q := by
  have wf : WellFounded (Prod.Lex Tree.Lt (fun a b : Nat => a < b)) := (Prod.lex ⟨_, Tree.wf⟩ ⟨_, Nat.lt_wfRel.wf⟩).wf
  intro μ
  induction μ using wf.induction with
  | _ μ ih =>
    intro gs w sl t q s hμ hC hW
    obtain ⟨tr, sm⟩ := μ
    simp only at hμ hW
    cases tr with
    | leaf => exact ⟨0, gs, w, sl, t, q, s, rfl, rfl, hC, hW⟩
    | node f =>
      rcases hW with hat | hnext
      · exact ⟨0, gs, w, sl, t, q, s, rfl, rfl, hC, hat⟩
      obtain ⟨i, g, d, sl', hi, hg, hst⟩ := crowd_pick (P := P) (w := w) (sl := sl) hC.awake ⟨0, _, hC.g0, rfl⟩
      have hC' := hC.at d
      rcases Nat.eq_zero_or_pos i with rfl | hpos
      · obtain ⟨s1, w1, es, hn, hw1⟩ := hnext (w.at d) hC'.wr
        obtain ⟨gs', hr, hs', hC1⟩ := hC'.step (sl := sl') hn
        obtain ⟨N, gs2, w2, sl2, t2, q2, s2, h1, h2, h3, h4⟩ := ih (f (w.at d), sumTo gs'.size q) (.left _ _ (.mk f _)) gs' w1 sl' _ q s1 rfl hC1 hw1
        exact ⟨N + 1, gs2, w2, sl2, t2, q2, s2, by rw [runNT_succ_next (hst.trans hr)]; exact h1, h2.trans hs', h3, h4⟩
      · obtain ⟨gs', q', hr, hs', hC1, hlt⟩ := hC'.slip (sl := sl') hpos hi hg
        obtain ⟨N, gs2, w2, sl2, t2, q2, s2, h1, h2, h3, h4⟩ := ih (.node f, sumTo gs'.size q') (.right _ (by rw [hμ, hs']; exact hlt)) gs' (w.at d) sl' t q' s rfl hC1 (.inr hnext)
        exact ⟨N + 1, gs2, w2, sl2, t2, q2, s2, by rw [runNT_succ_next (hst.trans hr), Array.append_empty]; exact h1, h2.trans hs', h3, h4⟩

/-- The outermost function stands ahead of its return. -/
def QEnd (P : Program) (f : FuncId) (b : Bool) : VStop := fun fr up v => up = [] ∧ ∃ t todo fn sl, fr = { (B f .normal).at ⟨t, []⟩ todo with mode := .returning } ∧ P.funcs[f]? = some fn ∧ fn.results = #[.tmp sl] ∧ t.getD sl undef = .bool b

theorem end_step {f : FuncId} (hi : P.inits.idxOf? f = none) {b : Bool} {s : St} (hok : s.ok P Fs) (hat : s.at (QEnd P f b)) (w : World) : stepG P true (G s.fr' s.up') w = .ended (.done (.bool b)) w #[] := by
  obtain ⟨T, d, hup, t, todo, fn, sl, hfr, hf, hres, hv⟩ := hat
  obtain ⟨h1, h2⟩ := hok
  obtain ⟨fn0, t0, t', todo0, mode, kind, e1, e2, h3, h4, h5, h6, h7⟩ := h1
  rw [hup] at h2
  have hup' : s.up' = [] := by cases he : s.up' with
    | nil => rfl
    | cons a l => rw [he] at h2; exact h2.elim
  rw [e1] at hfr
  simp only [Frame.at, B, Frame.mk.injEq] at hfr
  obtain ⟨rfl, rfl, rfl, _, rfl, rfl, _⟩ := hfr
  have hv' : t'.getD sl undef = .bool b := by
    have := h6.getD sl
    rw [hv] at this
    generalize t'.getD sl undef = z at this
    cases this; rfl
  rw [hup', e2]
  have e := stepG_return (P := P) (main := true) (fn := fn0) (kind := .normal) (todo := todo0) (t := t') (cs := []) (w := w) (w1 := w) (x := .bool b) (es := #[]) hf (by
    have h1 := Sem.runT_fst P (results fn t') w #[]
    rw [results_tmp hres, hv'] at h1
    have h2 : ((results fn t').runT P w #[]).2 = #[] := events_results_tmp hres t' #[]
    exact Prod.ext h1 h2)
  have e3 : ({ fn := fn0, tmps := t', todo := todo0, defers := [], mode := .returning, kind := .normal, roundOf := none } : Frame) = { (B fn0 .normal).at ⟨t', []⟩ todo0 with mode := .returning } := rfl
  rw [e3, e]
  simp [doReturn, Frame.at, B, hi, GStep.after, seen_none]

/-- ████ THE END ████ -/
theorem calm_end {f : FuncId} (hi : P.inits.idxOf? f = none) {b : Bool} {Post : Value → World → Prop}
    (hpost : ∀ w', H ≤ w'.heap.size → (∀ c, c < H → w'.heap[c]? = W.heap[c]?) → w'.tape = W.tape → w'.os = W.os → w'.output = W.output → Post (.bool b) w') :
    ∀ (μ : Nat) (gs : Array Goroutine) (w : World) (sl : Option (Nat × Nat)) (t : Trace) (q : Nat → Nat) (s : St), μ = sumTo gs.size q → Calm P Fs H W Ch gs w t q s → s.at (QEnd P f b) →
    ∃ N last o w' t', runNT P (N + 1) (crowd gs w sl) t = (.ended o w', t') ∧ runN P N (crowd gs w sl) = .next last ∧ step P last = .ended o w' ∧ Good P Post last o w' t' := by
  intro μ
  induction μ using Nat.strongRecOn with
  | _ μ ih =>
    intro gs w sl t q s hμ hC hat
    obtain ⟨i, g, d, sl', hi', hg, hst⟩ := crowd_pick (P := P) (w := w) (sl := sl) hC.awake ⟨0, _, hC.g0, rfl⟩
    have hC' := hC.at d
    rcases Nat.eq_zero_or_pos i with rfl | hpos
    · have hrunT := runT_many_ended (P := P) (sl := sl') (i := 0) hC.g0 (show stepG P (0 == 0) _ (w.at d) = _ from end_step hi hC.ok hat (w.at d))
      rw [ofEvents_none] at hrunT
      have hs := hst.trans hrunT
      refine ⟨0, crowd gs w sl, _, _, t, by simp [runNT, hs], rfl, by simp [step, hs], .bool b, rfl, hpost _ hC'.hle hC'.old hC'.tape hC'.os hC'.out, hC.nr, fun j g hg hne hc => ?_, ⟨fun x hx => ?_, rfl⟩, fun j x hx hj => ?_⟩
      · obtain ⟨x, hx, hm, _⟩ := hc
        have hk := hC.kn j x hx hm
        obtain ⟨p, z, h1, h2, h3⟩ := hk
        rcases h3 with rfl | h3
        · exact absurd (by simpa [Trace.g?, h1, h2] using hg.symm) hne
        · exact ⟨p, by simp [Trace.g?, h1, h2], h3⟩
      · obtain ⟨j, hj⟩ := List.mem_iff_getElem?.1 hx
        rw [List.getElem?_drop] at hj
        exact ⟨_, (hC.lv (1 + j) x (by omega) (by simpa [crowd] using hj)).leaves⟩
      · have hq := hC.lv j x (by omega) hx
        refine ⟨q j, ?_⟩
        rw [hC.wl.deaf]
        exact hq.hears _ _
    · obtain ⟨gs', q', hr, hs', hC1, hlt⟩ := hC'.slip (sl := sl') hpos hi' hg
      obtain ⟨N, last, o, w', t', h1, h2, h3, h4⟩ := ih (sumTo gs'.size q') (by rw [hμ, hs']; exact hlt) gs' (w.at d) sl' t q' s rfl hC1 hat
      have hs := hst.trans hr
      exact ⟨N + 1, last, o, w', t', by rw [runNT_succ_next hs, Array.append_empty]; exact h1, by rw [runN_succ_next hs]; exact h2, h3, h4⟩
end
end Go.Proofs.Ytneclhkpgalnlaa.Sm
