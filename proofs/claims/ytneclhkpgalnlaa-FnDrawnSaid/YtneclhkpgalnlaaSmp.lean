/-
  WORKERS JOINED OVER A CHANNEL: every step of the machine keeps the order and lowers the measure, or is the last receive.
-/
import Derived.Test.YtneclhkpgalnlaaSmo
namespace Go.Proofs.Ytneclhkpgalnlaa.Sm
open Go Go.Conc
open Go.ConcN (sumTo upd sumTo_upd upd_ne upd_same sumTo_congr)
set_option linter.unusedVariables false
set_option linter.unusedSimpArgs false

structure PI (J : Job) (g : Geo) (jd : Nat → Bool) (μ : Me × (Nat → Me)) (gs : Array Goroutine) (w : World) (t : Trace) : Prop where
  com : Com J g gs w t jd
  z : ∃ gr, gs[0]? = some gr ∧ ZSit J g w jd μ.1 gr
  ws : ∀ x, 1 ≤ x → x ≤ g.j → ∃ gr, gs[J.m + x]? = some gr ∧ WSit J g w x (μ.2 (J.m + x)) gr (jd x)
  lv : ∀ i, 1 ≤ i → i ≤ J.m → ∃ gr, gs[i]? = some gr ∧ QuitsIn J.P (μ.2 i).1 gr ∧ (μ.2 i).2 = .leaf
  pk : ∀ gr, gs[0]? = some gr → gr.status = .blocked → ∀ x gr', 1 ≤ x → x ≤ g.j → gs[J.m + x]? = some gr' → gr'.status ≠ .blocked

structure PF (J : Job) (g : Geo) (q : Nat → Nat) (s : St) (gs : Array Goroutine) (w : World) (t : Trace) : Prop where
  com : ∃ jd, Com J g gs w t jd ∧ ∀ x, 1 ≤ x → x ≤ J.n → jd x = true
  j : g.j = J.n
  g0 : gs[0]? = some (G s.fr' s.up')
  zr : ZR J g w s
  fin : ∃ T d, J.Fin s.fr s.up (rt s.v T d)
  lv : ∀ i gr, 1 ≤ i → gs[i]? = some gr → QuitsIn J.P (q i) gr
  done : ∀ i, i < J.len → OutAt J w i (J.f i)

def Steady (J : Job) (gr : Goroutine) : Prop := gr.status = .running ∨ gr.status = .finished ∨ (∃ g0 z, gr = parked g0 #[scase J.cC (.bool true) z] .send) ∨ ∃ g0 z, gr = parked g0 #[rcase J.cC z] (.recv false)

section
variable {J : Job} {g : Geo} {jd : Nat → Bool} {μ : Me × (Nat → Me)} {gs : Array Goroutine} {w w1 : World} {t : Trace} {sl : Option (Nat × Nat)}

theorem WSit.steady {x : Nat} {m : Me} {gr : Goroutine} {b : Bool} (h : WSit J g w x m gr b) : Steady J gr := by
  cases h with
  | born hg => rw [hg]; exact .inl rfl
  | run h => rw [h.gr]; exact .inl rfl
  | parked hg => exact .inr (.inr (.inl ⟨_, _, hg⟩))
  | gone hq => exact hq.status.elim .inl fun h => .inr (.inl h)
theorem ZSit.steady {m : Me} {gr : Goroutine} (h : ZSit J g w jd m gr) : Steady J gr := by
  cases h with
  | go hg => rw [hg]; exact .inl rfl
  | rc hg => rw [hg]; exact .inl rfl
  | parked hg => exact .inr (.inr (.inr ⟨_, _, hg⟩))

/-- Who stands at place i. -/
theorem PI.who (h : PI J g jd μ gs w t) {i : Nat} {gr : Goroutine} (hi : gs[i]? = some gr) : i = 0 ∨ (1 ≤ i ∧ i ≤ J.m) ∨ ∃ x, 1 ≤ x ∧ x ≤ g.j ∧ i = J.m + x := by
  have := (Array.getElem?_eq_some_iff.1 hi).1
  have hs := h.com.size
  rcases Nat.eq_zero_or_pos i with h0 | h0
  · exact .inl h0
  · by_cases hm : i ≤ J.m
    · exact .inr (.inl ⟨h0, hm⟩)
    · exact .inr (.inr ⟨i - J.m, by omega, by omega, by omega⟩)

theorem PI.steady (h : PI J g jd μ gs w t) {i : Nat} {gr : Goroutine} (hi : gs[i]? = some gr) : Steady J gr := by
  rcases h.who hi with rfl | ⟨h1, h2⟩ | ⟨x, h1, h2, rfl⟩
  · obtain ⟨gr', h1, h2⟩ := h.z
    rw [hi] at h1
    obtain rfl := Option.some.inj h1
    exact h2.steady
  · obtain ⟨gr', a1, a2, _⟩ := h.lv i h1 h2
    rw [hi] at a1
    obtain rfl := Option.some.inj a1
    exact a2.status.elim .inl fun h => .inr (.inl h)
  · obtain ⟨gr', a1, a2⟩ := h.ws x h1 h2
    rw [hi] at a1
    obtain rfl := Option.some.inj a1
    exact a2.steady

theorem Steady.awake {gr : Goroutine} (h : Steady J gr) : awake gr := by
  rcases h with h | h | ⟨g0, z, rfl⟩ | ⟨g0, z, rfl⟩
  · exact awake_of (.inl h)
  · exact awake_of (.inr (.inr h))
  · exact awake_of (.inr (.inl rfl))
  · exact awake_of (.inr (.inl rfl))

theorem Steady.woken {gr a a' : Goroutine} (h : Steady J gr) {s r : Nat} {tm : Bool} (hc : w.heap[J.cC]? = some (.chan 0 #[] false s r tm)) : woken J.P a a' w gr = gr := by
  rcases h with h | h | ⟨g0, z, rfl⟩ | ⟨g0, z, rfl⟩
  · exact woken_run h
  · unfold Conc.woken
    split
    · exact again_running _ (.inr h)
    · rfl
  · exact woken_send_open a a' hc
  · exact woken_recv_open a a' hc

theorem woken_all (h : ∀ (i : Nat) gr, gs[i]? = some gr → Steady J gr) {a a' : Goroutine} {s r : Nat} {tm : Bool} (hc : w.heap[J.cC]? = some (.chan 0 #[] false s r tm)) : gs.map (woken J.P a a' w) = gs := by
  apply Array.ext_getElem?
  intro i
  rw [Array.getElem?_map]
  cases hi : gs[i]? with
  | none => rfl
  | some gr => simp only [Option.map_some]; rw [(h i gr hi).woken hc]

theorem Com.cC (hJ : J.Ok) (h : Com J g gs w t jd) : g.Old J.cC := by
  rw [h.h0]
  exact hJ.oldR _ _ hJ.rC
theorem Com.cOlt (h : Com J g gs w t jd) : g.Old J.cO := h.cO ▸ h.ok.cO

theorem Com.atd (h : Com J g gs w t jd) (d : Nat) : Com J g gs (w.at d) t jd := ⟨h.h0, h.hsz, h.cO, h.n, h.j, h.ok, h.size, h.out, h.outz, h.chan, h.old, h.tape, h.os, h.outp, h.tr, h.jall⟩
theorem Com.gsize (h : Com J g gs w t jd) {gs' : Array Goroutine} (hs : gs'.size = gs.size) : Com J g gs' w t jd := ⟨h.h0, h.hsz, h.cO, h.n, h.j, h.ok, hs.trans h.size, h.out, h.outz, h.chan, h.old, h.tape, h.os, h.outp, h.tr, h.jall⟩

theorem PI.atd (h : PI J g jd μ gs w t) (d : Nat) : PI J g jd μ gs (w.at d) t := by
  have hk : ∀ y, Keep J y g w g (w.at d) := fun y => keep_heap rfl
  refine ⟨h.com.atd d, ?_, fun x h1 h2 => ?_, h.lv, h.pk⟩
  · obtain ⟨gr, a1, a2⟩ := h.z
    exact ⟨gr, a1, a2.keep (hk 0) rfl⟩
  · obtain ⟨gr, a1, a2⟩ := h.ws x h1 h2
    exact ⟨gr, a1, a2.keep (hk x) h1 h2⟩

/-- The effect of an agent's own step. -/
theorem Com.eff (hJ : J.Ok) (h : Com J g gs w t jd) {x : Nat} (hx : x = 0 ∨ (1 ≤ x ∧ x ≤ g.j ∧ jd x = false)) (he : Eff g x w w1) {es : Array Event} {fn : FuncId} {pos : String} (hes : ∀ e ∈ es, EvOk (g.after w.heap.size x) x w1.heap.size e)
    {gs' : Array Goroutine} (hs : gs'.size = gs.size) : Com J (g.after w.heap.size x) gs' w1 (t ++ MemOp.ofEvents (gi J.m x) fn pos es) jd := by
  have hold : ∀ c, g.Old c → w1.heap[c]? = w.heap[c]? := fun c hc => he.same c (h.ok.h0 c hc) (Geo.not_mine_old hc)
  refine ⟨h.h0, Nat.le_trans h.hsz he.size, h.cO, h.n, h.j, h.ok.after he.size, hs.trans h.size, ?_, fun z => by rw [hold _ h.cOlt]; exact h.outz z, ?_, fun c h1 h2 h3 => ?_, he.tape.trans h.tape, he.os.trans h.os, he.out.trans h.outp, ?_, h.jall⟩
  · rw [hold _ h.cOlt]; exact h.out
  · rw [hold _ (h.cC hJ)]; exact h.chan
  · rw [hold c (by rw [h.h0]; exact h1)]; exact h.old c h1 h2 h3
  · exact h.tr.own h.ok.cO he.size (hx.imp id fun h => ⟨h.1, h⟩) (fun h => by omega) hes

theorem Com.cellsO (h : Com J g gs w t jd) : ∃ y el fz, w.heap[g.cO]? = some (.cells y el fz) := by
  obtain ⟨y, h1, _⟩ := h.out
  exact ⟨y, _, _, by rw [h.cO]; exact h1⟩

/-- A leaver's step: whoever he is. -/
theorem quit_step {i : Nat} {gr : Goroutine} {q : Nat} (h0 : 1 ≤ i) (hi : gs[i]? = some gr) (hq : QuitsIn J.P q gr) (hr : gr.status = .running) (hst : ∀ (i : Nat) gr, gs[i]? = some gr → Steady J gr) {s r : Nat} {tm : Bool} (hc : w.heap[J.cC]? = some (.chan 0 #[] false s r tm)) :
    ∃ m g', q = m + 1 ∧ QuitsIn J.P m g' ∧ runT J.P (crowd gs w sl) i = (.next (crowd (gs.setIfInBounds i g') w sl), #[]) := by
  obtain ⟨m, g', hm, hs, hq'⟩ := quits_run hq hr
  have e0 : (i == 0) = false := by simp; omega
  have hrunT := runT_crowd_go (P := J.P) (sl := sl) (i := i) hi (by rw [e0]; exact hs w)
  rw [ofEvents_none, woken_all hst hc] at hrunT
  exact ⟨m, g', hm, hq', hrunT⟩

/-- What is shown of a step. -/
def PStep (J : Job) (μ : Me × (Nat → Me)) (r : Stepped × Array MemOp) (t : Trace) : Prop := ∃ gs' w' sl' ops, r = (.next (crowd gs' w' sl'), ops) ∧ gs'.size ≤ J.m + J.n + 1 ∧
  ((∃ g' q s, PF J g' q s gs' w' (t ++ ops)) ∨ ∃ g' jd' μ', PLt (J.m + J.n + 1) μ' μ ∧ PI J g' jd' μ' gs' w' (t ++ ops))

theorem p_leaver (h : PI J g jd μ gs w t) {i : Nat} {gr : Goroutine} (h1 : 1 ≤ i) (h2 : i ≤ J.m) (hi : gs[i]? = some gr) (hr : gr.status = .running) : PStep J μ (runT J.P (crowd gs w sl) i) t := by
  obtain ⟨gr', a1, a2, a3⟩ := h.lv i h1 h2
  rw [hi] at a1
  obtain rfl := Option.some.inj a1
  obtain ⟨m, g', hm, hq', hrun⟩ := quit_step (sl := sl) h1 hi a2 hr (fun i gr => h.steady) h.com.chan
  have hlt := (Array.getElem?_eq_some_iff.1 hi).1
  have e1 : μ.2 i = (m + 1, .leaf) := by rw [← hm, ← a3]
  have hj := h.com.j
  have hsz := h.com.size
  refine ⟨_, _, _, _, hrun, by simp; omega, .inr ⟨g, jd, (μ.1, upd μ.2 i (m, .leaf)), .right _ (VLt.upd (by rw [e1]; exact Me.l _ _ (Nat.lt_succ_self m)) (by omega)), ?_⟩⟩
  rw [Array.append_empty]
  refine ⟨h.com.gsize (by simp), ?_, fun x x1 x2 => ?_, fun k k1 k2 => ?_, fun gr hgr hb x gr' x1 x2 hx => ?_⟩
  · rw [Array.getElem?_setIfInBounds_ne (by omega)]; exact h.z
  · rw [Array.getElem?_setIfInBounds_ne (by omega)]
    simp only
    rw [upd_ne μ.2 _ (by omega)]
    exact h.ws x x1 x2
  · by_cases e : k = i
    · subst e
      refine ⟨g', by rw [Array.getElem?_setIfInBounds_self_of_lt hlt], ?_⟩
      simp only
      rw [upd_same]
      exact ⟨hq', rfl⟩
    · rw [Array.getElem?_setIfInBounds_ne (Ne.symm e)]
      simp only
      rw [upd_ne μ.2 _ e]
      exact h.lv k k1 k2
  · rw [Array.getElem?_setIfInBounds_ne (by omega)] at hgr hx
    exact h.pk gr hgr hb x gr' x1 x2 hx
end
end Go.Proofs.Ytneclhkpgalnlaa.Sm
