/-
  WORKERS JOINED OVER A CHANNEL: a worker's steps.
-/
import Derived.Test.YtneclhkpgalnlaaSmp
namespace Go.Proofs.Ytneclhkpgalnlaa.Sm
open Go Go.Conc
open Go.ConcN (sumTo upd sumTo_upd upd_ne upd_same sumTo_congr)
set_option linter.unusedVariables false
set_option linter.unusedSimpArgs false
section
variable {J : Job} {g : Geo} {jd : Nat → Bool} {μ : Me × (Nat → Me)} {gs : Array Goroutine} {w w1 : World} {t : Trace} {sl : Option (Nat × Nat)}

/-- A worker's place is laid anew. -/
theorem PI.set (h : PI J g jd μ gs w t) {x : Nat} (x1 : 1 ≤ x) (x2 : x ≤ g.j) {g' : Geo} {a : Me} {gr' : Goroutine} {w' : World} {t' : Trace} (hcom : Com J g' (gs.setIfInBounds (J.m + x) gr') w' t' jd) (hj : g'.j = g.j) (hk : ∀ y, y ≠ x → Keep J y g w g' w')
    (hs : WSit J g' w' x a gr' (jd x)) (hlt : Me.lt a (μ.2 (J.m + x))) (hb : gr'.status ≠ .blocked ∨ ∀ gr, gs[0]? = some gr → gr.status ≠ .blocked) :
    PLt (J.m + J.n + 1) (μ.1, upd μ.2 (J.m + x) a) μ ∧ PI J g' jd (μ.1, upd μ.2 (J.m + x) a) (gs.setIfInBounds (J.m + x) gr') w' t' := by
  have hjn := h.com.j
  have hsz := h.com.size
  refine ⟨.right _ (VLt.upd hlt (by omega)), hcom, ?_, fun y y1 y2 => ?_, fun k k1 k2 => ?_, fun gr hgr hbl y gr2 y1 y2 hy => ?_⟩
  · obtain ⟨gr, a1, a2⟩ := h.z
    exact ⟨gr, by rw [Array.getElem?_setIfInBounds_ne (by omega)]; exact a1, a2.keep (hk 0 (by omega)) hj⟩
  · rw [hj] at y2
    by_cases e : y = x
    · subst e
      refine ⟨gr', by rw [Array.getElem?_setIfInBounds_self_of_lt (by omega)], ?_⟩
      simp only
      rw [upd_same]
      exact hs
    · obtain ⟨gr, a1, a2⟩ := h.ws y y1 y2
      refine ⟨gr, by rw [Array.getElem?_setIfInBounds_ne (by omega)]; exact a1, ?_⟩
      simp only
      rw [upd_ne μ.2 _ (by omega)]
      exact a2.keep (hk y e) y1 y2
  · rw [Array.getElem?_setIfInBounds_ne (by omega)]
    simp only
    rw [upd_ne μ.2 _ (by omega)]
    exact h.lv k k1 k2
  · rw [Array.getElem?_setIfInBounds_ne (by omega)] at hgr
    rw [hj] at y2
    by_cases e : y = x
    · subst e
      rw [Array.getElem?_setIfInBounds_self_of_lt (by omega)] at hy
      obtain rfl := Option.some.inj hy
      exact hb.resolve_right fun hb => hb gr hgr hbl
    · rw [Array.getElem?_setIfInBounds_ne (by omega)] at hy
      exact h.pk gr hgr hbl y gr2 y1 y2 hy

theorem base_wr (hJ : J.Ok) (hC : Com J g gs w t jd) : WR (FFs J.Fs) J.Rb J.vb w := by
  refine ⟨fun b c hb => ?_, hJ.wr.fn, hJ.wr.inj⟩
  obtain ⟨o, o', ho, ho', hOR⟩ := hJ.wr.obj b c hb
  have hlt := (hJ.wr.lt hb).2
  by_cases e1 : c = J.cO
  · subst e1
    obtain ⟨y, hy, hys⟩ := hC.out
    obtain ⟨yB, hyB, _⟩ := hJ.out
    rw [hyB] at ho'
    simp only [Option.some.injEq] at ho'
    subst ho'
    cases hOR with
    | @cells z _ _ fz0 _ h1 h2 =>
      have hz : z.size = 0 := by
        rcases Nat.eq_zero_or_pos z.size with e | e
        · exact e
        · exact absurd ⟨z, _, fz0, ho, e⟩ ((hJ.lay b _ hb).2 rfl 0)
      exact ⟨_, _, ho, hy, .cells (fun j u hj => by have := (Array.getElem?_eq_some_iff.1 hj).1; omega) (fun j hj _ => by omega)⟩
  · by_cases e2 : c = J.cC
    · subst e2
      rw [hJ.chan] at ho'
      simp only [Option.some.injEq] at ho'
      subst ho'
      cases hOR with
      | chan s s' tm => exact ⟨_, _, ho, hC.chan, .chan _ _ _⟩
    · exact ⟨o, o', ho, by rw [hC.old c (hJ.oldR _ _ hb) e1 e2]; exact ho', hOR⟩

theorem steady_h (h : PI J g jd μ gs w t) : ∀ (i : Nat) gr, gs[i]? = some gr → Steady J gr := fun i gr => h.steady

/-- A worker takes a step of its own: what the machine does. -/
theorem worker_go (h : PI J g jd μ gs w t) {x : Nat} (x1 : 1 ≤ x) {gr gr' : Goroutine} {es : Array Event} (hi : gs[J.m + x]? = some gr) (hst : stepG J.P false gr w = .go gr' w1 es)
    (hc : ∃ s r tm, w1.heap[J.cC]? = some (.chan 0 #[] false s r tm)) : runT J.P (crowd gs w sl) (J.m + x) = (.next (crowd (gs.setIfInBounds (J.m + x) gr') w1 sl), MemOp.ofEvents (gi J.m x) gr.frame.fn gr.frame.place es) := by
  obtain ⟨s, r, tm, hc⟩ := hc
  have e0 : (J.m + x == 0) = false := by simp; omega
  have hrunT := runT_crowd_go (P := J.P) (sl := sl) (i := J.m + x) hi (by rw [e0]; exact hst)
  rw [woken_all (steady_h h) hc] at hrunT
  rw [hrunT]
  unfold gi
  rw [if_neg (by omega)]

theorem p_born (hJ : J.Ok) (h : PI J g jd μ gs w t) {x : Nat} (x1 : 1 ≤ x) (x2 : x ≤ g.j) {caps' : Array Value} (hi : gs[J.m + x]? = some (Conc.born J.P { target := .fn (.func J.fW) caps', args := #[] })) (hjd : jd x = false) (hμ : μ.2 (J.m + x) = (J.len + 4, .leaf))
    (hc : AVR (FFs J.Fs) (J.Rb.ext J.vb.heap.size (g.box x)) J.capsV caps') (hb : ∃ y fz, w.heap[g.box x]? = some (.cells y J.el0 fz) ∧ y[0]? = some (.int .i64 (x - 1 : Nat))) : PStep J μ (runT J.P (crowd gs w sl) (J.m + x)) t := by
  have hst := born_step hJ.hP hJ.hF caps' w
  have hrun := worker_go (sl := sl) h x1 hi hst ⟨_, _, _, h.com.chan⟩
  rw [ofEvents_none] at hrun
  obtain ⟨b1, b2, b3⟩ := h.com.ok.box x x1 x2
  have hwb := base_wr hJ h.com
  have hjn := h.com.j
  let s : St := ⟨J.Rb.ext J.vb.heap.size (g.box x), J.vx x, Frame.enter J.P J.fW J.capsV .deferred, Frame.enter J.P J.fW caps' .deferred, [], []⟩
  have hvx : ∀ (b : Nat) (o : Obj), J.vb.heap[b]? = some o → (J.vx x).heap[b]? = some o := by
    intro b o ho
    have := (Array.getElem?_eq_some_iff.1 ho).1
    show (J.vb.heap.push _)[b]? = _
    rw [Array.getElem?_push, if_neg (by omega)]; exact ho
  have hvn : (J.vx x).heap[J.vb.heap.size]? = some (.cells #[.int .i64 (x - 1 : Nat)] J.el0 (0, 1)) := by
    show (J.vb.heap.push _)[J.vb.heap.size]? = _
    simp
  have ro_x : ∀ b, RO J.vb b → RO (J.vx x) b := fun b ⟨c, el, fz, h1, h2⟩ => ⟨c, el, fz, hvx _ _ h1, h2⟩
  have hok : s.ok J.P J.Fs := ⟨FR.enterD hJ.hP hJ.hF hc, trivial⟩
  have hwr : WR (FFs J.Fs) s.R s.v w := by
    refine ⟨fun b c hbc => ?_, fun b c c' h1 h2 => ?_, fun b b' c h1 h2 => ?_⟩
    · rcases hbc with hbc | ⟨rfl, rfl⟩
      · obtain ⟨o, o', ho, ho', hOR⟩ := hwb.obj b c hbc
        exact ⟨o, o', hvx _ _ ho, ho', hOR.mono fun _ _ z => .inl z⟩
      · obtain ⟨y, fz, hy, hy0⟩ := hb
        refine ⟨_, _, hvn, hy, .cells (fun j u hj => ?_) (fun j hj hn => ?_)⟩
        · have hj0 : j = 0 := by
            have := (Array.getElem?_eq_some_iff.1 hj).1
            simp at this; exact this
          subst hj0
          simp only [List.getElem?_toArray, List.getElem?_cons_zero, Option.some.injEq] at hj
          subst hj
          exact ⟨_, hy0, .int _ _⟩
        · exact absurd ⟨Nat.zero_le _, by simpa using hj⟩ hn
    · rcases h1 with h1 | ⟨rfl, rfl⟩ <;> rcases h2 with h2 | ⟨e1, e2⟩
      · exact hwb.fn _ _ _ h1 h2
      · have := (hwb.lt h1).1; omega
      · have := (hwb.lt h2).1; omega
      · exact e2
    · rcases h1 with h1 | ⟨rfl, rfl⟩ <;> rcases h2 with h2 | ⟨e1, e2⟩
      · exact hwb.inj _ _ _ h1 h2
      · have := hJ.oldR _ _ h1; rw [← h.com.h0, e2] at this; exact absurd this b1
      · have := hJ.oldR _ _ h2; rw [← h.com.h0] at this; exact absurd this b1
      · exact e1.symm
  have hlay : Lay g x J.Ch s.R s.v := by
    intro b c hbc
    rcases hbc with hbc | ⟨rfl, rfl⟩
    · obtain ⟨l1, l2⟩ := hJ.lay b c hbc
      have hlt := (hJ.wr.lt hbc)
      refine .inr ⟨.inl (by rw [h.com.h0]; exact hJ.oldR _ _ hbc), l1.imp (ro_x b) id, fun e off hcl => ?_⟩
      refine l2 (by rw [e, h.com.cO]) off ?_
      obtain ⟨z, el, fz, z1, z2⟩ := hcl
      have ho : J.vb.heap[b]? = some J.vb.heap[b] := by simp [hlt.1]
      rw [show s.v.heap[b]? = _ from hvx _ _ ho] at z1
      exact ⟨z, el, fz, by rw [ho]; exact z1, z2⟩
    · refine .inr ⟨.inr ⟨⟨x, x1, x2, rfl⟩, .inr rfl⟩, .inl ⟨_, _, _, hvn, fun j hj => ⟨Nat.zero_le _, by simpa using hj⟩⟩, fun e => ?_⟩
      exact absurd (by rw [e]; exact h.com.ok.cO) b1
  have hveil : Veil J.Ch s.v := by
    intro b hb
    obtain ⟨o, h1, h2, h3⟩ := hJ.vchan b hb
    exact ⟨o, hvx _ _ h1, h2, h3⟩
  obtain ⟨k, rfl⟩ : ∃ k, x = k + 1 := ⟨x - 1, by omega⟩
  obtain ⟨tr, hway⟩ := way_of_seg (main := false) (bs := [base J.P]) hJ.hP hok (hJ.seg k (by omega)) hveil
  have hrunning : Running J g w (k + 1) tr (J.len + 1) k (G (Frame.enter J.P J.fW caps' .deferred) [base J.P]) s := by
    refine ⟨rfl, hok, hwr, hlay, hveil, fun _ _ z => .inl z, hway, by rw [Nat.mod_eq_of_lt (by omega)], fun i i1 i2 i3 => ?_⟩
    have : i % J.n = i := Nat.mod_eq_of_lt (by omega)
    omega
  have hnew := h.set x1 x2 (h.com.gsize (gs' := gs.setIfInBounds (J.m + (k + 1)) (G (Frame.enter J.P J.fW caps' .deferred) [base J.P])) (by simp)) rfl (fun y _ => keep_heap rfl)
    (by rw [hjd]; exact .run hrunning) (by rw [hμ]; exact Me.l _ _ (by omega)) (.inl (by simp [G]))
  have hsz := h.com.size
  exact ⟨_, _, _, _, hrun, by simp; omega, .inr ⟨_, _, _, hnew.1, by rw [Array.append_empty]; exact hnew.2⟩⟩

/-- A worker's followed step. -/
theorem p_walk (hJ : J.Ok) (h : PI J g jd μ gs w t) {x : Nat} (x1 : 1 ≤ x) (x2 : x ≤ g.j) {gr : Goroutine} (hi : gs[J.m + x]? = some gr) (hjd : jd x = false) {f : World → Tree} {r e : Nat} {s s1 : St} (hμ : μ.2 (J.m + x) = (r + 2, .node f)) (hR : Running J g w x (.node f) r e gr s)
    {es : Array Event} (hn : Nx J.P J.Fs false [base J.P] J.Ch s s1 w w1 es) (hw : Way J.P J.Fs false [base J.P] J.Ch (WStop J.P J.Ch J.bO J.bC J.n J.len J.f r e) (f w) s1) : PStep J μ (runT J.P (crowd gs w sl) (J.m + x)) t := by
  obtain ⟨u, hu, hst⟩ := hn.st
  have he := lay_eff h.com.ok hu hR.wr hst hR.lay hR.veil hn.ch
  have hv1 : Veil J.Ch s1.v := fun b hb => by
    obtain ⟨o, h1, h2, h3⟩ := hR.veil b hb
    exact ⟨o, by rw [hn.ch b hb]; exact h1, h2, h3⟩
  have hl1 := lay_next h.com.ok hu hR.wr hst hR.lay
  have hsame : ∀ c, g.Old c → w1.heap[c]? = w.heap[c]? := fun c hc => he.same c (h.com.ok.h0 c hc) (Geo.not_mine_old hc)
  have hcells : ∃ y el fz, w1.heap[(g.after w.heap.size x).cO]? = some (.cells y el fz) := by
    obtain ⟨y, el, fz, hy⟩ := h.com.cellsO
    exact ⟨y, el, fz, by rw [show (g.after w.heap.size x).cO = g.cO from rfl, hsame _ h.com.ok.cO]; exact hy⟩
  have hes : ∀ e ∈ es, EvOk (g.after w.heap.size x) x w1.heap.size e := fun e he => ev_ok hl1 hst.wr hv1 hcells (hst.evs e he)
  have hstep := hn.step
  rw [← hR.gr] at hstep
  have hrun := worker_go (sl := sl) h x1 hi hstep ⟨_, _, _, by rw [hsame _ (h.com.cC hJ)]; exact h.com.chan⟩
  have hcom := h.com.eff hJ (.inr ⟨x1, x2, hjd⟩) he (fn := gr.frame.fn) (pos := gr.frame.place) hes (gs' := gs.setIfInBounds (J.m + x) (G s1.fr' (s1.up' ++ [base J.P]))) (by simp)
  have hdone : Done J w1 x e := fun i i1 i2 i3 => by
    obtain ⟨y, y1, y2⟩ := hR.done i i1 i2 i3
    exact ⟨y, by rw [hsame _ h.com.cOlt]; exact y1, y2⟩
  have hnew := h.set x1 x2 hcom rfl (fun y hy => keep_eff he h.com.ok h.com.cO hy)
    (by rw [hjd]; exact .run (s := s1) ⟨rfl, hn.ok, hst.wr, hl1, hv1, fun b c hb => hst.ext _ _ (hR.sub b c hb), hw, hR.ex, hdone⟩) (by rw [hμ]; exact Me.r _ (.mk f w)) (.inl (by simp [G]))
  have hsz := h.com.size
  have hjn := h.com.j
  exact ⟨_, _, _, _, hrun, by simp; omega, .inr ⟨_, _, _, hnew.1, hnew.2⟩⟩

theorem mod_next {i e n : Nat} (h : i % n = e % n) (h1 : e ≤ i) (h2 : i < e + n) : i = e := by
  have := Nat.sub_mod_eq_zero_of_mod_eq h
  have h3 : i - e < n := by omega
  rw [Nat.mod_eq_of_lt h3] at this
  omega

/-- A worker lays a result into its place. -/
theorem p_store (hJ : J.Ok) (h : PI J g jd μ gs w t) {x : Nat} (x1 : 1 ≤ x) (x2 : x ≤ g.j) {gr : Goroutine} (hi : gs[J.m + x]? = some gr) (hjd : jd x = false) {tr : Tree} {r e : Nat} {s : St} (hμ : μ.2 (J.m + x) = (r + 1 + 2, tr)) (hR : Running J g w x tr (r + 1) e gr s)
    {fr1 : Frame} (hup : s.up = []) (he : e < J.len) (hop : StoreOp J.P J.bO e (J.f e) s.fr fr1) (hseg : Seg J.P J.Ch (WStop J.P J.Ch J.bO J.bC J.n J.len J.f r (e + J.n)) fr1 [] s.v) : PStep J μ (runT J.P (crowd gs w sl) (J.m + x)) t := by
  have hup' : s.up' = [] := by
    have := hR.ok.2
    rw [hup] at this
    cases hh : s.up' with
    | nil => rfl
    | cons a l => rw [hh] at this; exact this.elim
  obtain ⟨y, hy, hys⟩ := h.com.out
  have hlen := hJ.len
  have hcell : (w.cell? ⟨J.cO, e, none⟩).isSome = true := by
    simp only [World.cell?, hy]
    simp; omega
  have hfrz : w.frozen? ⟨J.cO, e, none⟩ = false := by
    simp only [World.frozen?, hy]
    have := hJ.unf e he
    simp only [inFz, not_and, Nat.not_lt] at this
    cases hh : decide (J.fzO.1 ≤ e) with
    | true => simp only [decide_eq_true_eq] at hh; simp [hh, this hh]
    | false => simp
  have hfn : ∀ c, s.R J.bO c → c = J.cO := fun c hc => hR.wr.fn _ _ _ (hR.sub _ _ hJ.rO) hc
  obtain ⟨fr1', es, hst, hes, hfr⟩ := hop.real (P := J.P) (Fs := J.Fs) (cs := s.up' ++ [base J.P]) (main := false) hR.ok.1 hfn hcell hfrz
  rw [← hR.gr] at hst
  have hset := setCell_heap w J.cO e (.int .i64 (J.f e)) hy
  have hcne : J.cC ≠ J.cO := by intro e1; have := h.com.chan; rw [e1, hy] at this; cases this
  have hrun := worker_go (sl := sl) h x1 hi hst ⟨_, _, _, by rw [hset, if_neg hcne]; exact h.com.chan⟩
  have hsz1 : (w.setCell ⟨J.cO, e, none⟩ (.int .i64 (J.f e))).heap.size = w.heap.size := by simp [World.setCell]
  have hx : e % g.n + 1 = x := by rw [h.com.n]; exact hR.ex
  have hevs : ∀ ev ∈ es, EvOk (g.after w.heap.size x) x (w.setCell ⟨J.cO, e, none⟩ (.int .i64 (J.f e))).heap.size ev := by
    intro ev hev
    rw [hes ev hev]
    refine ⟨fun a ha => ?_, fun m hm => by cases hm⟩
    simp only [ofEvent_cell0, MemAct.touch?, Option.some.injEq] at ha
    subst ha
    refine ⟨.inr (.inr ⟨_, rfl, h.com.cO.symm, hx⟩), ?_⟩
    rw [hsz1]
    exact (Array.getElem?_eq_some_iff.1 hy).1
  have hcom : Com J (g.after w.heap.size x) (gs.setIfInBounds (J.m + x) (G fr1' (s.up' ++ [base J.P]))) (w.setCell ⟨J.cO, e, none⟩ (.int .i64 (J.f e))) (t ++ MemOp.ofEvents (gi J.m x) gr.frame.fn gr.frame.place es) jd := by
    refine ⟨h.com.h0, by rw [hsz1]; exact h.com.hsz, h.com.cO, h.com.n, h.com.j, h.com.ok.after (by rw [hsz1]; exact Nat.le_refl _), by simp [h.com.size, Geo.after], ⟨_, by rw [hset, if_pos rfl], by simp [hys]⟩, fun z => by omega, by rw [hset, if_neg hcne]; exact h.com.chan, fun c c1 c2 c3 => by rw [hset, if_neg c2]; exact h.com.old c c1 c2 c3,
      h.com.tape, h.com.os, h.com.outp, ?_, h.com.jall⟩
    exact h.com.tr.own h.com.ok.cO (by rw [hsz1]; exact Nat.le_refl _) (.inr ⟨x1, x1, x2, hjd⟩) (fun z => by omega) hevs
  let s1 : St := ⟨s.R, s.v, fr1, fr1', [], []⟩
  have hok1 : s1.ok J.P J.Fs := ⟨hfr, trivial⟩
  obtain ⟨tr1, hway⟩ := way_of_seg (main := false) (bs := [base J.P]) hJ.hP hok1 hseg hR.veil
  have hno : ∀ b, s.R b J.cO → ∀ off, ¬ Cl s.v b off := by
    intro b hb
    rcases hR.lay b _ hb with hm | ⟨_, _, hm⟩
    · exact absurd hm (Geo.not_mine_old h.com.cOlt)
    · exact hm h.com.cO.symm
  have hdone : Done J (w.setCell ⟨J.cO, e, none⟩ (.int .i64 (J.f e))) x (e + J.n) := by
    intro i i1 i2 i3
    refine ⟨y.setIfInBounds e (.int .i64 (J.f e)), by rw [hset, if_pos rfl], ?_⟩
    by_cases hie : i = e
    · subst hie
      rw [Array.getElem?_setIfInBounds_self_of_lt (by omega)]
    · have hlt : i < e := by
        rcases Nat.lt_or_ge i e with h1 | h1
        · exact h1
        · exact absurd (mod_next (by have := hR.ex; omega) h1 i3) hie
      obtain ⟨y2, z1, z2⟩ := hR.done i i1 i2 hlt
      rw [hy] at z1
      simp only [Option.some.injEq, Obj.cells.injEq] at z1
      obtain ⟨rfl, _⟩ := z1
      rw [Array.getElem?_setIfInBounds_ne (Ne.symm hie)]; exact z2
  have hex2 : (e + J.n) % J.n + 1 = x := by rw [Nat.add_mod_right]; exact hR.ex
  have hnew := h.set x1 x2 hcom rfl (fun z hz => keep_store h.com.ok h.com.cO ⟨y, hy⟩ hR.ex hz)
    (by rw [hjd]; exact .run (s := s1) ⟨by rw [hup'], hok1, wr_store hR.wr hno ⟨y, _, _, hy⟩, lay_other (fun b c hb => (hR.wr.lt hb).2) hR.lay, hR.veil, hR.sub, hway, hex2, hdone⟩) (by rw [hμ]; exact Me.l _ _ (by omega)) (.inl (by simp [G]))
  have hsz := h.com.size
  have hjn := h.com.j
  exact ⟨_, _, _, _, hrun, by simp; omega, .inr ⟨_, _, _, hnew.1, hnew.2⟩⟩
end
end Go.Proofs.Ytneclhkpgalnlaa.Sm
