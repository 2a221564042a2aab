/-
  WORKERS JOINED OVER A CHANNEL: sends and receives; every step; the phase comes to its end on whatever tape.
-/
import Derived.Test.YtneclhkpgalnlaaSmr
namespace Go.Proofs.Ytneclhkpgalnlaa.Sm
open Go Go.Conc
open Go.ConcN (sumTo upd sumTo_upd upd_ne upd_same sumTo_congr)
set_option linter.unusedVariables false
set_option linter.unusedSimpArgs false
section
variable {J : Job} {g : Geo} {jd : Nat → Bool} {μ : Me × (Nat → Me)} {gs : Array Goroutine} {w w1 : World} {t : Trace} {sl : Option (Nat × Nat)}

theorem WSit.blocked {x : Nat} {m : Me} {gr : Goroutine} {b : Bool} (h : WSit J g w x m gr b) (hb : gr.status = .blocked) : b = false ∧ ∃ g0 z, gr = Conc.parked g0 #[scase J.cC (.bool true) z] .send ∧ (∃ q, QuitsIn J.P q (Conc.served g0 undef)) ∧ Done J w x J.len := by
  cases h with
  | born hg => rw [hg] at hb; cases hb
  | run h => rw [h.gr] at hb; cases hb
  | parked hg hq hd => exact ⟨rfl, _, _, hg, hq, hd⟩
  | gone hq => rcases hq.status with h | h <;> rw [h] at hb <;> cases hb

theorem PI.steady1 (h : PI J g jd μ gs w t) {i : Nat} {gr : Goroutine} (h1 : 1 ≤ i) (hi : gs[i]? = some gr) : gr.status ≠ .blocked ∨ ∃ g0 z x, gr = parked g0 #[scase J.cC (.bool true) z] .send ∧ i = J.m + x ∧ 1 ≤ x ∧ x ≤ g.j ∧ jd x = false ∧ (∃ q, QuitsIn J.P q (Conc.served g0 undef)) ∧ Done J w x J.len := by
  by_cases hb : gr.status = .blocked
  · right
    rcases h.who hi with rfl | ⟨a1, a2⟩ | ⟨x, a1, a2, rfl⟩
    · omega
    · obtain ⟨gr', b1, b2, _⟩ := h.lv i a1 a2
      rw [hi] at b1
      obtain rfl := Option.some.inj b1
      rcases b2.status with e | e <;> rw [e] at hb <;> cases hb
    · obtain ⟨gr', b1, b2⟩ := h.ws x a1 a2
      rw [hi] at b1
      obtain rfl := Option.some.inj b1
      obtain ⟨c1, g0, z, c2, c3, c4⟩ := b2.blocked hb
      exact ⟨g0, z, x, c2, rfl, a1, a2, c1, c3, c4⟩
  · exact .inl hb

theorem parked_inj {g0 g1 : Goroutine} {cs cs' : Array CommCase} {sh sh' : CommShape} (h : parked g0 cs sh = parked g1 cs' sh') : cs = cs' ∧ sh = sh' ∧ ∀ v, Conc.served g0 v = Conc.served g1 v := by
  unfold parked at h
  simp only [Goroutine.mk.injEq, Option.some.injEq, Prod.mk.injEq] at h
  obtain ⟨h1, h2, _, h3, h4, h5⟩ := h
  refine ⟨h4, h5, fun v => ?_⟩
  unfold Conc.served
  rw [h1, h2, h3]

theorem recvd_plain (v : Value) (b : Bool) : recvd false v b = v := rfl

/-- A receive. -/
theorem p0_rcv (hJ : J.Ok) (h : PI J g jd μ gs w t) {gr : Goroutine} (hi : gs[0]? = some gr) {s : St} (hg : gr = G s.fr' s.up') (hz : ZR J g w s) (hj : g.j = J.n) {r : Nat} (hr : cnt J.n jd + r + 1 = J.n) (hμ : ∃ tr, μ.1 = (2 * (r + 1) + 1, tr)) (hat : s.at (QR J r)) : PStep J μ (runT J.P (crowd gs w sl) 0) t := by
  obtain ⟨T, d, fr1, hop, hn⟩ := hat
  obtain ⟨tr0, hμ⟩ := hμ
  obtain ⟨z, fr1', hst, hfr, hsv⟩ := hop.real (P := J.P) (Fs := J.Fs) hz.ok.1 (fun c hc => hz.wr.fn _ _ _ (hz.sub _ _ (hJ.sub _ _ hJ.rC)) hc) s.up'
  have hst := hst w
  have hsv := hsv s.up'
  rw [← hg] at hst hsv
  let s1 : St := ⟨s.R, s.v, fr1, fr1', s.up, s.up'⟩
  have hz1 : ZR J g w s1 := ⟨⟨hfr, hz.ok.2⟩, hz.wr, hz.lay, hz.veil, hz.sub, hz.new, hz.size⟩
  have hsz := h.com.size
  have hjn := h.com.j
  by_cases hps : partners (gs.setIfInBounds 0 ph) J.cC true = []
  · have hrun := crowd_waits (P := J.P) (sl := sl) (i := 0) (cases := #[rcase J.cC z]) hi (show stepG J.P (0 == 0) gr w = _ from hst) (fun cc hcc => by
      simp only [List.mem_toArray, List.mem_cons, List.not_mem_nil, or_false] at hcc
      subst hcc
      exact ways_recv_none h.com.chan hps)
    rw [ofEvents_none] at hrun
    have hnew := h.set0 (h.com.gsize (gs' := gs.setIfInBounds 0 (parked gr #[rcase J.cC z] (.recv false))) (by simp)) rfl (fun y _ => keep_heap rfl)
      (.parked (s := s1) rfl hsv hz1 hj hr ⟨T, d, hn⟩) (by rw [hμ]; exact Me.l _ _ (by omega)) (.inr fun x gr' x1 x2 hx hb => by
        obtain ⟨gr2, a1, a2⟩ := h.ws x x1 x2
        rw [hx] at a1
        obtain rfl := Option.some.inj a1
        obtain ⟨_, g0, z2, c2, _⟩ := a2.blocked hb
        have : (J.m + x, 0) ∈ partners (gs.setIfInBounds 0 ph) J.cC true := mem_partners.2 ⟨gr', by rw [Array.getElem?_setIfInBounds_ne (by omega)]; exact hx, by rw [c2, offersAt_parked_send]; simp⟩
        rw [hps] at this
        cases this)
    exact ⟨_, _, _, _, hrun, by simp; omega, .inr ⟨_, _, _, hnew.1, by rw [Array.append_empty]; exact hnew.2⟩⟩
  · obtain ⟨j, gj, vj, zj, shj, d2, hj0, hgj, hrun⟩ := crowd_recv_meets_some (P := J.P) (sl := sl) (i := 0) hi (show stepG J.P (0 == 0) gr w = _ from hst) h.com.chan hps (fun j k hjk => by
      obtain ⟨g', h1, h2⟩ := mem_partners.1 hjk
      rcases getElem?_stand gs 0 j g' h1 with ⟨_, rfl⟩ | ⟨hne, h1⟩
      · rw [offersAt_ph] at h2; cases h2
      · rcases h.steady1 (by omega) h1 with hb | ⟨g0, z2, x, rfl, _⟩
        · rw [offersAt_of_not_blocked hb] at h2; cases h2
        · rw [offersAt_parked_send] at h2
          simp at h2
          exact ⟨h2, hne, g0, _, _, _, h1⟩)
    rw [ofEvents_none] at hrun
    rcases h.steady1 (by omega) hgj with hb | ⟨g0, z2, x, hpk, rfl, x1, x2, hjd, hq, hd⟩
    · exact absurd rfl hb
    obtain ⟨e1, rfl, e3⟩ := parked_inj hpk
    have ev : vj = .bool true := by
      simp only [scase, Array.mk.injEq, List.cons.injEq, CommCase.mk.injEq, Option.some.injEq] at e1
      exact e1.1.2.1
    subst ev
    rw [finishComm_send, finishComm_recv, recvd_plain] at hrun
    obtain ⟨q, hq⟩ := hq
    rw [← e3] at hq
    have hjoin := p_join hJ h.com h.lv h.ws x1 x2 hjd hj hr hz1 ⟨T, d, hn⟩ hq hd (gs' := (gs.setIfInBounds (J.m + x) (Conc.served gj undef)).setIfInBounds 0 (Conc.served gr (.bool true))) (by simp)
      (by rw [Array.getElem?_setIfInBounds_self_of_lt (by simp; omega), hsv]) (by rw [Array.getElem?_setIfInBounds_ne (by omega), Array.getElem?_setIfInBounds_self_of_lt (by omega)])
      (fun k k0 kx => by rw [Array.getElem?_setIfInBounds_ne (Ne.symm k0), Array.getElem?_setIfInBounds_ne (Ne.symm kx)]) d2
      (o1 := { g := J.m + x, fn := gj.frame.fn, pos := gj.frame.place, act := .send J.cC (J.s0 + cnt J.n jd) }) (o2 := { g := 0, fn := gr.frame.fn, pos := gr.frame.place, act := .recv J.cC (J.s0 + cnt J.n jd) 0 })
      (o3 := { g := J.m + x, fn := gj.frame.fn, pos := gj.frame.place, act := .sendDone J.cC (J.s0 + cnt J.n jd) }) (o4 := { g := 0, fn := gr.frame.fn, pos := gr.frame.place, act := .recvDone J.cC (J.s0 + cnt J.n jd) }) ⟨⟨rfl, rfl⟩, ⟨rfl, rfl⟩, ⟨rfl, rfl⟩, ⟨rfl, rfl⟩⟩
    rw [Array.empty_append] at hrun
    refine ⟨_, _, _, _, hrun, by simp; omega, ?_⟩
    rcases hjoin with hf | ⟨r', tr, f', rfl, hp⟩
    · exact .inl hf
    · exact .inr ⟨_, _, _, .left _ _ (by rw [hμ]; exact Me.l _ _ (by omega)), hp⟩

/-- A send. -/
theorem p_send (hJ : J.Ok) (h : PI J g jd μ gs w t) {x : Nat} (x1 : 1 ≤ x) (x2 : x ≤ g.j) {gr : Goroutine} (hi : gs[J.m + x]? = some gr) (hjd : jd x = false) {tr : Tree} {r e : Nat} {s : St} (hμ : μ.2 (J.m + x) = (r + 2, tr)) (hR : Running J g w x tr r e gr s)
    (hup : s.up = []) (he : J.len ≤ e) (hop : SendOp J.P J.bC s.fr) : PStep J μ (runT J.P (crowd gs w sl) (J.m + x)) t := by
  have hup' : s.up' = [] := by
    have := hR.ok.2
    rw [hup] at this
    cases hh : s.up' with
    | nil => rfl
    | cons a l => rw [hh] at this; exact this.elim
  have hgr : gr = G s.fr' [base J.P] := by rw [hR.gr, hup']; rfl
  obtain ⟨hst, hq⟩ := hop.real (P := J.P) (Fs := J.Fs) hR.ok.1 (fun c hc => hR.wr.fn _ _ _ (hR.sub _ _ hJ.rC) hc) [base J.P]
  have hst := hst w
  rw [← hgr] at hst hq
  have hd : Done J w x J.len := fun i i1 i2 i3 => hR.done i i1 i2 (by omega)
  have hsz := h.com.size
  have hjn := h.com.j
  have e0 : (J.m + x == 0) = false := by simp; omega
  obtain ⟨gr0, hg0, hz0⟩ := h.z
  have hother : ∀ k y, k ≠ 0 → (gs.setIfInBounds (J.m + x) ph)[k]? = some y → offersAt y J.cC false = [] := fun k y hk hy => by
    rcases getElem?_stand gs (J.m + x) k y hy with ⟨_, rfl⟩ | ⟨_, hy⟩
    · rfl
    · rcases h.steady1 (by omega) hy with hb | ⟨g0, z2, x, rfl, _⟩
      · exact offersAt_of_not_blocked hb _ _
      · exact offersAt_parked_send' _ _ _ _ _ _
  have hg0' : (gs.setIfInBounds (J.m + x) ph)[0]? = some gr0 := by rw [Array.getElem?_setIfInBounds_ne (by omega)]; exact hg0
  by_cases hb : gr0.status = .blocked
  · generalize hμ1 : μ.1 = a0 at hz0
    cases hz0 with
    | go hg => rw [hg] at hb; cases hb
    | rc hg => rw [hg] at hb; cases hb
    | @parked _ g0 z s1 r1 hg hs hz hj hr hn =>
      subst hg
      have hp : partners (gs.setIfInBounds (J.m + x) ph) J.cC false = [(0, 0)] := by
        rw [partners_one hg0' hother, offersAt_parked_recv]
        simp
      have hrun := crowd_send_meets (P := J.P) (sl := sl) (i := J.m + x) hi (by rw [e0]; exact hst) h.com.chan (j := 0) (by omega) hg0 hp
      rw [ofEvents_none, finishComm_send, finishComm_recv, recvd_plain, Array.empty_append] at hrun
      obtain ⟨q, hq⟩ := hq
      have hjoin := p_join hJ h.com h.lv h.ws x1 x2 hjd hj hr hz hn hq hd (gs' := (gs.setIfInBounds 0 (Conc.served g0 (.bool true))).setIfInBounds (J.m + x) (Conc.served gr undef)) (by simp)
        (by rw [Array.getElem?_setIfInBounds_ne (by omega), Array.getElem?_setIfInBounds_self_of_lt (by omega), hs]) (by rw [Array.getElem?_setIfInBounds_self_of_lt (by simp; omega)])
        (fun k k0 kx => by rw [Array.getElem?_setIfInBounds_ne (Ne.symm kx), Array.getElem?_setIfInBounds_ne (Ne.symm k0)]) w.drawn
        (o1 := { g := J.m + x, fn := gr.frame.fn, pos := gr.frame.place, act := .send J.cC (J.s0 + cnt J.n jd) }) (o2 := { g := 0, fn := g0.frame.fn, pos := g0.frame.place, act := .recv J.cC (J.s0 + cnt J.n jd) 0 })
        (o3 := { g := J.m + x, fn := gr.frame.fn, pos := gr.frame.place, act := .sendDone J.cC (J.s0 + cnt J.n jd) }) (o4 := { g := 0, fn := g0.frame.fn, pos := g0.frame.place, act := .recvDone J.cC (J.s0 + cnt J.n jd) }) ⟨⟨rfl, rfl⟩, ⟨rfl, rfl⟩, ⟨rfl, rfl⟩, ⟨rfl, rfl⟩⟩
      refine ⟨_, _, _, _, hrun, by simp; omega, ?_⟩
      rcases hjoin with hf | ⟨r', tr, f', rfl, hp⟩
      · exact .inl hf
      · exact .inr ⟨_, _, _, .left _ _ (by rw [hμ1]; exact Me.l _ _ (by omega)), hp⟩
  · have hp : partners (gs.setIfInBounds (J.m + x) ph) J.cC false = [] := partners_nil fun k y hy => by
      by_cases hk : k = 0
      · subst hk
        rw [hg0'] at hy
        obtain rfl := Option.some.inj hy
        exact offersAt_of_not_blocked hb _ _
      · exact hother k y hk hy
    have hrun := crowd_waits (P := J.P) (sl := sl) (i := J.m + x) (cases := #[scase J.cC (.bool true) (.tuple #[])]) hi (by rw [e0]; exact hst) (fun cc hcc => by
      simp only [List.mem_toArray, List.mem_cons, List.not_mem_nil, or_false] at hcc
      subst hcc
      exact ways_send_none h.com.chan (Nat.le_refl _) hp)
    rw [ofEvents_none] at hrun
    have hnew := h.set x1 x2 (h.com.gsize (gs' := gs.setIfInBounds (J.m + x) (parked gr #[scase J.cC (.bool true) (.tuple #[])] .send)) (by simp)) rfl (fun y _ => keep_heap rfl)
      (by rw [hjd]; exact .parked rfl hq hd) (by rw [hμ]; exact Me.l _ _ (by omega)) (.inr fun gr1 hgr1 => by rw [hg0] at hgr1; obtain rfl := Option.some.inj hgr1; exact hb)
    exact ⟨_, _, _, _, hrun, by simp; omega, .inr ⟨_, _, _, hnew.1, by rw [Array.append_empty]; exact hnew.2⟩⟩

/-- A worker that runs. -/
theorem p_run (hJ : J.Ok) (h : PI J g jd μ gs w t) {x : Nat} (x1 : 1 ≤ x) (x2 : x ≤ g.j) {gr : Goroutine} (hi : gs[J.m + x]? = some gr) (hjd : jd x = false) {tr : Tree} {r e : Nat} {s : St} (hμ : μ.2 (J.m + x) = (r + 2, tr)) (hR : Running J g w x tr r e gr s) : PStep J μ (runT J.P (crowd gs w sl) (J.m + x)) t := by
  have atstop : s.at (WStop J.P J.Ch J.bO J.bC J.n J.len J.f r e) → PStep J μ (runT J.P (crowd gs w sl) (J.m + x)) t := by
    rintro ⟨T, d, hat⟩
    cases r with
    | zero =>
      obtain ⟨h1, h2, h3⟩ := hat
      exact p_send hJ h x1 x2 hi hjd hμ hR h1 h2 h3
    | succ r =>
      obtain ⟨h1, ⟨h2, h3⟩ | ⟨h2, fr1, h3, h4⟩⟩ := hat
      · exact p_send hJ h x1 x2 hi hjd hμ hR h1 h2 h3
      · exact p_store hJ h x1 x2 hi hjd hμ hR h1 h2 h3 (Seg.rt (T := T) (d := d) h4)
  have hway := hR.way
  cases tr with
  | leaf => exact atstop hway
  | node f =>
    rcases hway with hat | hnext
    · exact atstop hat
    · obtain ⟨s1, w1, es, hn, hw⟩ := hnext w hR.wr
      exact p_walk hJ h x1 x2 hi hjd hμ hR hn hw

/-- ████ EVERY STEP ████ -/
theorem p_step (hJ : J.Ok) (h : PI J g jd μ gs w t) : PStep J μ (stepT J.P (crowd gs w sl)) t := by
  have some1 : ∃ (i : Nat) (gr : Goroutine), gs[i]? = some gr ∧ gr.status = .running := by
    obtain ⟨gr0, hg0, hz0⟩ := h.z
    generalize μ.1 = a0 at hz0
    cases hz0 with
    | go hg => exact ⟨0, _, hg0, by rw [hg]; rfl⟩
    | rc hg => exact ⟨0, _, hg0, by rw [hg]; rfl⟩
    | parked hg hs hz hj hr hn =>
      obtain ⟨x, x1, x2, hx⟩ := cnt_free jd J.n (by omega)
      obtain ⟨gr, a1, a2⟩ := h.ws x x1 (by omega)
      rw [hx] at a2
      generalize μ.2 (J.m + x) = m at a2
      cases a2 with
      | born hg' => exact ⟨_, _, a1, by rw [hg']; rfl⟩
      | run hr' => exact ⟨_, _, a1, by rw [hr'.gr]; rfl⟩
      | parked hg' => exact absurd (by rw [hg']; rfl) (h.pk _ hg0 (by rw [hg]; rfl) x _ x1 (by omega) a1)
  obtain ⟨i, gr, d, sl', hi, hgr, hst⟩ := crowd_pick (P := J.P) (w := w) (sl := sl) (fun gr hgr => by
    obtain ⟨i, hi, rfl⟩ := Array.mem_iff_getElem.1 hgr
    exact (h.steady (Array.getElem?_eq_getElem hi)).awake) some1
  have h' := h.atd d
  rw [hst]
  rcases h.who hi with rfl | ⟨i1, i2⟩ | ⟨x, x1, x2, rfl⟩
  · obtain ⟨gr0, hg0, hz0⟩ := h'.z
    rw [hi] at hg0
    obtain rfl := Option.some.inj hg0
    generalize hμ1 : μ.1 = a0 at hz0
    cases hz0 with
    | @go _ s tr sp hg hz hsp hw =>
      have hat : s.at (QG J g.j sp) → PStep J μ (runT J.P (crowd gs (w.at d) sl') 0) t := fun hat => p0_spawn hJ h' hi hg hz hsp ⟨_, hμ1⟩ hat
      cases tr with
      | leaf => exact hat hw
      | node f =>
        rcases hw with hw | hnext
        · exact hat hw
        · obtain ⟨s1, w1, es, hn, hw⟩ := hnext _ hz.wr
          exact p0_walk hJ h' hi hg hz hn (fun hz1 => .go rfl hz1 hsp hw) (by rw [hμ1]; exact Me.r _ (.mk f _))
    | @rc _ s tr r hg hz hj hr hw =>
      have hat : s.at (QR J r) → PStep J μ (runT J.P (crowd gs (w.at d) sl') 0) t := fun hat => p0_rcv hJ h' hi hg hz hj hr ⟨_, hμ1⟩ hat
      cases tr with
      | leaf => exact hat hw
      | node f =>
        rcases hw with hw | hnext
        · exact hat hw
        · obtain ⟨s1, w1, es, hn, hw⟩ := hnext _ hz.wr
          exact p0_walk hJ h' hi hg hz hn (fun hz1 => .rc rfl hz1 hj hr hw) (by rw [hμ1]; exact Me.r _ (.mk f _))
    | parked hg => rw [hg] at hgr; cases hgr
  · exact p_leaver h' i1 i2 hi hgr
  · obtain ⟨gr0, hg0, hs0⟩ := h'.ws x x1 x2
    rw [hi] at hg0
    obtain rfl := Option.some.inj hg0
    generalize hμx : μ.2 (J.m + x) = ax at hs0
    generalize hjx : jd x = b at hs0
    cases hs0 with
    | born hg hc hb => rw [hg] at hi; exact p_born hJ h' x1 x2 hi hjx hμx hc hb
    | run hR => exact p_run hJ h' x1 x2 hi hjx hμx hR
    | parked hg => rw [hg] at hgr; cases hgr
    | @gone _ q hq hd =>
      obtain ⟨m, g', hm, hq', hrun⟩ := quit_step (sl := sl') (by omega) hi hq hgr (fun i gr => h'.steady) h'.com.chan
      have hnew := h'.set x1 x2 (h'.com.gsize (gs' := gs.setIfInBounds (J.m + x) g') (by simp)) rfl (fun y _ => keep_heap rfl) (by rw [hjx]; exact .gone hq' hd) (by rw [hμx, hm]; exact Me.l _ _ (Nat.lt_succ_self m))
        (.inl (by rcases hq'.status with e | e <;> rw [e] <;> simp))
      have hsz := h.com.size
      have hjn := h.com.j
      exact ⟨_, _, _, _, hrun, by simp; omega, .inr ⟨_, _, _, hnew.1, by rw [Array.append_empty]; exact hnew.2⟩⟩

/-- ████ THE PHASE ████ -/
theorem phase (hJ : J.Ok) : ∀ (μ : Me × (Nat → Me)) (g : Geo) (jd : Nat → Bool) (gs : Array Goroutine) (w : World) (sl : Option (Nat × Nat)) (t : Trace), PI J g jd μ gs w t →
    ∃ N gs' w' sl' t' g' q s, runNT J.P N (crowd gs w sl) t = (.next (crowd gs' w' sl'), t') ∧ PF J g' q s gs' w' t' := by
  intro μ
  induction μ using (PLt.wf (J.m + J.n + 1)).induction with
  | _ μ ih =>
    intro g jd gs w sl t h
    obtain ⟨gs1, w1, sl1, ops, hs, _, hf | ⟨g1, jd1, μ1, hlt, h1⟩⟩ := p_step (sl := sl) hJ h
    · obtain ⟨g', q, s, hf⟩ := hf
      exact ⟨1, gs1, w1, sl1, _, g', q, s, by rw [runNT_succ_next hs]; rfl, hf⟩
    · obtain ⟨N, gs', w', sl', t', g', q, s, hr, hf⟩ := ih μ1 hlt g1 jd1 gs1 w1 sl1 _ h1
      exact ⟨N + 1, gs', w', sl', t', g', q, s, by rw [runNT_succ_next hs]; exact hr, hf⟩
end
end Go.Proofs.Ytneclhkpgalnlaa.Sm
