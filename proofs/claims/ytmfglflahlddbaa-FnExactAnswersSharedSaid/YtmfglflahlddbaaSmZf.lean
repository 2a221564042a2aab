/-
  WORKERS JOINED OVER A CHANNEL: a join; goroutine 0's steps; a worker's send.
-/
import Derived.Test.YtmfglflahlddbaaSmZe
namespace Go.Proofs.Ytmfglflahlddbaa.Sm
open Go Go.Conc
open Go.ConcN (sumTo upd sumTo_upd upd_ne upd_same sumTo_congr)
set_option linter.unusedVariables false
set_option linter.unusedSimpArgs false
section
variable {J : Job} {g : Geo} {jd : Nat → Bool} {μ : Me × (Nat → Me)} {gs : Array Goroutine} {w w1 : World} {t : Trace} {sl : Option (Nat × Nat)}

theorem trI_act {g : Geo} {m hs : Nat} {act act' : Nat → Prop} {t : Trace} (h : TrI g m hs act t) (he : ∀ z, act z ↔ act' z) : TrI g m hs act' t := by
  have : act = act' := funext fun z => propext (he z)
  rw [← this]; exact h

/-- A JOIN. -/
theorem p_join (hJ : J.Ok) (hcom : Com J g gs w t jd) {f : Nat → Me} (hlv : ∀ i, 1 ≤ i → i ≤ J.m → ∃ gr, gs[i]? = some gr ∧ QuitsIn J.P (f i).1 gr ∧ (f i).2 = .leaf) (hws : ∀ y, 1 ≤ y → y ≤ g.j → ∃ gr, gs[J.m + y]? = some gr ∧ WSit J g w y (f (J.m + y)) gr (jd y))
    {x : Nat} (x1 : 1 ≤ x) (x2 : x ≤ g.j) (hjd : jd x = false) (hj : g.j = J.n) {r : Nat} (hr : cnt J.n jd + r + 1 = J.n) {s1 : St} (hz : ZR J g w s1) (hn : ∃ T d, RNext J.P J.Ch J.bC J.Fin r s1.fr s1.up (rt s1.v T d))
    {grx : Goroutine} {q : Nat} (hq : QuitsIn J.P q grx) (hd : Done J w x J.len) {gs' : Array Goroutine} (hs : gs'.size = gs.size) (h0 : gs'[0]? = some (G s1.fr' s1.up')) (hx : gs'[J.m + x]? = some grx) (ho : ∀ k, k ≠ 0 → k ≠ J.m + x → gs'[k]? = gs[k]?) (d : Nat)
    {o1 o2 o3 o4 : MemOp} (hu : (o1.g = J.m + x ∧ o1.act = .send J.cC (J.s0 + cnt J.n jd)) ∧ (o2.g = 0 ∧ o2.act = .recv J.cC (J.s0 + cnt J.n jd) 0) ∧ (o3.g = J.m + x ∧ o3.act = .sendDone J.cC (J.s0 + cnt J.n jd)) ∧ (o4.g = 0 ∧ o4.act = .recvDone J.cC (J.s0 + cnt J.n jd))) :
    (∃ g' q' s', PF J g' q' s' gs' ((w.at d).setChan J.cC 0 #[] false (J.s0 + cnt J.n jd + 1) (J.s0 + cnt J.n jd + 1) J.tm) (t ++ #[o1, o2, o3, o4])) ∨
    ∃ r' tr f', r = r' + 1 ∧ PI J g (upd jd x true) ((2 * (r' + 1) + 1, tr), f') gs' ((w.at d).setChan J.cC 0 #[] false (J.s0 + cnt J.n jd + 1) (J.s0 + cnt J.n jd + 1) J.tm) (t ++ #[o1, o2, o3, o4]) := by
  have hout : ∃ y, w.heap[J.cO]? = some (.cells y J.elO J.fzO) := let ⟨y, a, _⟩ := hcom.out; ⟨y, a⟩
  have hk : ∀ y, Keep J y g w g ((w.at d).setChan J.cC 0 #[] false (J.s0 + cnt J.n jd + 1) (J.s0 + cnt J.n jd + 1) J.tm) := fun y => keep_chan hcom.ok hcom.chan (hcom.cC hJ) hout
  have hne : J.cC ≠ J.cO := by intro e; obtain ⟨y, hy⟩ := hout; have := hcom.chan; rw [e, hy] at this; cases this
  have hlt : J.cC < w.heap.size := (Array.getElem?_eq_some_iff.1 hcom.chan).1
  have hget : ∀ c, J.cC ≠ c → ((w.at d).setChan J.cC 0 #[] false (J.s0 + cnt J.n jd + 1) (J.s0 + cnt J.n jd + 1) J.tm).heap[c]? = w.heap[c]? := fun c hc => by
    show (w.heap.setIfInBounds J.cC _)[c]? = _
    rw [Array.getElem?_setIfInBounds_ne hc]
  have hcnt := cnt_upd x1 hjd J.n (by omega)
  have hsz : ((w.at d).setChan J.cC 0 #[] false (J.s0 + cnt J.n jd + 1) (J.s0 + cnt J.n jd + 1) J.tm).heap.size = w.heap.size := by simp [World.setChan, World.at]
  have hcom' : Com J g gs' ((w.at d).setChan J.cC 0 #[] false (J.s0 + cnt J.n jd + 1) (J.s0 + cnt J.n jd + 1) J.tm) (t ++ #[o1, o2, o3, o4]) (upd jd x true) := by
    refine ⟨hcom.h0, by rw [hsz]; exact hcom.hsz, hcom.cO, hcom.n, hcom.j, by rw [hsz]; exact hcom.ok, hs.trans hcom.size, ?_, fun z => by rw [hget _ hne]; exact hcom.outz z, ?_, fun c c1 c2 c3 => by rw [hget c (Ne.symm c3)]; exact hcom.old c c1 c2 c3, hcom.tape, hcom.os, hcom.outp, ?_, fun z hz => ?_⟩
    · rw [hget _ hne]; exact hcom.out
    · rw [hcnt, ← Nat.add_assoc]
      show (w.heap.setIfInBounds J.cC _)[J.cC]? = _
      rw [Array.getElem?_setIfInBounds_self_of_lt hlt]
    · rw [hsz]
      refine trI_act (hcom.tr.join (y := x) hu) fun z => ⟨fun ⟨⟨a1, a2, a3⟩, a4⟩ => ⟨a1, a2, by rw [upd_ne jd true a4]; exact a3⟩, fun ⟨a1, a2, a3⟩ => ?_⟩
      have : z ≠ x := by rintro rfl; rw [upd_same] at a3; cases a3
      rw [upd_ne jd true this] at a3
      exact ⟨⟨a1, a2, a3⟩, this⟩
    · by_cases e : z = x
      · subst e; exact ⟨x1, by omega, hj⟩
      · rw [upd_ne jd true e] at hz; exact hcom.jall z hz
  have hws' : ∀ y, 1 ≤ y → y ≤ g.j → ∃ gr, gs'[J.m + y]? = some gr ∧ WSit J g ((w.at d).setChan J.cC 0 #[] false (J.s0 + cnt J.n jd + 1) (J.s0 + cnt J.n jd + 1) J.tm) y (upd f (J.m + x) (q, .leaf) (J.m + y)) gr (upd jd x true y) := by
    intro y y1 y2
    by_cases e : y = x
    · subst e
      refine ⟨grx, hx, ?_⟩
      rw [upd_same, upd_same]
      exact .gone hq (hd.keep (hk y))
    · obtain ⟨gr, a1, a2⟩ := hws y y1 y2
      refine ⟨gr, by rw [ho _ (by omega) (by omega)]; exact a1, ?_⟩
      rw [upd_ne f _ (by omega), upd_ne jd true e]
      exact a2.keep (hk y) y1 y2
  have hlv' : ∀ i, 1 ≤ i → i ≤ J.m → ∃ gr, gs'[i]? = some gr ∧ QuitsIn J.P (upd f (J.m + x) (q, .leaf) i).1 gr ∧ (upd f (J.m + x) (q, .leaf) i).2 = .leaf := by
    intro i i1 i2
    obtain ⟨gr, a1, a2⟩ := hlv i i1 i2
    refine ⟨gr, by rw [ho _ (by omega) (by omega)]; exact a1, ?_⟩
    rw [upd_ne f _ (by omega)]; exact a2
  have hz' := hz.keep (hk 0)
  cases r with
  | zero =>
    left
    have hall := cnt_full (upd jd x true) J.n (by rw [hcnt]; omega)
    refine ⟨g, fun i => (upd f (J.m + x) (q, .leaf) i).1, s1, ⟨⟨_, hcom', hall⟩, hj, h0, hz', hn, fun i gr i1 hi => ?_, fun i hi => ?_⟩⟩
    · have hlt2 := (Array.getElem?_eq_some_iff.1 hi).1
      have hsize := hcom'.size
      by_cases hm : i ≤ J.m
      · obtain ⟨gr', a1, a2, _⟩ := hlv' i i1 hm
        rw [hi] at a1
        obtain rfl := Option.some.inj a1
        exact a2
      · obtain ⟨y, rfl⟩ : ∃ y, i = J.m + y := ⟨i - J.m, by omega⟩
        obtain ⟨gr', a1, a2⟩ := hws' y (by omega) (by omega)
        rw [hi] at a1
        obtain rfl := Option.some.inj a1
        rw [hall y (by omega) (by omega)] at a2
        generalize upd f (J.m + x) (q, .leaf) (J.m + y) = z at a2
        cases a2 with
        | gone hq' _ => exact hq'
    · have hmod := Nat.mod_lt i (show 0 < J.n by have := hJ.hn; omega)
      obtain ⟨gr', a1, a2⟩ := hws' (i % J.n + 1) (by omega) (by omega)
      rw [hall _ (by omega) (by omega)] at a2
      generalize upd f (J.m + x) (q, .leaf) (J.m + (i % J.n + 1)) = z at a2
      cases a2 with
      | gone _ hd' => exact hd' i hi rfl hi
  | succ r' =>
    right
    obtain ⟨T, d2, hn⟩ := hn
    have hseg : Seg J.P J.Ch (QR J r') s1.fr s1.up s1.v := Seg.rt (T := T) (d := d2) hn
    obtain ⟨tr, hway⟩ := way_of_seg (main := true) (bs := []) hJ.hP hz.ok hseg hz.veil
    refine ⟨r', tr, upd f (J.m + x) (q, .leaf), rfl, hcom', ⟨_, h0, .rc rfl hz' hj (by rw [hcnt]; omega) hway⟩, hws', hlv', fun gr hgr hb => ?_⟩
    rw [h0] at hgr
    obtain rfl := Option.some.inj hgr
    cases hb

theorem zero_go (h : PI J g jd μ gs w t) {gr gr' : Goroutine} {es : Array Event} (hi : gs[0]? = some gr) (hst : stepG J.P true gr w = .go gr' w1 es)
    (hc : ∃ s r tm, w1.heap[J.cC]? = some (.chan 0 #[] false s r tm)) : runT J.P (crowd gs w sl) 0 = (.next (crowd (gs.setIfInBounds 0 gr') w1 sl), MemOp.ofEvents (gi J.m 0) gr.frame.fn gr.frame.place es) := by
  obtain ⟨s, r, tm, hc⟩ := hc
  have hrunT := runT_crowd_go (P := J.P) (sl := sl) (i := 0) hi (show stepG J.P (0 == 0) gr w = _ from hst)
  rw [woken_all (steady_h h) hc] at hrunT
  exact hrunT

/-- Goroutine 0's place is laid anew, by a step of its own. -/
theorem PI.set0 (h : PI J g jd μ gs w t) {g' : Geo} {a : Me} {gr' : Goroutine} {w' : World} {t' : Trace} (hcom : Com J g' (gs.setIfInBounds 0 gr') w' t' jd) (hj : g'.j = g.j) (hk : ∀ y, y ≠ 0 → Keep J y g w g' w')
    (hs : ZSit J g' w' jd a gr') (hlt : Me.lt a μ.1) (hb : gr'.status ≠ .blocked ∨ ∀ x gr', 1 ≤ x → x ≤ g.j → gs[J.m + x]? = some gr' → gr'.status ≠ .blocked) :
    PLt (J.m + J.n + 1) (a, μ.2) μ ∧ PI J g' jd (a, μ.2) (gs.setIfInBounds 0 gr') w' t' := by
  have hsz := h.com.size
  refine ⟨.left _ _ hlt, hcom, ⟨gr', by rw [Array.getElem?_setIfInBounds_self_of_lt (by omega)], hs⟩, fun y y1 y2 => ?_, fun k k1 k2 => ?_, fun gr hgr hbl y gr2 y1 y2 hy => ?_⟩
  · rw [hj] at y2
    obtain ⟨gr, a1, a2⟩ := h.ws y y1 y2
    exact ⟨gr, by rw [Array.getElem?_setIfInBounds_ne (by omega)]; exact a1, a2.keep (hk y (by omega)) y1 y2⟩
  · rw [Array.getElem?_setIfInBounds_ne (by omega)]; exact h.lv k k1 k2
  · rw [Array.getElem?_setIfInBounds_self_of_lt (by omega)] at hgr
    obtain rfl := Option.some.inj hgr
    rw [hj] at y2
    rw [Array.getElem?_setIfInBounds_ne (by omega)] at hy
    rcases hb with hb | hb
    · exact absurd hbl hb
    · exact hb y gr2 y1 y2 hy

theorem ZR.next (hJ : J.Ok) (hcom : Com J g gs w t jd) {s s1 : St} (hz : ZR J g w s) {es : Array Event} (hn : Nx J.P J.Fs true [] J.Ch s s1 w w1 es) :
    ZR J (g.after w.heap.size 0) w1 s1 ∧ Eff g 0 w w1 ∧ ∀ e ∈ es, EvOk (g.after w.heap.size 0) 0 w1.heap.size e := by
  obtain ⟨u, hu, hst⟩ := hn.st
  have he := lay_eff hcom.ok hu hz.wr hst hz.lay hz.veil hn.ch
  have hv1 : Veil J.Ch s1.v := fun b hb => by
    obtain ⟨o, h1, h2, h3⟩ := hz.veil b hb
    exact ⟨o, by rw [hn.ch b hb]; exact h1, h2, h3⟩
  have hl1 := lay_next hcom.ok hu hz.wr hst hz.lay
  have hsame : ∀ c, g.Old c → w1.heap[c]? = w.heap[c]? := fun c hc => he.same c (hcom.ok.h0 c hc) (Geo.not_mine_old hc)
  have hcells : ∃ y el fz, w1.heap[(g.after w.heap.size 0).cO]? = some (.cells y el fz) := by
    obtain ⟨y, el, fz, hy⟩ := hcom.cellsO
    exact ⟨y, el, fz, by rw [show (g.after w.heap.size 0).cO = g.cO from rfl, hsame _ hcom.ok.cO]; exact hy⟩
  have hsize : u.heap.size = s.v.heap.size := by rw [hu]
  refine ⟨⟨hn.ok, hst.wr, hl1, hv1, fun b c hb => hst.ext _ _ (hz.sub b c hb), fun b c hb => ?_, ?_⟩, he, fun e he => ev_ok hl1 hst.wr hv1 hcells (hst.evs e he)⟩
  · rcases hst.new b c hb with hb | ⟨h1, h2⟩
    · exact hz.new b c hb
    · have := hz.size
      have := hcom.hsz
      exact .inr ⟨by omega, by omega⟩
  · have := hst.keepV.size
    have := hz.size
    omega

/-- Goroutine 0's followed step. -/
theorem p0_walk (hJ : J.Ok) (h : PI J g jd μ gs w t) {gr : Goroutine} (hi : gs[0]? = some gr) {s s1 : St} (hg : gr = G s.fr' s.up') (hz : ZR J g w s) {es : Array Event} (hn : Nx J.P J.Fs true [] J.Ch s s1 w w1 es) {a : Me}
    (hs : ZR J (g.after w.heap.size 0) w1 s1 → ZSit J (g.after w.heap.size 0) w1 jd a (G s1.fr' s1.up')) (hlt : Me.lt a μ.1) : PStep J μ (runT J.P (crowd gs w sl) 0) t := by
  obtain ⟨hz1, he, hes⟩ := hz.next hJ h.com hn
  have hsame : ∀ c, g.Old c → w1.heap[c]? = w.heap[c]? := fun c hc => he.same c (h.com.ok.h0 c hc) (Geo.not_mine_old hc)
  have hstep := hn.step
  simp only [List.append_nil] at hstep
  rw [← hg] at hstep
  have hrun := zero_go (sl := sl) h hi hstep ⟨_, _, _, by rw [hsame _ (h.com.cC hJ)]; exact h.com.chan⟩
  have hcom := h.com.eff hJ (.inl rfl) he (fn := gr.frame.fn) (pos := gr.frame.place) hes (gs' := gs.setIfInBounds 0 (G s1.fr' s1.up')) (by simp)
  have hnew := h.set0 hcom rfl (fun y hy => keep_eff he h.com.ok h.com.cO hy) (hs hz1) hlt (.inl (by simp [G]))
  have hsz := h.com.size
  have hjn := h.com.j
  exact ⟨_, _, _, _, hrun, by simp; omega, .inr ⟨_, _, _, hnew.1, hnew.2⟩⟩

theorem getD_caps {v : Value} {l : List Value} : (#[v] ++ l.toArray : Array Value).toList = v :: l := by simp

/-- A go statement. -/
theorem p0_spawn (hJ : J.Ok) (h : PI J g jd μ gs w t) {gr : Goroutine} (hi : gs[0]? = some gr) {s : St} (hg : gr = G s.fr' s.up') (hz : ZR J g w s) {sp : Nat} (hsp : g.j + sp + 1 = J.n) (hμ : ∃ tr, μ.1 = (2 * (sp + 1 + J.n) + 1, tr)) (hat : s.at (QG J g.j sp)) : PStep J μ (runT J.P (crowd gs w sl) 0) t := by
  obtain ⟨T, d, fr1, ⟨b, hgo, hbox⟩, hnext⟩ := hat
  have hbox : s.v.heap[b]? = some (.cells #[.int .i64 g.j] J.el0 (0, 0)) := hbox
  obtain ⟨caps', fr1', hst, hfr, hcaps⟩ := hgo.real hz.ok.1 s.up'
  have hst := hst w
  rw [← hg] at hst
  have hrun := runT_crowd_spawn (P := J.P) (sl := sl) (i := 0) hi (show stepG J.P (0 == 0) gr w = _ from hst)
  rw [ofEvents_none] at hrun
  have hsz := h.com.size
  have hjn := h.com.j
  -- the box
  have hc0 : ∃ c, caps'[0]? = some (.pointer (some ⟨c, 0, none⟩)) ∧ s.R b c := by
    obtain ⟨v', h1, h2⟩ := hcaps.get (i := 0) (v := .pointer (some ⟨b, 0, none⟩)) (by simp)
    cases h2 with
    | @pointer _ a' hA =>
      obtain ⟨k1, k2, k3, _⟩ := hA
      obtain ⟨c, o, sp⟩ := a'
      simp only at k1 k2 k3
      subst k2 k3
      exact ⟨c, h1, k1⟩
  obtain ⟨c, hcap0, hbc⟩ := hc0
  have hun : Un s.v b 0 := ⟨_, _, _, hbox, by simp, by simp [inFz]⟩
  have hmine : g.Mine 0 c := by
    rcases hz.lay b c hbc with h1 | ⟨_, h1 | h1, _⟩
    · exact h1
    · exact absurd hun h1.not_un
    · obtain ⟨o, ho, hn, _⟩ := hz.veil b h1
      exact absurd hun (not_un_non ho hn)
  obtain ⟨hlb, hlc⟩ := hz.wr.lt hbc
  obtain ⟨o, o', ho, ho', hOR⟩ := hz.wr.obj b c hbc
  rw [hbox] at ho
  simp only [Option.some.injEq] at ho
  subst ho
  have hreal : ∃ y fz, w.heap[c]? = some (.cells y J.el0 fz) ∧ y[0]? = some (.int .i64 (g.j : Nat)) := by
    cases hOR with
    | @cells _ y _ _ fz h1 h2 =>
      obtain ⟨v', a1, a2⟩ := h1 0 (.int .i64 g.j) (by simp)
      cases a2
      exact ⟨y, fz, ho', a1⟩
  have hcb : ∀ b', s.R b' c → ∃ y el fz, s.v.heap[b']? = some (.cells y el fz) := by
    intro b' hb'
    obtain ⟨p, p', hp, hp', hOR'⟩ := hz.wr.obj b' c hb'
    obtain ⟨y, fz, hy, _⟩ := hreal
    rw [hy] at hp'
    simp only [Option.some.injEq] at hp'
    subst hp'
    cases hOR' with
    | cells => exact ⟨_, _, _, hp⟩
  let s1 : St := ⟨s.R, frz s.v, fr1, fr1', s.up, s.up'⟩
  have hok1 : s1.ok J.P J.Fs := ⟨hfr, hz.ok.2⟩
  have hz1 : ZR J (g.spawned c) w s1 := ⟨hok1, wr_frz hz.wr, lay_spawn hz.wr hz.lay hz.veil hmine h.com.ok.cO hcb, veil_frz hz.veil, hz.sub, hz.new, by have := hz.size; simp [s1, frz]; exact this⟩
  have hk : ∀ y, 1 ≤ y → y ≤ g.j → Keep J y g w (g.spawned c) w := fun y y1 y2 => keep_spawn hmine.2.1 y1 y2
  have hjdn : jd (g.j + 1) = false := by
    cases e : jd (g.j + 1) with
    | false => rfl
    | true => have := (h.com.jall _ e).2.2; omega
  have hgsz : gs.size = J.m + (g.j + 1) := by omega
  let gs' := (gs.setIfInBounds 0 (G fr1' s.up')).push (Conc.born J.P { target := .fn (.func J.fW) caps', args := #[] })
  have hget : ∀ k gr, gs[k]? = some gr → k ≠ 0 → gs'[k]? = some gr := by
    intro k gr hk h0
    have := (Array.getElem?_eq_some_iff.1 hk).1
    show ((gs.setIfInBounds 0 _).push _)[k]? = _
    rw [Array.getElem?_push, if_neg (by simp; omega), Array.getElem?_setIfInBounds_ne (by omega)]; exact hk
  have hget0 : gs'[0]? = some (G fr1' s.up') := by
    show ((gs.setIfInBounds 0 _).push _)[0]? = _
    rw [Array.getElem?_push, if_neg (by simp; omega), Array.getElem?_setIfInBounds_self_of_lt (by omega)]
  have hgetn : gs'[J.m + (g.j + 1)]? = some (Conc.born J.P { target := .fn (.func J.fW) caps', args := #[] }) := by
    show ((gs.setIfInBounds 0 _).push _)[J.m + (g.j + 1)]? = _
    rw [Array.getElem?_push, if_pos (by simp; omega)]
  have hcom : Com J (g.spawned c) gs' w (t ++ #[{ g := 0, fn := gr.frame.fn, pos := gr.frame.place, act := .go gs.size }, { g := gs.size, fn := (Conc.born J.P { target := .fn (.func J.fW) caps', args := #[] }).frame.fn, pos := gr.frame.place, act := .start }]) jd := by
    refine ⟨h.com.h0, h.com.hsz, h.com.cO, h.com.n, by simp only [Geo.spawned]; omega, ok_spawned h.com.ok hmine.2.1 hmine.1 hlc hmine.2.2, by simp [gs', Geo.spawned]; omega, h.com.out, h.com.outz, h.com.chan, h.com.old, h.com.tape, h.com.os, h.com.outp, ?_, fun x hx => ?_⟩
    · refine trI_act (h.com.tr.spawn h.com.ok hmine.2.1 hmine.2.2 (fun y hy => hy.2.1) ⟨rfl, by rw [hgsz]⟩ ⟨by rw [hgsz], rfl⟩) fun z => ⟨fun hz => ?_, fun ⟨z1, z2, z3⟩ => ?_⟩
      · rcases hz with ⟨z1, z2, z3⟩ | rfl
        · exact ⟨z1, Nat.le_succ_of_le z2, z3⟩
        · exact ⟨by omega, Nat.le_refl _, hjdn⟩
      · have z2 : z ≤ g.j + 1 := z2
        by_cases e : z = g.j + 1
        · exact .inr e
        · exact .inl ⟨z1, by omega, z3⟩
    · have := (h.com.jall x hx).2.2
      omega
  -- where goroutine 0 goes on
  have hsit : ∃ a, ZSit J (g.spawned c) w jd a (G fr1' s.up') ∧ Me.lt a μ.1 := by
    obtain ⟨tr0, hμ⟩ := hμ
    cases sp with
    | zero =>
      obtain ⟨r, hr⟩ : ∃ r, J.n = r + 1 := ⟨J.n - 1, by have := hJ.hn; omega⟩
      have hcnt : cnt J.n jd = 0 := by
        rcases Nat.eq_zero_or_pos (cnt J.n jd) with e | e
        · exact e
        · exfalso
          have : ∃ x, jd x = true := by
            refine Classical.byContradiction fun hno => ?_
            have hall : ∀ x, jd x = false := fun x => by
              cases e : jd x with
              | false => rfl
              | true => exact absurd ⟨x, e⟩ hno
            have : cnt J.n jd = 0 := by
              unfold cnt
              rw [sumTo_congr (g := fun _ => 0) fun i _ => by rw [hall]; rfl]
              generalize J.n = N
              induction N with
              | zero => rfl
              | succ N ih => simp only [sumTo, ih]
            omega
          obtain ⟨x, hx⟩ := this
          have := (h.com.jall x hx).2.2
          omega
      have hseg : Seg J.P J.Ch (QR J r) s1.fr s1.up s1.v := by
        have h1 : RNext J.P J.Ch J.bC J.Fin J.n fr1 s.up (frz (rt s.v T d)) := hnext
        rw [hr] at h1
        exact Seg.rt (T := T) (d := d) h1
      obtain ⟨tr, hway⟩ := way_of_seg (main := true) (bs := []) hJ.hP hok1 hseg hz1.veil
      exact ⟨_, .rc (s := s1) rfl hz1 (by simp only [Geo.spawned]; omega) (r := r) (by omega) hway, by rw [hμ]; exact Me.l _ _ (by omega)⟩
    | succ sp =>
      have hj1 : (g.spawned c).j = J.n - (sp + 1) := by simp only [Geo.spawned]; omega
      have hseg : Seg J.P J.Ch (QG J (g.spawned c).j sp) s1.fr s1.up s1.v := by
        have h1 : GNext J.P J.Ch J.fW J.ps J.el0 J.bC J.n J.Fin (sp + 1) fr1 s.up (frz (rt s.v T d)) := hnext
        rw [hj1]
        exact Seg.rt (T := T) (d := d) h1
      obtain ⟨tr, hway⟩ := way_of_seg (main := true) (bs := []) hJ.hP hok1 hseg hz1.veil
      exact ⟨_, .go (s := s1) rfl hz1 (sp := sp) (by simp only [Geo.spawned]; omega) hway, by rw [hμ]; exact Me.l _ _ (by omega)⟩
  obtain ⟨a, hsit, hlt⟩ := hsit
  have hborn : WSit J (g.spawned c) w (g.j + 1) (J.len + 4, .leaf) (Conc.born J.P { target := .fn (.func J.fW) caps', args := #[] }) false := by
    have eb : (g.spawned c).box (g.j + 1) = c := by simp [Geo.spawned]
    refine .born rfl ?_ (by rw [eb]; exact hreal)
    rw [eb]
    refine .of_get (by have := hcaps.1; simpa [Job.capsV] using this) fun i v hv => ?_
    cases i with
    | zero =>
      have : v = .pointer (some ⟨J.vb.heap.size, 0, none⟩) := by simpa [Job.capsV] using hv.symm
      subst this
      exact ⟨_, hcap0, .pointer ⟨.inr ⟨rfl, rfl⟩, rfl, rfl, rfl⟩⟩
    | succ i =>
      have hv2 : ∃ p, p ∈ J.ps ∧ J.ps[i]? = some p ∧ v = .pointer (some ⟨p, 0, none⟩) := by
        unfold Job.capsV at hv
        rw [Array.getElem?_append_right (by simp)] at hv
        simp only [List.size_toArray, List.length_cons, List.length_nil, Nat.zero_add, Nat.add_sub_cancel, List.getElem?_toArray, List.getElem?_map] at hv
        obtain ⟨p, hp, e⟩ := Option.map_eq_some_iff.1 hv
        exact ⟨p, List.mem_of_getElem? hp, hp, e.symm⟩
      obtain ⟨p, hpm, hp, rfl⟩ := hv2
      obtain ⟨v', h1, h2⟩ := hcaps.get (i := i + 1) (v := .pointer (some ⟨p, 0, none⟩)) (by
        rw [Array.getElem?_append_right (by simp)]
        simp [hp])
      obtain ⟨cp, hcp⟩ := hJ.rps p hpm
      cases h2 with
      | @pointer _ a' hA =>
        obtain ⟨k1, k2, k3, k4⟩ := hA
        refine ⟨_, h1, .pointer ⟨.inl ?_, k2, k3, k4⟩⟩
        rw [← hz.wr.fn _ _ _ k1 (hz.sub _ _ (hJ.sub _ _ hcp))]
        exact hcp
  refine ⟨gs', w, sl, _, hrun, by simp [gs']; omega, .inr ⟨g.spawned c, jd, (a, upd μ.2 (J.m + (g.j + 1)) (J.len + 4, .leaf)), .left _ _ hlt, hcom, ⟨_, hget0, hsit⟩, fun y y1 y2 => ?_, fun i i1 i2 => ?_, fun gr2 hgr hb => ?_⟩⟩
  · by_cases e : y = g.j + 1
    · subst e
      refine ⟨_, hgetn, ?_⟩
      simp only
      rw [upd_same, hjdn]; exact hborn
    · have y2 : y ≤ g.j + 1 := y2
      obtain ⟨gr2, a1, a2⟩ := h.ws y y1 (by omega)
      refine ⟨gr2, hget _ _ a1 (by omega), ?_⟩
      simp only
      rw [upd_ne μ.2 _ (by omega)]
      exact a2.keep (hk y y1 (by omega)) y1 (by omega)
  · obtain ⟨gr2, a1, a2⟩ := h.lv i i1 i2
    refine ⟨gr2, hget _ _ a1 (by omega), ?_⟩
    simp only
    rw [upd_ne μ.2 _ (by omega)]
    exact a2
  · rw [hget0] at hgr
    obtain rfl := Option.some.inj hgr
    cases hb
end
end Go.Proofs.Ytmfglflahlddbaa.Sm
namespace Go.Proofs.Ytmfglflahlddbaa.Sm
open Go Go.Conc
open Go.ConcN (sumTo upd sumTo_upd upd_ne upd_same sumTo_congr)
set_option linter.unusedVariables false
set_option linter.unusedSimpArgs false
section
variable {J : Job} {g : Geo} {jd : Nat → Bool} {μ : Me × (Nat → Me)} {gs : Array Goroutine} {w w1 : World} {t : Trace} {sl : Option (Nat × Nat)}

theorem WSit.blocked {x : Nat} {m : Me} {gr : Goroutine} {b : Bool} (h : WSit J g w x m gr b) (hb : gr.status = .blocked) : b = false ∧ ∃ g0 z, gr = Conc.parked g0 #[scase J.cC (.bool true) z] .send ∧ (∃ q, QuitsIn J.P q (Conc.served g0 undef)) ∧ Done J w x J.len := by
  cases h with
  | born hg => rw [hg] at hb; cases hb
  | run h => rw [h.gr] at hb; cases hb
  | parked hg hq hd => exact ⟨rfl, _, _, hg, hq, hd⟩
  | gone hq => rcases hq.status with h | h <;> rw [h] at hb <;> cases hb

theorem PI.steady1 (h : PI J g jd μ gs w t) {i : Nat} {gr : Goroutine} (h1 : 1 ≤ i) (hi : gs[i]? = some gr) : gr.status ≠ .blocked ∨ ∃ g0 z x, gr = parked g0 #[scase J.cC (.bool true) z] .send ∧ i = J.m + x ∧ 1 ≤ x ∧ x ≤ g.j ∧ jd x = false ∧ (∃ q, QuitsIn J.P q (Conc.served g0 undef)) ∧ Done J w x J.len := by
  by_cases hb : gr.status = .blocked
  · right
    rcases h.who hi with rfl | ⟨a1, a2⟩ | ⟨x, a1, a2, rfl⟩
    · omega
    · obtain ⟨gr', b1, b2, _⟩ := h.lv i a1 a2
      rw [hi] at b1
      obtain rfl := Option.some.inj b1
      rcases b2.status with e | e <;> rw [e] at hb <;> cases hb
    · obtain ⟨gr', b1, b2⟩ := h.ws x a1 a2
      rw [hi] at b1
      obtain rfl := Option.some.inj b1
      obtain ⟨c1, g0, z, c2, c3, c4⟩ := b2.blocked hb
      exact ⟨g0, z, x, c2, rfl, a1, a2, c1, c3, c4⟩
  · exact .inl hb

theorem parked_inj {g0 g1 : Goroutine} {cs cs' : Array CommCase} {sh sh' : CommShape} (h : parked g0 cs sh = parked g1 cs' sh') : cs = cs' ∧ sh = sh' ∧ ∀ v, Conc.served g0 v = Conc.served g1 v := by
  unfold parked at h
  simp only [Goroutine.mk.injEq, Option.some.injEq, Prod.mk.injEq] at h
  obtain ⟨h1, h2, _, h3, h4, h5⟩ := h
  refine ⟨h4, h5, fun v => ?_⟩
  unfold Conc.served
  rw [h1, h2, h3]

theorem recvd_plain (v : Value) (b : Bool) : recvd false v b = v := rfl

/-- A receive. -/
theorem p0_rcv (hJ : J.Ok) (h : PI J g jd μ gs w t) {gr : Goroutine} (hi : gs[0]? = some gr) {s : St} (hg : gr = G s.fr' s.up') (hz : ZR J g w s) (hj : g.j = J.n) {r : Nat} (hr : cnt J.n jd + r + 1 = J.n) (hμ : ∃ tr, μ.1 = (2 * (r + 1) + 1, tr)) (hat : s.at (QR J r)) : PStep J μ (runT J.P (crowd gs w sl) 0) t := by
  obtain ⟨T, d, fr1, hop, hn⟩ := hat
  obtain ⟨tr0, hμ⟩ := hμ
  obtain ⟨z, fr1', hst, hfr, hsv⟩ := hop.real (P := J.P) (Fs := J.Fs) hz.ok.1 (fun c hc => hz.wr.fn _ _ _ (hz.sub _ _ (hJ.sub _ _ hJ.rC)) hc) s.up'
  have hst := hst w
  have hsv := hsv s.up'
  rw [← hg] at hst hsv
  let s1 : St := ⟨s.R, s.v, fr1, fr1', s.up, s.up'⟩
  have hz1 : ZR J g w s1 := ⟨⟨hfr, hz.ok.2⟩, hz.wr, hz.lay, hz.veil, hz.sub, hz.new, hz.size⟩
  have hsz := h.com.size
  have hjn := h.com.j
  by_cases hps : partners (gs.setIfInBounds 0 ph) J.cC true = []
  · have hrun := crowd_waits (P := J.P) (sl := sl) (i := 0) (cases := #[rcase J.cC z]) hi (show stepG J.P (0 == 0) gr w = _ from hst) (fun cc hcc => by
      simp only [List.mem_toArray, List.mem_cons, List.not_mem_nil, or_false] at hcc
      subst hcc
      exact ways_recv_none h.com.chan hps)
    rw [ofEvents_none] at hrun
    have hnew := h.set0 (h.com.gsize (gs' := gs.setIfInBounds 0 (parked gr #[rcase J.cC z] (.recv false))) (by simp)) rfl (fun y _ => keep_heap rfl)
      (.parked (s := s1) rfl hsv hz1 hj hr ⟨T, d, hn⟩) (by rw [hμ]; exact Me.l _ _ (by omega)) (.inr fun x gr' x1 x2 hx hb => by
        obtain ⟨gr2, a1, a2⟩ := h.ws x x1 x2
        rw [hx] at a1
        obtain rfl := Option.some.inj a1
        obtain ⟨_, g0, z2, c2, _⟩ := a2.blocked hb
        have : (J.m + x, 0) ∈ partners (gs.setIfInBounds 0 ph) J.cC true := mem_partners.2 ⟨gr', by rw [Array.getElem?_setIfInBounds_ne (by omega)]; exact hx, by rw [c2, offersAt_parked_send]; simp⟩
        rw [hps] at this
        cases this)
    exact ⟨_, _, _, _, hrun, by simp; omega, .inr ⟨_, _, _, hnew.1, by rw [Array.append_empty]; exact hnew.2⟩⟩
  · obtain ⟨j, gj, vj, zj, shj, d2, hj0, hgj, hrun⟩ := crowd_recv_meets_some (P := J.P) (sl := sl) (i := 0) hi (show stepG J.P (0 == 0) gr w = _ from hst) h.com.chan hps (fun j k hjk => by
      obtain ⟨g', h1, h2⟩ := mem_partners.1 hjk
      rcases getElem?_stand gs 0 j g' h1 with ⟨_, rfl⟩ | ⟨hne, h1⟩
      · rw [offersAt_ph] at h2; cases h2
      · rcases h.steady1 (by omega) h1 with hb | ⟨g0, z2, x, rfl, _⟩
        · rw [offersAt_of_not_blocked hb] at h2; cases h2
        · rw [offersAt_parked_send] at h2
          simp at h2
          exact ⟨h2, hne, g0, _, _, _, h1⟩)
    rw [ofEvents_none] at hrun
    rcases h.steady1 (by omega) hgj with hb | ⟨g0, z2, x, hpk, rfl, x1, x2, hjd, hq, hd⟩
    · exact absurd rfl hb
    obtain ⟨e1, rfl, e3⟩ := parked_inj hpk
    have ev : vj = .bool true := by
      simp only [scase, Array.mk.injEq, List.cons.injEq, CommCase.mk.injEq, Option.some.injEq] at e1
      exact e1.1.2.1
    subst ev
    rw [finishComm_send, finishComm_recv, recvd_plain] at hrun
    obtain ⟨q, hq⟩ := hq
    rw [← e3] at hq
    have hjoin := p_join hJ h.com h.lv h.ws x1 x2 hjd hj hr hz1 ⟨T, d, hn⟩ hq hd (gs' := (gs.setIfInBounds (J.m + x) (Conc.served gj undef)).setIfInBounds 0 (Conc.served gr (.bool true))) (by simp)
      (by rw [Array.getElem?_setIfInBounds_self_of_lt (by simp; omega), hsv]) (by rw [Array.getElem?_setIfInBounds_ne (by omega), Array.getElem?_setIfInBounds_self_of_lt (by omega)])
      (fun k k0 kx => by rw [Array.getElem?_setIfInBounds_ne (Ne.symm k0), Array.getElem?_setIfInBounds_ne (Ne.symm kx)]) d2
      (o1 := { g := J.m + x, fn := gj.frame.fn, pos := gj.frame.place, act := .send J.cC (J.s0 + cnt J.n jd) }) (o2 := { g := 0, fn := gr.frame.fn, pos := gr.frame.place, act := .recv J.cC (J.s0 + cnt J.n jd) 0 })
      (o3 := { g := J.m + x, fn := gj.frame.fn, pos := gj.frame.place, act := .sendDone J.cC (J.s0 + cnt J.n jd) }) (o4 := { g := 0, fn := gr.frame.fn, pos := gr.frame.place, act := .recvDone J.cC (J.s0 + cnt J.n jd) }) ⟨⟨rfl, rfl⟩, ⟨rfl, rfl⟩, ⟨rfl, rfl⟩, ⟨rfl, rfl⟩⟩
    rw [Array.empty_append] at hrun
    refine ⟨_, _, _, _, hrun, by simp; omega, ?_⟩
    rcases hjoin with hf | ⟨r', tr, f', rfl, hp⟩
    · exact .inl hf
    · exact .inr ⟨_, _, _, .left _ _ (by rw [hμ]; exact Me.l _ _ (by omega)), hp⟩

/-- A send. -/
theorem p_send (hJ : J.Ok) (h : PI J g jd μ gs w t) {x : Nat} (x1 : 1 ≤ x) (x2 : x ≤ g.j) {gr : Goroutine} (hi : gs[J.m + x]? = some gr) (hjd : jd x = false) {tr : Tree} {r e : Nat} {s : St} (hμ : μ.2 (J.m + x) = (r + 2, tr)) (hR : Running J g w x tr r e gr s)
    (hup : s.up = []) (he : J.len ≤ e) (hop : SendOp J.P J.bC s.fr) : PStep J μ (runT J.P (crowd gs w sl) (J.m + x)) t := by
  have hup' : s.up' = [] := by
    have := hR.ok.2
    rw [hup] at this
    cases hh : s.up' with
    | nil => rfl
    | cons a l => rw [hh] at this; exact this.elim
  have hgr : gr = G s.fr' [base J.P] := by rw [hR.gr, hup']; rfl
  obtain ⟨hst, hq⟩ := hop.real (P := J.P) (Fs := J.Fs) hR.ok.1 (fun c hc => hR.wr.fn _ _ _ (hR.sub _ _ hJ.rC) hc) [base J.P]
  have hst := hst w
  rw [← hgr] at hst hq
  have hd : Done J w x J.len := fun i i1 i2 i3 => hR.done i i1 i2 (by omega)
  have hsz := h.com.size
  have hjn := h.com.j
  have e0 : (J.m + x == 0) = false := by simp; omega
  obtain ⟨gr0, hg0, hz0⟩ := h.z
  have hother : ∀ k y, k ≠ 0 → (gs.setIfInBounds (J.m + x) ph)[k]? = some y → offersAt y J.cC false = [] := fun k y hk hy => by
    rcases getElem?_stand gs (J.m + x) k y hy with ⟨_, rfl⟩ | ⟨_, hy⟩
    · rfl
    · rcases h.steady1 (by omega) hy with hb | ⟨g0, z2, x, rfl, _⟩
      · exact offersAt_of_not_blocked hb _ _
      · exact offersAt_parked_send' _ _ _ _ _ _
  have hg0' : (gs.setIfInBounds (J.m + x) ph)[0]? = some gr0 := by rw [Array.getElem?_setIfInBounds_ne (by omega)]; exact hg0
  by_cases hb : gr0.status = .blocked
  · generalize hμ1 : μ.1 = a0 at hz0
    cases hz0 with
    | go hg => rw [hg] at hb; cases hb
    | rc hg => rw [hg] at hb; cases hb
    | @parked _ g0 z s1 r1 hg hs hz hj hr hn =>
      subst hg
      have hp : partners (gs.setIfInBounds (J.m + x) ph) J.cC false = [(0, 0)] := by
        rw [partners_one hg0' hother, offersAt_parked_recv]
        simp
      have hrun := crowd_send_meets (P := J.P) (sl := sl) (i := J.m + x) hi (by rw [e0]; exact hst) h.com.chan (j := 0) (by omega) hg0 hp
      rw [ofEvents_none, finishComm_send, finishComm_recv, recvd_plain, Array.empty_append] at hrun
      obtain ⟨q, hq⟩ := hq
      have hjoin := p_join hJ h.com h.lv h.ws x1 x2 hjd hj hr hz hn hq hd (gs' := (gs.setIfInBounds 0 (Conc.served g0 (.bool true))).setIfInBounds (J.m + x) (Conc.served gr undef)) (by simp)
        (by rw [Array.getElem?_setIfInBounds_ne (by omega), Array.getElem?_setIfInBounds_self_of_lt (by omega), hs]) (by rw [Array.getElem?_setIfInBounds_self_of_lt (by simp; omega)])
        (fun k k0 kx => by rw [Array.getElem?_setIfInBounds_ne (Ne.symm kx), Array.getElem?_setIfInBounds_ne (Ne.symm k0)]) w.drawn
        (o1 := { g := J.m + x, fn := gr.frame.fn, pos := gr.frame.place, act := .send J.cC (J.s0 + cnt J.n jd) }) (o2 := { g := 0, fn := g0.frame.fn, pos := g0.frame.place, act := .recv J.cC (J.s0 + cnt J.n jd) 0 })
        (o3 := { g := J.m + x, fn := gr.frame.fn, pos := gr.frame.place, act := .sendDone J.cC (J.s0 + cnt J.n jd) }) (o4 := { g := 0, fn := g0.frame.fn, pos := g0.frame.place, act := .recvDone J.cC (J.s0 + cnt J.n jd) }) ⟨⟨rfl, rfl⟩, ⟨rfl, rfl⟩, ⟨rfl, rfl⟩, ⟨rfl, rfl⟩⟩
      refine ⟨_, _, _, _, hrun, by simp; omega, ?_⟩
      rcases hjoin with hf | ⟨r', tr, f', rfl, hp⟩
      · exact .inl hf
      · exact .inr ⟨_, _, _, .left _ _ (by rw [hμ1]; exact Me.l _ _ (by omega)), hp⟩
  · have hp : partners (gs.setIfInBounds (J.m + x) ph) J.cC false = [] := partners_nil fun k y hy => by
      by_cases hk : k = 0
      · subst hk
        rw [hg0'] at hy
        obtain rfl := Option.some.inj hy
        exact offersAt_of_not_blocked hb _ _
      · exact hother k y hk hy
    have hrun := crowd_waits (P := J.P) (sl := sl) (i := J.m + x) (cases := #[scase J.cC (.bool true) (.tuple #[])]) hi (by rw [e0]; exact hst) (fun cc hcc => by
      simp only [List.mem_toArray, List.mem_cons, List.not_mem_nil, or_false] at hcc
      subst hcc
      exact ways_send_none h.com.chan (Nat.le_refl _) hp)
    rw [ofEvents_none] at hrun
    have hnew := h.set x1 x2 (h.com.gsize (gs' := gs.setIfInBounds (J.m + x) (parked gr #[scase J.cC (.bool true) (.tuple #[])] .send)) (by simp)) rfl (fun y _ => keep_heap rfl)
      (by rw [hjd]; exact .parked rfl hq hd) (by rw [hμ]; exact Me.l _ _ (by omega)) (.inr fun gr1 hgr1 => by rw [hg0] at hgr1; obtain rfl := Option.some.inj hgr1; exact hb)
    exact ⟨_, _, _, _, hrun, by simp; omega, .inr ⟨_, _, _, hnew.1, by rw [Array.append_empty]; exact hnew.2⟩⟩

/-- A worker that runs. -/
theorem p_run (hJ : J.Ok) (h : PI J g jd μ gs w t) {x : Nat} (x1 : 1 ≤ x) (x2 : x ≤ g.j) {gr : Goroutine} (hi : gs[J.m + x]? = some gr) (hjd : jd x = false) {tr : Tree} {r e : Nat} {s : St} (hμ : μ.2 (J.m + x) = (r + 2, tr)) (hR : Running J g w x tr r e gr s) : PStep J μ (runT J.P (crowd gs w sl) (J.m + x)) t := by
  have atstop : s.at (WStop J.P J.Ch J.bO J.bC J.n J.len J.f r e) → PStep J μ (runT J.P (crowd gs w sl) (J.m + x)) t := by
    rintro ⟨T, d, hat⟩
    cases r with
    | zero =>
      obtain ⟨h1, h2, h3⟩ := hat
      exact p_send hJ h x1 x2 hi hjd hμ hR h1 h2 h3
    | succ r =>
      obtain ⟨h1, ⟨h2, h3⟩ | ⟨h2, fr1, h3, h4⟩⟩ := hat
      · exact p_send hJ h x1 x2 hi hjd hμ hR h1 h2 h3
      · exact p_store hJ h x1 x2 hi hjd hμ hR h1 h2 h3 (Seg.rt (T := T) (d := d) h4)
  have hway := hR.way
  cases tr with
  | leaf => exact atstop hway
  | node f =>
    rcases hway with hat | hnext
    · exact atstop hat
    · obtain ⟨s1, w1, es, hn, hw⟩ := hnext w hR.wr
      exact p_walk hJ h x1 x2 hi hjd hμ hR hn hw

/-- ████ EVERY STEP ████ -/
theorem p_step (hJ : J.Ok) (h : PI J g jd μ gs w t) : PStep J μ (stepT J.P (crowd gs w sl)) t := by
  have some1 : ∃ (i : Nat) (gr : Goroutine), gs[i]? = some gr ∧ gr.status = .running := by
    obtain ⟨gr0, hg0, hz0⟩ := h.z
    generalize μ.1 = a0 at hz0
    cases hz0 with
    | go hg => exact ⟨0, _, hg0, by rw [hg]; rfl⟩
    | rc hg => exact ⟨0, _, hg0, by rw [hg]; rfl⟩
    | parked hg hs hz hj hr hn =>
      obtain ⟨x, x1, x2, hx⟩ := cnt_free jd J.n (by omega)
      obtain ⟨gr, a1, a2⟩ := h.ws x x1 (by omega)
      rw [hx] at a2
      generalize μ.2 (J.m + x) = m at a2
      cases a2 with
      | born hg' => exact ⟨_, _, a1, by rw [hg']; rfl⟩
      | run hr' => exact ⟨_, _, a1, by rw [hr'.gr]; rfl⟩
      | parked hg' => exact absurd (by rw [hg']; rfl) (h.pk _ hg0 (by rw [hg]; rfl) x _ x1 (by omega) a1)
  obtain ⟨i, gr, d, sl', hi, hgr, hst⟩ := crowd_pick (P := J.P) (w := w) (sl := sl) (fun gr hgr => by
    obtain ⟨i, hi, rfl⟩ := Array.mem_iff_getElem.1 hgr
    exact (h.steady (Array.getElem?_eq_getElem hi)).awake) some1
  have h' := h.atd d
  rw [hst]
  rcases h.who hi with rfl | ⟨i1, i2⟩ | ⟨x, x1, x2, rfl⟩
  · obtain ⟨gr0, hg0, hz0⟩ := h'.z
    rw [hi] at hg0
    obtain rfl := Option.some.inj hg0
    generalize hμ1 : μ.1 = a0 at hz0
    cases hz0 with
    | @go _ s tr sp hg hz hsp hw =>
      have hat : s.at (QG J g.j sp) → PStep J μ (runT J.P (crowd gs (w.at d) sl') 0) t := fun hat => p0_spawn hJ h' hi hg hz hsp ⟨_, hμ1⟩ hat
      cases tr with
      | leaf => exact hat hw
      | node f =>
        rcases hw with hw | hnext
        · exact hat hw
        · obtain ⟨s1, w1, es, hn, hw⟩ := hnext _ hz.wr
          exact p0_walk hJ h' hi hg hz hn (fun hz1 => .go rfl hz1 hsp hw) (by rw [hμ1]; exact Me.r _ (.mk f _))
    | @rc _ s tr r hg hz hj hr hw =>
      have hat : s.at (QR J r) → PStep J μ (runT J.P (crowd gs (w.at d) sl') 0) t := fun hat => p0_rcv hJ h' hi hg hz hj hr ⟨_, hμ1⟩ hat
      cases tr with
      | leaf => exact hat hw
      | node f =>
        rcases hw with hw | hnext
        · exact hat hw
        · obtain ⟨s1, w1, es, hn, hw⟩ := hnext _ hz.wr
          exact p0_walk hJ h' hi hg hz hn (fun hz1 => .rc rfl hz1 hj hr hw) (by rw [hμ1]; exact Me.r _ (.mk f _))
    | parked hg => rw [hg] at hgr; cases hgr
  · exact p_leaver h' i1 i2 hi hgr
  · obtain ⟨gr0, hg0, hs0⟩ := h'.ws x x1 x2
    rw [hi] at hg0
    obtain rfl := Option.some.inj hg0
    generalize hμx : μ.2 (J.m + x) = ax at hs0
    generalize hjx : jd x = b at hs0
    cases hs0 with
    | born hg hc hb => rw [hg] at hi; exact p_born hJ h' x1 x2 hi hjx hμx hc hb
    | run hR => exact p_run hJ h' x1 x2 hi hjx hμx hR
    | parked hg => rw [hg] at hgr; cases hgr
    | @gone _ q hq hd =>
      obtain ⟨m, g', hm, hq', hrun⟩ := quit_step (sl := sl') (by omega) hi hq hgr (fun i gr => h'.steady) h'.com.chan
      have hnew := h'.set x1 x2 (h'.com.gsize (gs' := gs.setIfInBounds (J.m + x) g') (by simp)) rfl (fun y _ => keep_heap rfl) (by rw [hjx]; exact .gone hq' hd) (by rw [hμx, hm]; exact Me.l _ _ (Nat.lt_succ_self m))
        (.inl (by rcases hq'.status with e | e <;> rw [e] <;> simp))
      have hsz := h.com.size
      have hjn := h.com.j
      exact ⟨_, _, _, _, hrun, by simp; omega, .inr ⟨_, _, _, hnew.1, by rw [Array.append_empty]; exact hnew.2⟩⟩

/-- ████ THE PHASE ████ -/
theorem phase (hJ : J.Ok) : ∀ (μ : Me × (Nat → Me)) (g : Geo) (jd : Nat → Bool) (gs : Array Goroutine) (w : World) (sl : Option (Nat × Nat)) (t : Trace), PI J g jd μ gs w t →
    ∃ N gs' w' sl' t' g' q s, runNT J.P N (crowd gs w sl) t = (.next (crowd gs' w' sl'), t') ∧ PF J g' q s gs' w' t' := by
  intro μ
  induction μ using (PLt.wf (J.m + J.n + 1)).induction with
  | _ μ ih =>
    intro g jd gs w sl t h
    obtain ⟨gs1, w1, sl1, ops, hs, _, hf | ⟨g1, jd1, μ1, hlt, h1⟩⟩ := p_step (sl := sl) hJ h
    · obtain ⟨g', q, s, hf⟩ := hf
      exact ⟨1, gs1, w1, sl1, _, g', q, s, by rw [runNT_succ_next hs]; rfl, hf⟩
    · obtain ⟨N, gs', w', sl', t', g', q, s, hr, hf⟩ := ih μ1 hlt g1 jd1 gs1 w1 sl1 _ h1
      exact ⟨N + 1, gs', w', sl', t', g', q, s, by rw [runNT_succ_next hs]; exact hr, hf⟩
end
end Go.Proofs.Ytmfglflahlddbaa.Sm
namespace Go.Proofs.Ytmfglflahlddbaa.Sm
open Go Go.Conc
open Go.ConcN (sumTo upd sumTo_upd upd_ne upd_same sumTo_congr)
set_option linter.unusedVariables false
set_option linter.unusedSimpArgs false

/-! ### what can be reached -/
inductive Pt : Value → Nat → Prop
  | pointer (a : Addr) : Pt (.pointer (some a)) a.block
  | slice (a : Addr) (l c : Nat) : Pt (.slice (some a) l c) a.block
  | map (r : Nat) : Pt (.map (some r)) r
  | chan (r : Nat) : Pt (.chan (some r)) r
  | first {f : Fn} {p c : Array Value} {i : Nat} {x : Value} {b : Nat} (h : p[i]? = some x) (hx : Pt x b) : Pt (.func f p c) b
  | capt {f : Fn} {p c : Array Value} {i : Nat} {x : Value} {b : Nat} (h : c[i]? = some x) (hx : Pt x b) : Pt (.func f p c) b
  | agg {c : Array Value} {i : Nat} {x : Value} {b : Nat} (h : c[i]? = some x) (hx : Pt x b) : Pt (.agg c) b
  | tuple {c : Array Value} {i : Nat} {x : Value} {b : Nat} (h : c[i]? = some x) (hx : Pt x b) : Pt (.tuple c) b

section
variable {F : FuncId → Prop} {R : BR}
theorem VR.pt {x x' : Value} {b : Nat} (h : VR F R x x') (hp : Pt x b) : ∃ c, R b c := by
  induction hp generalizing x' with
  | pointer a => cases h with
    | pointer h => exact ⟨_, h.1⟩
  | slice a l c => cases h with
    | slice h => exact ⟨_, h.1⟩
  | map r => cases h with
    | map h => exact ⟨_, h⟩
  | chan r => cases h with
    | chan h => exact ⟨_, h⟩
  | first hi hx ih => cases h with
    | func hf hp hc ip ic =>
      obtain ⟨hlt, rfl⟩ := Array.getElem?_eq_some_iff.1 hi
      exact ih (ip _ hlt (hp ▸ hlt))
  | capt hi hx ih => cases h with
    | func hf hp hc ip ic =>
      obtain ⟨hlt, rfl⟩ := Array.getElem?_eq_some_iff.1 hi
      exact ih (ic _ hlt (hc ▸ hlt))
  | agg hi hx ih => cases h with
    | agg hs h =>
      obtain ⟨hlt, rfl⟩ := Array.getElem?_eq_some_iff.1 hi
      exact ih (h _ hlt (hs ▸ hlt))
  | tuple hi hx ih => cases h with
    | tuple hs h =>
      obtain ⟨hlt, rfl⟩ := Array.getElem?_eq_some_iff.1 hi
      exact ih (h _ hlt (hs ▸ hlt))

theorem VR.cutR {x x' : Value} (h : VR F R x x') {N : Nat → Prop} (hn : ∀ b, Pt x b → N b) : VR F (fun b c => R b c ∧ N b) x x' := by
  induction h with
  | bot h => exact .bot h
  | bool b => exact .bool b
  | int k n => exact .int k n
  | pointer h => exact .pointer ⟨⟨h.1, hn _ (.pointer _)⟩, h.2⟩
  | sliceNone l c => exact .sliceNone l c
  | sliceZero a' => exact .sliceZero a'
  | slice h l c => exact .slice ⟨⟨h.1, hn _ (.slice _ _ _)⟩, h.2⟩ l c
  | mapNone => exact .mapNone
  | map h => exact .map ⟨h, hn _ (.map _)⟩
  | chanNone => exact .chanNone
  | chan h => exact .chan ⟨h, hn _ (.chan _)⟩
  | func hf hp hc ip ic ih1 ih2 => exact .func hf hp hc (fun i h1 h2 => ih1 i h1 h2 fun b hb => hn b (.first (Array.getElem?_eq_getElem h1) hb)) (fun i h1 h2 => ih2 i h1 h2 fun b hb => hn b (.capt (Array.getElem?_eq_getElem h1) hb))
  | agg hs h ih => exact .agg hs fun i h1 h2 => ih i h1 h2 fun b hb => hn b (.agg (Array.getElem?_eq_getElem h1) hb)
  | tuple hs h ih => exact .tuple hs fun i h1 h2 => ih i h1 h2 fun b hb => hn b (.tuple (Array.getElem?_eq_getElem h1) hb)
end

inductive Reach (t : Array Value) (v : World) : Nat → Prop
  | slot {i : Nat} {x : Value} {b : Nat} (h : t[i]? = some x) (hx : Pt x b) : Reach t v b
  | cell {b' : Nat} {cs : Array Value} {el : TypeId} {fz : Nat × Nat} {i : Nat} {x : Value} {b : Nat} (h : Reach t v b') (hc : v.heap[b']? = some (.cells cs el fz)) (hi : cs[i]? = some x) (hx : Pt x b) : Reach t v b

theorem Reach.real {F : FuncId → Prop} {R : BR} {t t' : Array Value} {v w : World} (ht : AVR F R t t') (hw : WR F R v w) {b : Nat} (h : Reach t v b) : ∃ c, R b c := by
  induction h with
  | slot h hx => obtain ⟨x', _, hv⟩ := ht.get h; exact hv.pt hx
  | cell h hc hi hx ih =>
    obtain ⟨c, hc'⟩ := ih
    obtain ⟨o, o', ho, ho', hOR⟩ := hw.obj _ _ hc'
    rw [hc] at ho
    simp only [Option.some.injEq] at ho
    subst ho
    cases hOR with
    | cells h1 h2 => obtain ⟨x', _, hv⟩ := h1 _ _ hi; exact hv.pt hx

/-! ### a row without cells -/
def cutRow (v : World) (bO : Nat) (el : TypeId) : World := { v with heap := v.heap.setIfInBounds bO (.cells #[] el (0, 0)) }
def shade (v : World) (bO : Nat) (el : TypeId) : World := frz (cutRow v bO el)
def chansOf (v : World) : Nat → Prop := fun b => ∃ s tm, v.heap[b]? = some (.chan 0 #[] false s s tm)

section
variable {v : World} {bO : Nat} {el : TypeId}
theorem shade_size : (shade v bO el).heap.size = v.heap.size := by simp [shade, frz, cutRow]
theorem shade_O (h : bO < v.heap.size) : (shade v bO el).heap[bO]? = some (.cells #[] el (0, 0)) := by
  refine frz_cells (c := #[]) (el := el) (fz := (0, 0)) ?_
  simp [cutRow, h]
theorem cut_ne {b : Nat} (h : b ≠ bO) : (cutRow v bO el).heap[b]? = v.heap[b]? := by simp only [cutRow, Array.getElem?_setIfInBounds_ne (Ne.symm h)]
theorem shade_cells {b : Nat} {c : Array Value} {e : TypeId} {fz : Nat × Nat} (hb : b ≠ bO) (h : v.heap[b]? = some (.cells c e fz)) : (shade v bO el).heap[b]? = some (.cells c e (0, c.size)) :=
  frz_cells (by rw [cut_ne hb]; exact h)
theorem shade_non {b : Nat} {o : Obj} (hb : b ≠ bO) (h : v.heap[b]? = some o) (hn : ¬ IsCells o) : (shade v bO el).heap[b]? = some o := frz_non (by rw [cut_ne hb]; exact h) hn
theorem wr_cut {F : FuncId → Prop} {R : BR} {w : World} (h : WR F R v w) (hO : ∃ zs fz, v.heap[bO]? = some (.cells zs el fz)) : WR F R (cutRow v bO el) w := by
  obtain ⟨zs, fz, hO⟩ := hO
  refine ⟨fun b c hb => ?_, h.fn, h.inj⟩
  obtain ⟨o, o', ho, ho', hOR⟩ := h.obj b c hb
  by_cases e : b = bO
  · subst e
    rw [hO] at ho
    simp only [Option.some.injEq] at ho
    subst ho
    have hlt := (Array.getElem?_eq_some_iff.1 hO).1
    cases hOR with
    | cells h1 h2 => exact ⟨.cells #[] el (0, 0), _, by simp only [cutRow, Array.getElem?_setIfInBounds_self_of_lt hlt], ho', .cells (fun j u hj => by simp at hj) (fun j hj => by simp at hj)⟩
  · exact ⟨o, o', by rw [cut_ne e]; exact ho, ho', hOR⟩
end

/-- Behind the phase: what goroutine 0 held ahead of it, the row filled, and what it made since. -/
def restore (v : World) (bO : Nat) (row : Obj) (u : World) : World := { u with heap := u.heap.mapIdx fun b o => if b = bO then row else match v.heap[b]? with
  | some (.cells c el fz) => .cells c el fz
  | some (.chan a b c d e f) => .chan a b c d e f
  | _ => o }
section
variable {v u : World} {bO : Nat} {row : Obj}
theorem rst_O (h : bO < u.heap.size) : (restore v bO row u).heap[bO]? = some row := by simp [restore, h]
theorem rst_cells {b : Nat} {c : Array Value} {e : TypeId} {fz : Nat × Nat} (hu : b < u.heap.size) (hb : b ≠ bO) (h : v.heap[b]? = some (.cells c e fz)) : (restore v bO row u).heap[b]? = some (.cells c e fz) := by simp [restore, hu, hb, h]
theorem rst_chan {b : Nat} {a1 : Nat} {a2 : Array Value} {a3 : Bool} {a4 a5 : Nat} {a6 : Bool} (hu : b < u.heap.size) (hb : b ≠ bO) (h : v.heap[b]? = some (.chan a1 a2 a3 a4 a5 a6)) : (restore v bO row u).heap[b]? = some (.chan a1 a2 a3 a4 a5 a6) := by simp [restore, hu, hb, h]
theorem rst_other {b : Nat} (hb : b ≠ bO) (h : (v.heap[b]? = none) ∨ ∃ o, v.heap[b]? = some o ∧ ¬ IsCells o ∧ ∀ a1 a2 a3 a4 a5 a6, o ≠ .chan a1 a2 a3 a4 a5 a6) : (restore v bO row u).heap[b]? = u.heap[b]? := by
  have key : ∀ o, (match v.heap[b]? with
      | some (.cells c el fz) => .cells c el fz
      | some (.chan a b c d e f) => .chan a b c d e f
      | _ => o : Obj) = o := by
    intro o
    rcases h with h | ⟨p, h, h1, h2⟩
    · rw [h]
    · rw [h]
      cases p <;> first | rfl | exact absurd trivial h1 | exact absurd rfl (h2 _ _ _ _ _ _)
  simp only [restore, Array.getElem?_mapIdx, if_neg hb]
  cases hu : u.heap[b]? with
  | none => rfl
  | some o => simp only [Option.map_some]; rw [key o]
theorem rst_size : (restore v bO row u).heap.size = u.heap.size := by simp [restore]
end

def results (f : Nat → Int) (len : Nat) : Array Value := ((List.range len).map fun i => Value.int .i64 (f i)).toArray

/-- The same, of blocks that stand for real ones. -/
structure StartR (P : Program) (Fs : FuncId → Bool) (R : BR) (fW : FuncId) (n len : Nat) (f : Nat → Int) (bO bC : Nat) (el0 elO : TypeId) (ps : List Nat) (Need : Nat → Prop) (Fin : VStop) (fr : Frame) (up : List Frame) (v : World) : Prop where
  hn : 1 ≤ n
  hF : Fs fW = true
  root : ∀ b, Need b → ∃ c, R b c
  need : ∀ b, Need b → (∃ cs el fz, v.heap[b]? = some (.cells cs el fz) ∧ (b ≠ bO → ∀ (i : Nat) x, cs[i]? = some x → ∀ b', Pt x b' → Need b')) ∨ chansOf v b
  nO : Need bO
  nC : Need bC
  nps : ∀ b ∈ ps, Need b
  row : ∃ zs, v.heap[bO]? = some (.cells zs elO (0, 0)) ∧ zs.size = len
  chan : chansOf v bC
  segW : ∀ k, k < n → Seg P (chansOf v) (WStop P (chansOf v) bO bC n len f (len + 1) k) (Frame.enter P fW (#[.pointer (some ⟨(shade v bO elO).heap.size, 0, none⟩)] ++ (ps.map fun b => Value.pointer (some ⟨b, 0, none⟩)).toArray) .deferred) []
    { shade v bO elO with heap := (shade v bO elO).heap.push (.cells #[.int .i64 (k : Nat)] el0 (0, 1)) }
  segG : GNext P (chansOf v) fW ps el0 bC n Fin n fr up (shade v bO elO)

/-- What is asked of the virtual side ahead of the first worker. -/
structure Start (P : Program) (Fs : FuncId → Bool) (fW : FuncId) (n len : Nat) (f : Nat → Int) (bO bC : Nat) (el0 elO : TypeId) (ps : List Nat) (Need : Nat → Prop) (Fin : VStop) (fr : Frame) (up : List Frame) (v : World) : Prop where
  hn : 1 ≤ n
  hF : Fs fW = true
  root : ∃ fn kind t todo, fr = (B fn kind).at ⟨t, []⟩ todo ∧ ∀ b, Need b → Reach t v b
  need : ∀ b, Need b → (∃ cs el fz, v.heap[b]? = some (.cells cs el fz) ∧ (b ≠ bO → ∀ (i : Nat) x, cs[i]? = some x → ∀ b', Pt x b' → Need b')) ∨ chansOf v b
  nO : Need bO
  nC : Need bC
  nps : ∀ b ∈ ps, Need b
  row : ∃ zs, v.heap[bO]? = some (.cells zs elO (0, 0)) ∧ zs.size = len
  chan : chansOf v bC
  segW : ∀ k, k < n → Seg P (chansOf v) (WStop P (chansOf v) bO bC n len f (len + 1) k) (Frame.enter P fW (#[.pointer (some ⟨(shade v bO elO).heap.size, 0, none⟩)] ++ (ps.map fun b => Value.pointer (some ⟨b, 0, none⟩)).toArray) .deferred) []
    { shade v bO elO with heap := (shade v bO elO).heap.push (.cells #[.int .i64 (k : Nat)] el0 (0, 1)) }
  segG : GNext P (chansOf v) fW ps el0 bC n Fin n fr up (shade v bO elO)

theorem cnt_zero : ∀ n, cnt n (fun _ => false) = 0
  | 0 => rfl
  | n + 1 => by
    have := cnt_zero n
    unfold cnt at this ⊢
    simp only [sumTo, this]
    rfl

theorem ro_not_un0 {v : World} {b : Nat} {zs : Array Value} {el : TypeId} (h : RO v b) (hb : v.heap[b]? = some (.cells zs el (0, 0))) : zs.size = 0 := by
  rcases Nat.eq_zero_or_pos zs.size with e | e
  · exact e
  · exact absurd ⟨zs, el, (0, 0), hb, e, by simp [inFz]⟩ (h.not_un (j := 0))

/-- ████ A PHASE, FROM BESIDE LEAVERS TO BESIDE LEAVERS ████ -/
theorem phase_core {P : Program} {Fs : FuncId → Bool} (hP : OkProg P Fs) {H : Nat} {W : World} {gs : Array Goroutine} {w : World} {sl : Option (Nat × Nat)} {t : Trace} {q : Nat → Nat} {s : St}
    {fW : FuncId} {n len : Nat} {f : Nat → Int} {bO bC : Nat} {el0 elO : TypeId} {ps : List Nat} {Need : Nat → Prop} {Fin : VStop} (hC : Calm P Fs H W (fun _ => False) gs w t q s) (hS : StartR P Fs s.R fW n len f bO bC el0 elO ps Need Fin s.fr s.up s.v) :
    ∃ N gs' w' sl' t' q' s' u, runNT P N (crowd gs w sl) t = (.next (crowd gs' w' sl'), t') ∧ Calm P Fs H W (fun _ => False) gs' w' t' q' s' ∧ (∃ T d, Fin s'.fr s'.up (rt u T d)) ∧ s.v.heap.size ≤ u.heap.size ∧ s'.v = restore s.v bO (.cells (results f len) elO (0, 0)) u := by
  have hreal : ∀ b, Need b → ∃ c, s.R b c := hS.root
  obtain ⟨cO, hcO⟩ := hreal bO hS.nO
  obtain ⟨cC, hcC⟩ := hreal bC hS.nC
  obtain ⟨zs, hzs, hzl⟩ := hS.row
  obtain ⟨s1, tm, hch⟩ := hS.chan
  have hltO := (hC.wr.lt hcO)
  -- the real row
  have hrow : ∃ y fz, w.heap[cO]? = some (.cells y elO fz) ∧ len ≤ y.size ∧ ∀ i, i < len → ¬ inFz fz i := by
    obtain ⟨o, o', ho, ho', hOR⟩ := hC.wr.obj _ _ hcO
    rw [hzs] at ho
    simp only [Option.some.injEq] at ho
    subst ho
    have hle := @OR.le (FFs Fs) s.R
    cases hOR with
    | @cells _ y _ _ fz h1 h2 => exact ⟨y, fz, ho', by rw [← hzl]; exact hle (OR.cells (el := elO) h1 h2), fun i hi => h2 i (by omega) (by simp [inFz])⟩
  obtain ⟨yO, fzO, hyO, hyl, hyf⟩ := hrow
  have hchan : ∃ s0, w.heap[cC]? = some (.chan 0 #[] false s0 s0 tm) := by
    obtain ⟨o, o', ho, ho', hOR⟩ := hC.wr.obj _ _ hcC
    rw [hch] at ho
    simp only [Option.some.injEq] at ho
    subst ho
    cases hOR with
    | chan a b c => exact ⟨_, ho'⟩
  obtain ⟨s0, hs0⟩ := hchan
  let Old : Nat → Prop := fun c => c < w.heap.size ∧ ¬ ∃ b, s.R b c ∧ ∃ o, s.v.heap[b]? = some o ∧ ¬ IsCells o ∧ ¬ chansOf s.v b
  let J : Job := { P := P, Fs := Fs, fW := fW, n := n, len := len, f := f, m := gs.size - 1, H0 := w.heap.size, Old := Old, cO := cO, cC := cC, bO := bO, bC := bC, Rb := fun b c => s.R b c ∧ Need b, vb := shade s.v bO elO, ps := ps, el0 := el0, wB := w, elO := elO, fzO := fzO, szO := yO.size, tm := tm, s0 := s0, RB := s.R, nB := s.v.heap.size, Fin := Fin, Ch := chansOf s.v }
  have chO : ¬ chansOf s.v bO := by rintro ⟨a, b, h⟩; rw [hzs] at h; cases h
  have hwrb : WR (FFs Fs) s.R (shade s.v bO elO) w := wr_frz (wr_cut hC.wr ⟨zs, _, hzs⟩)
  have hveil : Veil (chansOf s.v) (shade s.v bO elO) := by
    rintro b ⟨a, c, h⟩
    have hb : b ≠ bO := by rintro rfl; exact chO ⟨a, c, h⟩
    exact ⟨_, shade_non hb h (by simp [IsCells]), by simp [IsCells], by simp [IsMap]⟩
  have hJ : J.Ok := by
    refine ⟨hP, hS.hF, hS.hn, ⟨fun b c hb => ?_, fun b c c' h1 h2 => hC.wr.fn _ _ _ h1.1 h2.1, fun b b' c h1 h2 => hC.wr.inj _ _ _ h1.1 h2.1⟩, ⟨hcO, hS.nO⟩, ⟨hcC, hS.nC⟩, fun b hb => ?_, fun b c h => h.1, fun b c hb => ⟨?_, fun e off hcl => ?_⟩, hveil, rfl, fun c h => h.1, fun b c hb => ⟨(hC.wr.lt hb.1).2, ?_⟩, ⟨yO, hyO, rfl⟩, hyl, hyf, hs0, fun k hk => hS.segW k hk⟩
    · obtain ⟨hb1, hb2⟩ := hb
      obtain ⟨o, o', ho, ho', hOR⟩ := hC.wr.obj b c hb1
      by_cases e : b = bO
      · subst e
        rw [hzs] at ho
        simp only [Option.some.injEq] at ho
        subst ho
        cases hOR with
        | cells h1 h2 => exact ⟨_, _, shade_O hltO.1, ho', .cells (fun j u hj => by simp at hj) (fun j hj => by simp at hj)⟩
      · rcases hS.need b hb2 with ⟨cs, el, fz, h1, h2⟩ | ⟨a, c', h1⟩
        · rw [h1] at ho
          simp only [Option.some.injEq] at ho
          subst ho
          cases hOR with
          | cells k1 k2 =>
            refine ⟨_, _, shade_cells e h1, ho', .cells (fun j u hj => ?_) (fun j hj hn => absurd ⟨Nat.zero_le _, hj⟩ hn)⟩
            obtain ⟨u', g1, g2⟩ := k1 j u hj
            exact ⟨u', g1, g2.cutR fun b' hb' => h2 e j u hj b' hb'⟩
        · rw [h1] at ho
          simp only [Option.some.injEq] at ho
          subst ho
          cases hOR with
          | chan x y z => exact ⟨_, _, shade_non e h1 (by simp [IsCells]), ho', .chan _ _ _⟩
    · obtain ⟨c, hc⟩ := hreal b (hS.nps b hb)
      exact ⟨c, hc, hS.nps b hb⟩
    · by_cases e : b = bO
      · subst e; exact .inl ⟨_, _, _, shade_O hltO.1, fun j hj => by simp at hj⟩
      · rcases hS.need b hb.2 with ⟨cs, el, fz, h1, _⟩ | h1
        · exact .inl ⟨_, _, _, shade_cells e h1, fun j hj => ⟨Nat.zero_le _, hj⟩⟩
        · exact .inr h1
    · have e2 : b = bO := hC.wr.inj _ _ _ hb.1 (by rw [show c = cO from e]; exact hcO)
      subst e2
      obtain ⟨z, el, fz, z1, z2⟩ := hcl
      rw [show J.vb.heap[b]? = _ from shade_O hltO.1] at z1
      simp only [Option.some.injEq, Obj.cells.injEq] at z1
      obtain ⟨rfl, _⟩ := z1
      simp at z2
    · rintro ⟨b', hb', o, ho, h1, h2⟩
      obtain rfl := hC.wr.inj _ _ _ hb' hb.1
      rcases hS.need b' hb.2 with ⟨cs, el, fz, k1, _⟩ | k1
      · rw [k1] at ho
        simp only [Option.some.injEq] at ho
        subst ho
        exact h1 trivial
      · exact h2 k1
  let g : Geo := { Old := Old, cO := cO, n := n, own := fun _ => 0, box := fun _ => 0, j := 0 }
  have hgsz : 0 < gs.size := (Array.getElem?_eq_some_iff.1 hC.g0).1
  have hgok : g.Ok w.heap.size := ⟨fun c h => h.1, hJ.oldR _ _ hJ.rO, fun x h1 h2 => by have h2 : x ≤ 0 := h2; omega, fun x y h1 h2 => by have h2 : x ≤ 0 := h2; omega⟩
  have hcom : Com J g gs w t (fun _ => false) := by
    refine ⟨rfl, Nat.le_refl _, rfl, rfl, Nat.zero_le _, hgok, by show gs.size = gs.size - 1 + 1 + 0; omega, ⟨yO, hyO, rfl⟩, fun _ => rfl, by rw [cnt_zero]; exact hs0, fun _ _ _ _ => rfl, rfl, rfl, rfl, ⟨hC.nr, hC.wl, fun i a ha hm => .inl (hC.kn i a ha hm), fun x hx hax => ?_⟩, fun x hx => by cases hx⟩
    have : x ≤ 0 := hax.2.1
    omega
  let sB : St := { s with v := shade s.v bO elO }
  have hlay : Lay g 0 J.Ch s.R (shade s.v bO elO) := by
    intro b c hb
    obtain ⟨o, o', ho, ho', hOR⟩ := hC.wr.obj b c hb
    refine Classical.byCases (p := ¬ IsCells o ∧ ¬ chansOf s.v b) (fun ⟨h1, h2⟩ => ?_) fun h => ?_
    · exact .inl ⟨fun hold => hold.2 ⟨b, hb, o, ho, h1, h2⟩, rfl, by rintro ⟨x, h1, h2, _⟩; have h2 : x ≤ 0 := h2; omega⟩
    · have hold : Old c := ⟨(hC.wr.lt hb).2, by
        rintro ⟨b', hb', o2, ho2, k1, k2⟩
        obtain rfl := hC.wr.inj _ _ _ hb' hb
        rw [ho] at ho2
        simp only [Option.some.injEq] at ho2
        subst ho2
        exact h ⟨k1, k2⟩⟩
      refine .inr ⟨.inl hold, ?_, fun e off hcl => ?_⟩
      · refine Classical.byCases (p := chansOf s.v b) .inr fun hnc => .inl ?_
        have hcl : IsCells o := Classical.byContradiction fun hn => h ⟨hn, hnc⟩
        cases o with
        | cells cs el fz =>
          by_cases e : b = bO
          · subst e; exact ⟨_, _, _, shade_O hltO.1, fun j hj => by simp at hj⟩
          · exact ⟨_, _, _, shade_cells e ho, fun j hj => ⟨Nat.zero_le _, hj⟩⟩
        | _ => exact hcl.elim
      · have e2 : b = bO := hC.wr.inj _ _ _ hb (by rw [show c = cO from e]; exact hcO)
        subst e2
        obtain ⟨z, el, fz, z1, z2⟩ := hcl
        rw [shade_O hltO.1] at z1
        simp only [Option.some.injEq, Obj.cells.injEq] at z1
        obtain ⟨rfl, _⟩ := z1
        simp at z2
  have hzr : ZR J g w sB := ⟨hC.ok, hwrb, hlay, hveil, fun _ _ h => h, fun _ _ h => .inl h, by rw [show sB.v.heap.size = _ from shade_size]; exact Nat.le_refl _⟩
  obtain ⟨sp, hsp⟩ : ∃ sp, n = sp + 1 := ⟨n - 1, by have := hS.hn; omega⟩
  have hseg : Seg P J.Ch (QG J g.j sp) sB.fr sB.up sB.v := by
    have h1 := hS.segG
    have h2 : GNext P (chansOf s.v) fW ps el0 bC n Fin (sp + 1) s.fr s.up (shade s.v bO elO) := by rw [← hsp]; exact h1
    have h3 : n - (sp + 1) = 0 := by omega
    unfold GNext at h2
    rw [h3] at h2
    exact h2
  obtain ⟨tr, hway⟩ := way_of_seg (main := true) (bs := []) (s := sB) hP hC.ok hseg hveil
  have hPI : PI J g (fun _ => false) ((2 * (sp + 1 + n) + 1, tr), fun i => (q i, .leaf)) gs w t := by
    refine ⟨hcom, ⟨_, hC.g0, .go (s := sB) rfl hzr (sp := sp) (by show 0 + sp + 1 = n; omega) hway⟩, fun x h1 h2 => by have h2 : x ≤ 0 := h2; omega, fun i i1 i2 => ?_, fun gr hgr hb => ?_⟩
    · have i2 : i ≤ gs.size - 1 := i2
      have hi : gs[i]? = some gs[i] := Array.getElem?_eq_getElem (by omega)
      exact ⟨_, hi, hC.lv i _ (by omega) hi, rfl⟩
    · rw [hC.g0] at hgr
      obtain rfl := Option.some.inj hgr
      cases hb
  obtain ⟨N, gs', w', sl', t', g', q', s', hrun, hF⟩ := phase hJ _ g _ gs w sl t hPI
  obtain ⟨jd, hcom', hall⟩ := hF.com
  have hsv : s.v.heap.size ≤ s'.v.heap.size := hF.zr.size
  let v2 : World := restore s.v bO (.cells (results f len) elO (0, 0)) s'.v
  have hltb : ∀ b o, s.v.heap[b]? = some o → b < s'.v.heap.size := fun b o h => Nat.lt_of_lt_of_le (Array.getElem?_eq_some_iff.1 h).1 hsv
  have hout : ∃ y, w'.heap[cO]? = some (.cells y elO fzO) ∧ y.size = yO.size := hcom'.out
  have hsubR : ∀ b c, s.R b c → s'.R b c := hF.zr.sub
  have cCO : cC ≠ cO := by rintro rfl; rw [hyO] at hs0; cases hs0
  have hwr2 : WR (FFs Fs) s'.R v2 w' := by
    refine ⟨fun b c hb => ?_, hF.zr.wr.fn, hF.zr.wr.inj⟩
    rcases hF.zr.new b c hb with hb0 | ⟨hb1, _⟩
    · have hb0 : s.R b c := hb0
      by_cases e : b = bO
      · subst e
        obtain rfl : cO = c := (hC.wr.fn _ _ _ hb0 hcO)
        obtain ⟨y, hy, hys⟩ := hout
        refine ⟨_, _, rst_O (hltb _ _ hzs), hy, .cells (fun j u hj => ?_) (fun j hj _ => hyf j (by simpa [results] using hj))⟩
        have hjl : j < len := by
          have := (Array.getElem?_eq_some_iff.1 hj).1
          simpa [results] using this
        obtain ⟨y2, hy2, hv2⟩ := hF.done j hjl
        rw [show w'.heap[cO]? = _ from hy2] at hy
        simp only [Option.some.injEq, Obj.cells.injEq] at hy
        obtain ⟨rfl, _⟩ := hy
        have : u = .int .i64 (f j) := by
          simp only [results, List.getElem?_toArray, List.getElem?_map, List.getElem?_range hjl, Option.map_some, Option.some.injEq] at hj
          exact hj.symm
        subst this
        exact ⟨_, hv2, .int _ _⟩
      · obtain ⟨o, o', ho, ho', hOR⟩ := hC.wr.obj b c hb0
        have hcne : c ≠ cO := fun e2 => e (hC.wr.inj _ _ _ hb0 (by rw [e2]; exact hcO))
        refine Classical.byCases (p := ¬ IsCells o ∧ ¬ chansOf s.v b) (fun ⟨h1, h2⟩ => ?_) fun h => ?_
        · obtain ⟨p, p', hp, hp', hOR'⟩ := hF.zr.wr.obj b c hb
          refine ⟨p, p', ?_, hp', hOR'⟩
          rw [show v2.heap[b]? = _ from rst_other e (.inr ⟨o, ho, h1, fun a1 a2 a3 a4 a5 a6 e2 => ?_⟩)]
          · exact hp
          · subst e2
            cases hOR with
            | chan x y z => exact h2 ⟨_, _, ho⟩
        · have hold : Old c := ⟨(hC.wr.lt hb0).2, by
            rintro ⟨b', hb', o2, ho2, k1, k2⟩
            obtain rfl := hC.wr.inj _ _ _ hb' hb0
            rw [ho] at ho2
            simp only [Option.some.injEq] at ho2
            subst ho2
            exact h ⟨k1, k2⟩⟩
          by_cases ec : c = cC
          · subst ec
            rw [hs0] at ho'
            simp only [Option.some.injEq] at ho'
            subst ho'
            cases hOR with
            | chan x y z => exact ⟨_, _, rst_chan (hltb _ _ ho) e ho, hcom'.chan, .chan _ _ _⟩
          · have hsame : w'.heap[c]? = w.heap[c]? := hcom'.old c hold hcne ec
            cases o with
            | cells cs el fz => exact ⟨_, o', rst_cells (hltb _ _ ho) e ho, by rw [hsame]; exact ho', hOR.mono hsubR⟩
            | chan a1 a2 a3 a4 a5 a6 => exact ⟨_, o', rst_chan (hltb _ _ ho) e ho, by rw [hsame]; exact ho', hOR.mono hsubR⟩
            | _ =>
              refine absurd ⟨by simp [IsCells], ?_⟩ h
              rintro ⟨a1, a2, h3⟩
              rw [ho] at h3
              cases h3
    · have hb1 : s.v.heap.size ≤ b := hb1
      obtain ⟨p, p', hp, hp', hOR'⟩ := hF.zr.wr.obj b c hb
      have hne : b ≠ bO := by have := hltO.1; omega
      exact ⟨p, p', by rw [show v2.heap[b]? = _ from rst_other hne (.inl (by simp; omega))]; exact hp, hp', hOR'⟩
  have hlen0 : ∀ {c}, c < H → s.R bO c → len = 0 := fun {c} h1 h2 => by
    have := ro_not_un0 (hC.lay _ _ h2 h1) hzs
    omega
  have hlow : ∀ b c, s'.R b c → c < H → s.R b c := fun b c hb hc => by
    rcases hF.zr.new b c hb with hb0 | ⟨_, hb1⟩
    · exact hb0
    · have hb1 : w.heap.size ≤ c := hb1
      have := hC.hle
      omega
  refine ⟨N, gs', w', sl', t', q', { s' with v := v2 }, s'.v, hrun, ⟨hF.g0, hF.zr.ok, hwr2, fun b c hb hc => ?_, fun b hb => hb.elim, Nat.le_trans hC.hle hcom'.hsz, fun c hc => ?_, hcom'.tape.trans hC.tape, hcom'.os.trans hC.os, hcom'.outp.trans hC.out, fun i gr hi hgr => hF.lv i gr (by omega) hgr, hcom'.tr.nr, hcom'.tr.wl, fun i a ha hm => ?_⟩, hF.fin, hsv, rfl⟩
  · have hb0 := hlow b c hb hc
    have hro := hC.lay b c hb0 hc
    by_cases e : b = bO
    · subst e
      have hl0 := hlen0 hc hb0
      exact ⟨_, _, _, rst_O (hltb _ _ hzs), fun j hj => by simp [results, hl0] at hj⟩
    · obtain ⟨cs, el, fz, h1, h2⟩ := hro
      exact ⟨_, _, _, rst_cells (hltb _ _ h1) e h1, h2⟩
  · rw [← hC.old c hc]
    have hold : Old c := ⟨Nat.lt_of_lt_of_le hc hC.hle, by
      rintro ⟨b, hb, o, ho, h1, _⟩
      obtain ⟨cs, el, fz, k1, _⟩ := hC.lay b c hb hc
      rw [ho] at k1
      simp only [Option.some.injEq] at k1
      subst k1
      exact h1 trivial⟩
    by_cases e1 : c = cO
    · subst e1
      exact hcom'.outz (hlen0 hc hcO)
    · by_cases e2 : c = cC
      · subst e2
        obtain ⟨cs, el, fz, k1, _⟩ := hC.lay _ _ hcC hc
        rw [hch] at k1
        cases k1
      · exact hcom'.old c hold e1 e2
  · rcases hcom'.tr.k0 i a ha hm with hk | ⟨y, op, y1, ⟨_, y2, y3⟩, _⟩
    · exact hk
    · rw [hall y y1 (Nat.le_trans y2 hcom'.j)] at y3
      cases y3
theorem phase_calm {P : Program} {Fs : FuncId → Bool} (hP : OkProg P Fs) {H : Nat} {W : World} {gs : Array Goroutine} {w : World} {sl : Option (Nat × Nat)} {t : Trace} {q : Nat → Nat} {s : St}
    {fW : FuncId} {n len : Nat} {f : Nat → Int} {bO bC : Nat} {el0 elO : TypeId} {ps : List Nat} {Need : Nat → Prop} {Fin : VStop} (hC : Calm P Fs H W (fun _ => False) gs w t q s) (hS : Start P Fs fW n len f bO bC el0 elO ps Need Fin s.fr s.up s.v) :
    ∃ N gs' w' sl' t' q' s' u, runNT P N (crowd gs w sl) t = (.next (crowd gs' w' sl'), t') ∧ Calm P Fs H W (fun _ => False) gs' w' t' q' s' ∧ (∃ T d, Fin s'.fr s'.up (rt u T d)) ∧ s.v.heap.size ≤ u.heap.size ∧ s'.v = restore s.v bO (.cells (results f len) elO (0, 0)) u := by
  obtain ⟨fn0, kind0, t0, todo0, hfr, hreach⟩ := hS.root
  have hslots : ∃ t', AVR (FFs Fs) s.R t0 t' := by
    obtain ⟨fn1, t1, t1', todo1, mode1, kind1, e1, _, _, _, _, h6, _⟩ := hC.ok.1
    rw [hfr] at e1
    simp only [Frame.at, B, Frame.mk.injEq] at e1
    obtain ⟨_, rfl, _⟩ := e1
    exact ⟨t1', h6⟩
  obtain ⟨t0', ht0⟩ := hslots
  exact phase_core hP hC ⟨hS.hn, hS.hF, fun b hb => (hreach b hb).real ht0 hC.wr, hS.need, hS.nO, hS.nC, hS.nps, hS.row, hS.chan, hS.segW, hS.segG⟩
end Go.Proofs.Ytmfglflahlddbaa.Sm
