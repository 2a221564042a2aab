/-
  WORKERS JOINED OVER A CHANNEL: a join; goroutine 0's steps; a worker's send.
-/
import Derived.Test.YtneclhkpgalnlaaSmq
namespace Go.Proofs.Ytneclhkpgalnlaa.Sm
open Go Go.Conc
open Go.ConcN (sumTo upd sumTo_upd upd_ne upd_same sumTo_congr)
set_option linter.unusedVariables false
set_option linter.unusedSimpArgs false
section
variable {J : Job} {g : Geo} {jd : Nat → Bool} {μ : Me × (Nat → Me)} {gs : Array Goroutine} {w w1 : World} {t : Trace} {sl : Option (Nat × Nat)}

theorem trI_act {g : Geo} {m hs : Nat} {act act' : Nat → Prop} {t : Trace} (h : TrI g m hs act t) (he : ∀ z, act z ↔ act' z) : TrI g m hs act' t := by
  have : act = act' := funext fun z => propext (he z)
  rw [← this]; exact h

/-- A JOIN. -/
theorem p_join (hJ : J.Ok) (hcom : Com J g gs w t jd) {f : Nat → Me} (hlv : ∀ i, 1 ≤ i → i ≤ J.m → ∃ gr, gs[i]? = some gr ∧ QuitsIn J.P (f i).1 gr ∧ (f i).2 = .leaf) (hws : ∀ y, 1 ≤ y → y ≤ g.j → ∃ gr, gs[J.m + y]? = some gr ∧ WSit J g w y (f (J.m + y)) gr (jd y))
    {x : Nat} (x1 : 1 ≤ x) (x2 : x ≤ g.j) (hjd : jd x = false) (hj : g.j = J.n) {r : Nat} (hr : cnt J.n jd + r + 1 = J.n) {s1 : St} (hz : ZR J g w s1) (hn : ∃ T d, RNext J.P J.Ch J.bC J.Fin r s1.fr s1.up (rt s1.v T d))
    {grx : Goroutine} {q : Nat} (hq : QuitsIn J.P q grx) (hd : Done J w x J.len) {gs' : Array Goroutine} (hs : gs'.size = gs.size) (h0 : gs'[0]? = some (G s1.fr' s1.up')) (hx : gs'[J.m + x]? = some grx) (ho : ∀ k, k ≠ 0 → k ≠ J.m + x → gs'[k]? = gs[k]?) (d : Nat)
    {o1 o2 o3 o4 : MemOp} (hu : (o1.g = J.m + x ∧ o1.act = .send J.cC (J.s0 + cnt J.n jd)) ∧ (o2.g = 0 ∧ o2.act = .recv J.cC (J.s0 + cnt J.n jd) 0) ∧ (o3.g = J.m + x ∧ o3.act = .sendDone J.cC (J.s0 + cnt J.n jd)) ∧ (o4.g = 0 ∧ o4.act = .recvDone J.cC (J.s0 + cnt J.n jd))) :
    (∃ g' q' s', PF J g' q' s' gs' ((w.at d).setChan J.cC 0 #[] false (J.s0 + cnt J.n jd + 1) (J.s0 + cnt J.n jd + 1) J.tm) (t ++ #[o1, o2, o3, o4])) ∨
    ∃ r' tr f', r = r' + 1 ∧ PI J g (upd jd x true) ((2 * (r' + 1) + 1, tr), f') gs' ((w.at d).setChan J.cC 0 #[] false (J.s0 + cnt J.n jd + 1) (J.s0 + cnt J.n jd + 1) J.tm) (t ++ #[o1, o2, o3, o4]) := by
  have hout : ∃ y, w.heap[J.cO]? = some (.cells y J.elO J.fzO) := let ⟨y, a, _⟩ := hcom.out; ⟨y, a⟩
  have hk : ∀ y, Keep J y g w g ((w.at d).setChan J.cC 0 #[] false (J.s0 + cnt J.n jd + 1) (J.s0 + cnt J.n jd + 1) J.tm) := fun y => keep_chan hcom.ok hcom.chan (hcom.cC hJ) hout
  have hne : J.cC ≠ J.cO := by intro e; obtain ⟨y, hy⟩ := hout; have := hcom.chan; rw [e, hy] at this; cases this
  have hlt : J.cC < w.heap.size := (Array.getElem?_eq_some_iff.1 hcom.chan).1
  have hget : ∀ c, J.cC ≠ c → ((w.at d).setChan J.cC 0 #[] false (J.s0 + cnt J.n jd + 1) (J.s0 + cnt J.n jd + 1) J.tm).heap[c]? = w.heap[c]? := fun c hc => by
    show (w.heap.setIfInBounds J.cC _)[c]? = _
    rw [Array.getElem?_setIfInBounds_ne hc]
  have hcnt := cnt_upd x1 hjd J.n (by omega)
  have hsz : ((w.at d).setChan J.cC 0 #[] false (J.s0 + cnt J.n jd + 1) (J.s0 + cnt J.n jd + 1) J.tm).heap.size = w.heap.size := by simp [World.setChan, World.at]
  have hcom' : Com J g gs' ((w.at d).setChan J.cC 0 #[] false (J.s0 + cnt J.n jd + 1) (J.s0 + cnt J.n jd + 1) J.tm) (t ++ #[o1, o2, o3, o4]) (upd jd x true) := by
    refine ⟨hcom.h0, by rw [hsz]; exact hcom.hsz, hcom.cO, hcom.n, hcom.j, by rw [hsz]; exact hcom.ok, hs.trans hcom.size, ?_, fun z => by rw [hget _ hne]; exact hcom.outz z, ?_, fun c c1 c2 c3 => by rw [hget c (Ne.symm c3)]; exact hcom.old c c1 c2 c3, hcom.tape, hcom.os, hcom.outp, ?_, fun z hz => ?_⟩
    · rw [hget _ hne]; exact hcom.out
    · rw [hcnt, ← Nat.add_assoc]
      show (w.heap.setIfInBounds J.cC _)[J.cC]? = _
      rw [Array.getElem?_setIfInBounds_self_of_lt hlt]
    · rw [hsz]
      refine trI_act (hcom.tr.join (y := x) hu) fun z => ⟨fun ⟨⟨a1, a2, a3⟩, a4⟩ => ⟨a1, a2, by rw [upd_ne jd true a4]; exact a3⟩, fun ⟨a1, a2, a3⟩ => ?_⟩
      have : z ≠ x := by rintro rfl; rw [upd_same] at a3; cases a3
      rw [upd_ne jd true this] at a3
      exact ⟨⟨a1, a2, a3⟩, this⟩
    · by_cases e : z = x
      · subst e; exact ⟨x1, by omega, hj⟩
      · rw [upd_ne jd true e] at hz; exact hcom.jall z hz
  have hws' : ∀ y, 1 ≤ y → y ≤ g.j → ∃ gr, gs'[J.m + y]? = some gr ∧ WSit J g ((w.at d).setChan J.cC 0 #[] false (J.s0 + cnt J.n jd + 1) (J.s0 + cnt J.n jd + 1) J.tm) y (upd f (J.m + x) (q, .leaf) (J.m + y)) gr (upd jd x true y) := by
    intro y y1 y2
    by_cases e : y = x
    · subst e
      refine ⟨grx, hx, ?_⟩
      rw [upd_same, upd_same]
      exact .gone hq (hd.keep (hk y))
    · obtain ⟨gr, a1, a2⟩ := hws y y1 y2
      refine ⟨gr, by rw [ho _ (by omega) (by omega)]; exact a1, ?_⟩
      rw [upd_ne f _ (by omega), upd_ne jd true e]
      exact a2.keep (hk y) y1 y2
  have hlv' : ∀ i, 1 ≤ i → i ≤ J.m → ∃ gr, gs'[i]? = some gr ∧ QuitsIn J.P (upd f (J.m + x) (q, .leaf) i).1 gr ∧ (upd f (J.m + x) (q, .leaf) i).2 = .leaf := by
    intro i i1 i2
    obtain ⟨gr, a1, a2⟩ := hlv i i1 i2
    refine ⟨gr, by rw [ho _ (by omega) (by omega)]; exact a1, ?_⟩
    rw [upd_ne f _ (by omega)]; exact a2
  have hz' := hz.keep (hk 0)
  cases r with
  | zero =>
    left
    have hall := cnt_full (upd jd x true) J.n (by rw [hcnt]; omega)
    refine ⟨g, fun i => (upd f (J.m + x) (q, .leaf) i).1, s1, ⟨⟨_, hcom', hall⟩, hj, h0, hz', hn, fun i gr i1 hi => ?_, fun i hi => ?_⟩⟩
    · have hlt2 := (Array.getElem?_eq_some_iff.1 hi).1
      have hsize := hcom'.size
      by_cases hm : i ≤ J.m
      · obtain ⟨gr', a1, a2, _⟩ := hlv' i i1 hm
        rw [hi] at a1
        obtain rfl := Option.some.inj a1
        exact a2
      · obtain ⟨y, rfl⟩ : ∃ y, i = J.m + y := ⟨i - J.m, by omega⟩
        obtain ⟨gr', a1, a2⟩ := hws' y (by omega) (by omega)
        rw [hi] at a1
        obtain rfl := Option.some.inj a1
        rw [hall y (by omega) (by omega)] at a2
        generalize upd f (J.m + x) (q, .leaf) (J.m + y) = z at a2
        cases a2 with
        | gone hq' _ => exact hq'
    · have hmod := Nat.mod_lt i (show 0 < J.n by have := hJ.hn; omega)
      obtain ⟨gr', a1, a2⟩ := hws' (i % J.n + 1) (by omega) (by omega)
      rw [hall _ (by omega) (by omega)] at a2
      generalize upd f (J.m + x) (q, .leaf) (J.m + (i % J.n + 1)) = z at a2
      cases a2 with
      | gone _ hd' => exact hd' i hi rfl hi
  | succ r' =>
    right
    obtain ⟨T, d2, hn⟩ := hn
    have hseg : Seg J.P J.Ch (QR J r') s1.fr s1.up s1.v := Seg.rt (T := T) (d := d2) hn
    obtain ⟨tr, hway⟩ := way_of_seg (main := true) (bs := []) hJ.hP hz.ok hseg hz.veil
    refine ⟨r', tr, upd f (J.m + x) (q, .leaf), rfl, hcom', ⟨_, h0, .rc rfl hz' hj (by rw [hcnt]; omega) hway⟩, hws', hlv', fun gr hgr hb => ?_⟩
    rw [h0] at hgr
    obtain rfl := Option.some.inj hgr
    cases hb

theorem zero_go (h : PI J g jd μ gs w t) {gr gr' : Goroutine} {es : Array Event} (hi : gs[0]? = some gr) (hst : stepG J.P true gr w = .go gr' w1 es)
    (hc : ∃ s r tm, w1.heap[J.cC]? = some (.chan 0 #[] false s r tm)) : runT J.P (crowd gs w sl) 0 = (.next (crowd (gs.setIfInBounds 0 gr') w1 sl), MemOp.ofEvents (gi J.m 0) gr.frame.fn gr.frame.place es) := by
  obtain ⟨s, r, tm, hc⟩ := hc
  have hrunT := runT_crowd_go (P := J.P) (sl := sl) (i := 0) hi (show stepG J.P (0 == 0) gr w = _ from hst)
  rw [woken_all (steady_h h) hc] at hrunT
  exact hrunT

/-- Goroutine 0's place is laid anew, by a step of its own. -/
theorem PI.set0 (h : PI J g jd μ gs w t) {g' : Geo} {a : Me} {gr' : Goroutine} {w' : World} {t' : Trace} (hcom : Com J g' (gs.setIfInBounds 0 gr') w' t' jd) (hj : g'.j = g.j) (hk : ∀ y, y ≠ 0 → Keep J y g w g' w')
    (hs : ZSit J g' w' jd a gr') (hlt : Me.lt a μ.1) (hb : gr'.status ≠ .blocked ∨ ∀ x gr', 1 ≤ x → x ≤ g.j → gs[J.m + x]? = some gr' → gr'.status ≠ .blocked) :
    PLt (J.m + J.n + 1) (a, μ.2) μ ∧ PI J g' jd (a, μ.2) (gs.setIfInBounds 0 gr') w' t' := by
  have hsz := h.com.size
  refine ⟨.left _ _ hlt, hcom, ⟨gr', by rw [Array.getElem?_setIfInBounds_self_of_lt (by omega)], hs⟩, fun y y1 y2 => ?_, fun k k1 k2 => ?_, fun gr hgr hbl y gr2 y1 y2 hy => ?_⟩
  · rw [hj] at y2
    obtain ⟨gr, a1, a2⟩ := h.ws y y1 y2
    exact ⟨gr, by rw [Array.getElem?_setIfInBounds_ne (by omega)]; exact a1, a2.keep (hk y (by omega)) y1 y2⟩
  · rw [Array.getElem?_setIfInBounds_ne (by omega)]; exact h.lv k k1 k2
  · rw [Array.getElem?_setIfInBounds_self_of_lt (by omega)] at hgr
    obtain rfl := Option.some.inj hgr
    rw [hj] at y2
    rw [Array.getElem?_setIfInBounds_ne (by omega)] at hy
    rcases hb with hb | hb
    · exact absurd hbl hb
    · exact hb y gr2 y1 y2 hy

theorem ZR.next (hJ : J.Ok) (hcom : Com J g gs w t jd) {s s1 : St} (hz : ZR J g w s) {es : Array Event} (hn : Nx J.P J.Fs true [] J.Ch s s1 w w1 es) :
    ZR J (g.after w.heap.size 0) w1 s1 ∧ Eff g 0 w w1 ∧ ∀ e ∈ es, EvOk (g.after w.heap.size 0) 0 w1.heap.size e := by
  obtain ⟨u, hu, hst⟩ := hn.st
  have he := lay_eff hcom.ok hu hz.wr hst hz.lay hz.veil hn.ch
  have hv1 : Veil J.Ch s1.v := fun b hb => by
    obtain ⟨o, h1, h2, h3⟩ := hz.veil b hb
    exact ⟨o, by rw [hn.ch b hb]; exact h1, h2, h3⟩
  have hl1 := lay_next hcom.ok hu hz.wr hst hz.lay
  have hsame : ∀ c, g.Old c → w1.heap[c]? = w.heap[c]? := fun c hc => he.same c (hcom.ok.h0 c hc) (Geo.not_mine_old hc)
  have hcells : ∃ y el fz, w1.heap[(g.after w.heap.size 0).cO]? = some (.cells y el fz) := by
    obtain ⟨y, el, fz, hy⟩ := hcom.cellsO
    exact ⟨y, el, fz, by rw [show (g.after w.heap.size 0).cO = g.cO from rfl, hsame _ hcom.ok.cO]; exact hy⟩
  have hsize : u.heap.size = s.v.heap.size := by rw [hu]
  refine ⟨⟨hn.ok, hst.wr, hl1, hv1, fun b c hb => hst.ext _ _ (hz.sub b c hb), fun b c hb => ?_, ?_⟩, he, fun e he => ev_ok hl1 hst.wr hv1 hcells (hst.evs e he)⟩
  · rcases hst.new b c hb with hb | ⟨h1, h2⟩
    · exact hz.new b c hb
    · have := hz.size
      have := hcom.hsz
      exact .inr ⟨by omega, by omega⟩
  · have := hst.keepV.size
    have := hz.size
    omega

/-- Goroutine 0's followed step. -/
theorem p0_walk (hJ : J.Ok) (h : PI J g jd μ gs w t) {gr : Goroutine} (hi : gs[0]? = some gr) {s s1 : St} (hg : gr = G s.fr' s.up') (hz : ZR J g w s) {es : Array Event} (hn : Nx J.P J.Fs true [] J.Ch s s1 w w1 es) {a : Me}
    (hs : ZR J (g.after w.heap.size 0) w1 s1 → ZSit J (g.after w.heap.size 0) w1 jd a (G s1.fr' s1.up')) (hlt : Me.lt a μ.1) : PStep J μ (runT J.P (crowd gs w sl) 0) t := by
  obtain ⟨hz1, he, hes⟩ := hz.next hJ h.com hn
  have hsame : ∀ c, g.Old c → w1.heap[c]? = w.heap[c]? := fun c hc => he.same c (h.com.ok.h0 c hc) (Geo.not_mine_old hc)
  have hstep := hn.step
  simp only [List.append_nil] at hstep
  rw [← hg] at hstep
  have hrun := zero_go (sl := sl) h hi hstep ⟨_, _, _, by rw [hsame _ (h.com.cC hJ)]; exact h.com.chan⟩
  have hcom := h.com.eff hJ (.inl rfl) he (fn := gr.frame.fn) (pos := gr.frame.place) hes (gs' := gs.setIfInBounds 0 (G s1.fr' s1.up')) (by simp)
  have hnew := h.set0 hcom rfl (fun y hy => keep_eff he h.com.ok h.com.cO hy) (hs hz1) hlt (.inl (by simp [G]))
  have hsz := h.com.size
  have hjn := h.com.j
  exact ⟨_, _, _, _, hrun, by simp; omega, .inr ⟨_, _, _, hnew.1, hnew.2⟩⟩

theorem getD_caps {v : Value} {l : List Value} : (#[v] ++ l.toArray : Array Value).toList = v :: l := by simp

/-- A go statement. -/
theorem p0_spawn (hJ : J.Ok) (h : PI J g jd μ gs w t) {gr : Goroutine} (hi : gs[0]? = some gr) {s : St} (hg : gr = G s.fr' s.up') (hz : ZR J g w s) {sp : Nat} (hsp : g.j + sp + 1 = J.n) (hμ : ∃ tr, μ.1 = (2 * (sp + 1 + J.n) + 1, tr)) (hat : s.at (QG J g.j sp)) : PStep J μ (runT J.P (crowd gs w sl) 0) t := by
  obtain ⟨T, d, fr1, ⟨b, hgo, hbox⟩, hnext⟩ := hat
  have hbox : s.v.heap[b]? = some (.cells #[.int .i64 g.j] J.el0 (0, 0)) := hbox
  obtain ⟨caps', fr1', hst, hfr, hcaps⟩ := hgo.real hz.ok.1 s.up'
  have hst := hst w
  rw [← hg] at hst
  have hrun := runT_crowd_spawn (P := J.P) (sl := sl) (i := 0) hi (show stepG J.P (0 == 0) gr w = _ from hst)
  rw [ofEvents_none] at hrun
  have hsz := h.com.size
  have hjn := h.com.j
  -- the box
  have hc0 : ∃ c, caps'[0]? = some (.pointer (some ⟨c, 0, none⟩)) ∧ s.R b c := by
    obtain ⟨v', h1, h2⟩ := hcaps.get (i := 0) (v := .pointer (some ⟨b, 0, none⟩)) (by simp)
    cases h2 with
    | @pointer _ a' hA =>
      obtain ⟨k1, k2, k3, _⟩ := hA
      obtain ⟨c, o, sp⟩ := a'
      simp only at k1 k2 k3
      subst k2 k3
      exact ⟨c, h1, k1⟩
  obtain ⟨c, hcap0, hbc⟩ := hc0
  have hun : Un s.v b 0 := ⟨_, _, _, hbox, by simp, by simp [inFz]⟩
  have hmine : g.Mine 0 c := by
    rcases hz.lay b c hbc with h1 | ⟨_, h1 | h1, _⟩
    · exact h1
    · exact absurd hun h1.not_un
    · obtain ⟨o, ho, hn, _⟩ := hz.veil b h1
      exact absurd hun (not_un_non ho hn)
  obtain ⟨hlb, hlc⟩ := hz.wr.lt hbc
  obtain ⟨o, o', ho, ho', hOR⟩ := hz.wr.obj b c hbc
  rw [hbox] at ho
  simp only [Option.some.injEq] at ho
  subst ho
  have hreal : ∃ y fz, w.heap[c]? = some (.cells y J.el0 fz) ∧ y[0]? = some (.int .i64 (g.j : Nat)) := by
    cases hOR with
    | @cells _ y _ _ fz h1 h2 =>
      obtain ⟨v', a1, a2⟩ := h1 0 (.int .i64 g.j) (by simp)
      cases a2
      exact ⟨y, fz, ho', a1⟩
  have hcb : ∀ b', s.R b' c → ∃ y el fz, s.v.heap[b']? = some (.cells y el fz) := by
    intro b' hb'
    obtain ⟨p, p', hp, hp', hOR'⟩ := hz.wr.obj b' c hb'
    obtain ⟨y, fz, hy, _⟩ := hreal
    rw [hy] at hp'
    simp only [Option.some.injEq] at hp'
    subst hp'
    cases hOR' with
    | cells => exact ⟨_, _, _, hp⟩
  let s1 : St := ⟨s.R, frz s.v, fr1, fr1', s.up, s.up'⟩
  have hok1 : s1.ok J.P J.Fs := ⟨hfr, hz.ok.2⟩
  have hz1 : ZR J (g.spawned c) w s1 := ⟨hok1, wr_frz hz.wr, lay_spawn hz.wr hz.lay hz.veil hmine h.com.ok.cO hcb, veil_frz hz.veil, hz.sub, hz.new, by have := hz.size; simp [s1, frz]; exact this⟩
  have hk : ∀ y, 1 ≤ y → y ≤ g.j → Keep J y g w (g.spawned c) w := fun y y1 y2 => keep_spawn hmine.2.1 y1 y2
  have hjdn : jd (g.j + 1) = false := by
    cases e : jd (g.j + 1) with
    | false => rfl
    | true => have := (h.com.jall _ e).2.2; omega
  have hgsz : gs.size = J.m + (g.j + 1) := by omega
  let gs' := (gs.setIfInBounds 0 (G fr1' s.up')).push (Conc.born J.P { target := .fn (.func J.fW) caps', args := #[] })
  have hget : ∀ k gr, gs[k]? = some gr → k ≠ 0 → gs'[k]? = some gr := by
    intro k gr hk h0
    have := (Array.getElem?_eq_some_iff.1 hk).1
    show ((gs.setIfInBounds 0 _).push _)[k]? = _
    rw [Array.getElem?_push, if_neg (by simp; omega), Array.getElem?_setIfInBounds_ne (by omega)]; exact hk
  have hget0 : gs'[0]? = some (G fr1' s.up') := by
    show ((gs.setIfInBounds 0 _).push _)[0]? = _
    rw [Array.getElem?_push, if_neg (by simp; omega), Array.getElem?_setIfInBounds_self_of_lt (by omega)]
  have hgetn : gs'[J.m + (g.j + 1)]? = some (Conc.born J.P { target := .fn (.func J.fW) caps', args := #[] }) := by
    show ((gs.setIfInBounds 0 _).push _)[J.m + (g.j + 1)]? = _
    rw [Array.getElem?_push, if_pos (by simp; omega)]
  have hcom : Com J (g.spawned c) gs' w (t ++ #[{ g := 0, fn := gr.frame.fn, pos := gr.frame.place, act := .go gs.size }, { g := gs.size, fn := (Conc.born J.P { target := .fn (.func J.fW) caps', args := #[] }).frame.fn, pos := gr.frame.place, act := .start }]) jd := by
    refine ⟨h.com.h0, h.com.hsz, h.com.cO, h.com.n, by simp only [Geo.spawned]; omega, ok_spawned h.com.ok hmine.2.1 hmine.1 hlc hmine.2.2, by simp [gs', Geo.spawned]; omega, h.com.out, h.com.outz, h.com.chan, h.com.old, h.com.tape, h.com.os, h.com.outp, ?_, fun x hx => ?_⟩
    · refine trI_act (h.com.tr.spawn h.com.ok hmine.2.1 hmine.2.2 (fun y hy => hy.2.1) ⟨rfl, by rw [hgsz]⟩ ⟨by rw [hgsz], rfl⟩) fun z => ⟨fun hz => ?_, fun ⟨z1, z2, z3⟩ => ?_⟩
      · rcases hz with ⟨z1, z2, z3⟩ | rfl
        · exact ⟨z1, Nat.le_succ_of_le z2, z3⟩
        · exact ⟨by omega, Nat.le_refl _, hjdn⟩
      · have z2 : z ≤ g.j + 1 := z2
        by_cases e : z = g.j + 1
        · exact .inr e
        · exact .inl ⟨z1, by omega, z3⟩
    · have := (h.com.jall x hx).2.2
      omega
  -- where goroutine 0 goes on
  have hsit : ∃ a, ZSit J (g.spawned c) w jd a (G fr1' s.up') ∧ Me.lt a μ.1 := by
    obtain ⟨tr0, hμ⟩ := hμ
    cases sp with
    | zero =>
      obtain ⟨r, hr⟩ : ∃ r, J.n = r + 1 := ⟨J.n - 1, by have := hJ.hn; omega⟩
      have hcnt : cnt J.n jd = 0 := by
        rcases Nat.eq_zero_or_pos (cnt J.n jd) with e | e
        · exact e
        · exfalso
          have : ∃ x, jd x = true := by
            refine Classical.byContradiction fun hno => ?_
            have hall : ∀ x, jd x = false := fun x => by
              cases e : jd x with
              | false => rfl
              | true => exact absurd ⟨x, e⟩ hno
            have : cnt J.n jd = 0 := by
              unfold cnt
              rw [sumTo_congr (g := fun _ => 0) fun i _ => by rw [hall]; rfl]
              generalize J.n = N
              induction N with
              | zero => rfl
              | succ N ih => simp only [sumTo, ih]
            omega
          obtain ⟨x, hx⟩ := this
          have := (h.com.jall x hx).2.2
          omega
      have hseg : Seg J.P J.Ch (QR J r) s1.fr s1.up s1.v := by
        have h1 : RNext J.P J.Ch J.bC J.Fin J.n fr1 s.up (frz (rt s.v T d)) := hnext
        rw [hr] at h1
        exact Seg.rt (T := T) (d := d) h1
      obtain ⟨tr, hway⟩ := way_of_seg (main := true) (bs := []) hJ.hP hok1 hseg hz1.veil
      exact ⟨_, .rc (s := s1) rfl hz1 (by simp only [Geo.spawned]; omega) (r := r) (by omega) hway, by rw [hμ]; exact Me.l _ _ (by omega)⟩
    | succ sp =>
      have hj1 : (g.spawned c).j = J.n - (sp + 1) := by simp only [Geo.spawned]; omega
      have hseg : Seg J.P J.Ch (QG J (g.spawned c).j sp) s1.fr s1.up s1.v := by
        have h1 : GNext J.P J.Ch J.fW J.ps J.el0 J.bC J.n J.Fin (sp + 1) fr1 s.up (frz (rt s.v T d)) := hnext
        rw [hj1]
        exact Seg.rt (T := T) (d := d) h1
      obtain ⟨tr, hway⟩ := way_of_seg (main := true) (bs := []) hJ.hP hok1 hseg hz1.veil
      exact ⟨_, .go (s := s1) rfl hz1 (sp := sp) (by simp only [Geo.spawned]; omega) hway, by rw [hμ]; exact Me.l _ _ (by omega)⟩
  obtain ⟨a, hsit, hlt⟩ := hsit
  have hborn : WSit J (g.spawned c) w (g.j + 1) (J.len + 4, .leaf) (Conc.born J.P { target := .fn (.func J.fW) caps', args := #[] }) false := by
    have eb : (g.spawned c).box (g.j + 1) = c := by simp [Geo.spawned]
    refine .born rfl ?_ (by rw [eb]; exact hreal)
    rw [eb]
    refine .of_get (by have := hcaps.1; simpa [Job.capsV] using this) fun i v hv => ?_
    cases i with
    | zero =>
      have : v = .pointer (some ⟨J.vb.heap.size, 0, none⟩) := by simpa [Job.capsV] using hv.symm
      subst this
      exact ⟨_, hcap0, .pointer ⟨.inr ⟨rfl, rfl⟩, rfl, rfl, rfl⟩⟩
    | succ i =>
      have hv2 : ∃ p, p ∈ J.ps ∧ J.ps[i]? = some p ∧ v = .pointer (some ⟨p, 0, none⟩) := by
        unfold Job.capsV at hv
        rw [Array.getElem?_append_right (by simp)] at hv
        simp only [List.size_toArray, List.length_cons, List.length_nil, Nat.zero_add, Nat.add_sub_cancel, List.getElem?_toArray, List.getElem?_map] at hv
        obtain ⟨p, hp, e⟩ := Option.map_eq_some_iff.1 hv
        exact ⟨p, List.mem_of_getElem? hp, hp, e.symm⟩
      obtain ⟨p, hpm, hp, rfl⟩ := hv2
      obtain ⟨v', h1, h2⟩ := hcaps.get (i := i + 1) (v := .pointer (some ⟨p, 0, none⟩)) (by
        rw [Array.getElem?_append_right (by simp)]
        simp [hp])
      obtain ⟨cp, hcp⟩ := hJ.rps p hpm
      cases h2 with
      | @pointer _ a' hA =>
        obtain ⟨k1, k2, k3, k4⟩ := hA
        refine ⟨_, h1, .pointer ⟨.inl ?_, k2, k3, k4⟩⟩
        rw [← hz.wr.fn _ _ _ k1 (hz.sub _ _ (hJ.sub _ _ hcp))]
        exact hcp
  refine ⟨gs', w, sl, _, hrun, by simp [gs']; omega, .inr ⟨g.spawned c, jd, (a, upd μ.2 (J.m + (g.j + 1)) (J.len + 4, .leaf)), .left _ _ hlt, hcom, ⟨_, hget0, hsit⟩, fun y y1 y2 => ?_, fun i i1 i2 => ?_, fun gr2 hgr hb => ?_⟩⟩
  · by_cases e : y = g.j + 1
    · subst e
      refine ⟨_, hgetn, ?_⟩
      simp only
      rw [upd_same, hjdn]; exact hborn
    · have y2 : y ≤ g.j + 1 := y2
      obtain ⟨gr2, a1, a2⟩ := h.ws y y1 (by omega)
      refine ⟨gr2, hget _ _ a1 (by omega), ?_⟩
      simp only
      rw [upd_ne μ.2 _ (by omega)]
      exact a2.keep (hk y y1 (by omega)) y1 (by omega)
  · obtain ⟨gr2, a1, a2⟩ := h.lv i i1 i2
    refine ⟨gr2, hget _ _ a1 (by omega), ?_⟩
    simp only
    rw [upd_ne μ.2 _ (by omega)]
    exact a2
  · rw [hget0] at hgr
    obtain rfl := Option.some.inj hgr
    cases hb
end
end Go.Proofs.Ytneclhkpgalnlaa.Sm
