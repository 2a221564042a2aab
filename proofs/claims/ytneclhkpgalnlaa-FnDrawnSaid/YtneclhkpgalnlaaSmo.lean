/-
  WORKERS JOINED OVER A CHANNEL: who stands where; how each place is kept while others act.
-/
import Derived.Test.YtneclhkpgalnlaaSmn
namespace Go.Proofs.Ytneclhkpgalnlaa.Sm
open Go Go.Conc
open Go.ConcN (sumTo upd sumTo_upd upd_ne upd_same sumTo_congr)
set_option linter.unusedVariables false
set_option linter.unusedSimpArgs false

structure Job where
  P : Program
  Fs : FuncId → Bool
  fW : FuncId
  n : Nat
  len : Nat
  f : Nat → Int
  m : Nat
  H0 : Nat
  Old : Nat → Prop
  cO : Nat
  cC : Nat
  bO : Nat
  bC : Nat
  Rb : BR
  vb : World
  ps : List Nat
  el0 : TypeId
  wB : World
  elO : TypeId
  fzO : Nat × Nat
  szO : Nat
  tm : Bool
  s0 : Nat
  RB : BR
  nB : Nat
  Fin : VStop
  Ch : Nat → Prop

def Job.vx (J : Job) (x : Nat) : World := { J.vb with heap := J.vb.heap.push (.cells #[.int .i64 (x - 1 : Nat)] J.el0 (0, 1)) }
def Job.capsV (J : Job) : Array Value := #[.pointer (some ⟨J.vb.heap.size, 0, none⟩)] ++ (J.ps.map fun b => Value.pointer (some ⟨b, 0, none⟩)).toArray

structure Job.Ok (J : Job) : Prop where
  hP : OkProg J.P J.Fs
  hF : J.Fs J.fW = true
  hn : 1 ≤ J.n
  wr : WR (FFs J.Fs) J.Rb J.vb J.wB
  rO : J.Rb J.bO J.cO
  rC : J.Rb J.bC J.cC
  rps : ∀ b ∈ J.ps, ∃ c, J.Rb b c
  sub : ∀ b c, J.Rb b c → J.RB b c
  lay : ∀ b c, J.Rb b c → (RO J.vb b ∨ J.Ch b) ∧ (c = J.cO → ∀ off, ¬ Cl J.vb b off)
  vchan : Veil J.Ch J.vb
  H0 : J.H0 = J.wB.heap.size
  old : ∀ c, J.Old c → c < J.wB.heap.size
  oldR : ∀ b c, J.Rb b c → J.Old c
  out : ∃ y, J.wB.heap[J.cO]? = some (.cells y J.elO J.fzO) ∧ y.size = J.szO
  len : J.len ≤ J.szO
  unf : ∀ i, i < J.len → ¬ inFz J.fzO i
  chan : J.wB.heap[J.cC]? = some (.chan 0 #[] false J.s0 J.s0 J.tm)
  seg : ∀ k, k < J.n → Seg J.P J.Ch (WStop J.P J.Ch J.bO J.bC J.n J.len J.f (J.len + 1) k) (Frame.enter J.P J.fW J.capsV .deferred) [] (J.vx (k + 1))

/-! ### measures -/
abbrev Me := Nat × Tree
def Me.lt : Me → Me → Prop := Prod.Lex (fun a b : Nat => a < b) Tree.Lt
theorem Me.wf : WellFounded Me.lt := (Prod.lex ⟨_, Nat.lt_wfRel.wf⟩ ⟨_, Tree.wf⟩).wf
theorem Me.l {a b : Nat} (s t : Tree) (h : a < b) : Me.lt (a, s) (b, t) := .left _ _ h
theorem Me.r (a : Nat) {s t : Tree} (h : Tree.Lt s t) : Me.lt (a, s) (a, t) := .right _ h

def VLt : Nat → (Nat → Me) → (Nat → Me) → Prop
  | 0, _, _ => False
  | N + 1, f, g => Me.lt (f N) (g N) ∨ (f N = g N ∧ VLt N f g)
theorem VLt.wf : ∀ N, WellFounded (VLt N)
  | 0 => ⟨fun a => ⟨_, fun _ h => h.elim⟩⟩
  | N + 1 => by
    have h := (Prod.lex ⟨_, Me.wf⟩ ⟨_, VLt.wf N⟩ : WellFoundedRelation (Me × (Nat → Me))).wf
    refine Subrelation.wf (r := InvImage (Prod.Lex Me.lt (VLt N)) fun f : Nat → Me => (f N, f)) (fun {f g} hfg => ?_) (InvImage.wf _ h)
    rcases hfg with h1 | ⟨h1, h2⟩
    · exact .left _ _ h1
    · show Prod.Lex _ _ (f N, f) (g N, g)
      rw [h1]; exact .right _ h2
theorem VLt.upd {f : Nat → Me} {i : Nat} {a : Me} (h : Me.lt a (f i)) : ∀ {N}, i < N → VLt N (upd f i a) f
  | 0, hi => by omega
  | N + 1, hi => by
    by_cases e : i = N
    · subst e; exact .inl (by rw [upd_same]; exact h)
    · exact .inr ⟨upd_ne f a (Ne.symm e), VLt.upd h (by omega)⟩
def PLt (N : Nat) : Me × (Nat → Me) → Me × (Nat → Me) → Prop := Prod.Lex Me.lt (VLt N)
theorem PLt.wf (N : Nat) : WellFounded (PLt N) := (Prod.lex ⟨_, Me.wf⟩ ⟨_, VLt.wf N⟩).wf

/-! ### how many are joined -/
def cnt (n : Nat) (jd : Nat → Bool) : Nat := sumTo n fun k => if jd (k + 1) then 1 else 0
theorem cnt_le (jd : Nat → Bool) : ∀ n, cnt n jd ≤ n
  | 0 => Nat.le_refl _
  | n + 1 => by
    have := cnt_le jd n
    unfold cnt at this ⊢
    simp only [sumTo]
    split <;> omega
theorem cnt_free (jd : Nat → Bool) : ∀ n, cnt n jd < n → ∃ x, 1 ≤ x ∧ x ≤ n ∧ jd x = false
  | 0, h => by omega
  | n + 1, h => by
    cases e : jd (n + 1) with
    | false => exact ⟨n + 1, by omega, Nat.le_refl _, e⟩
    | true =>
      unfold cnt at h
      simp only [sumTo, e, if_true] at h
      obtain ⟨x, h1, h2, h3⟩ := cnt_free jd n (by unfold cnt; omega)
      exact ⟨x, h1, by omega, h3⟩
theorem cnt_full (jd : Nat → Bool) : ∀ n, cnt n jd = n → ∀ x, 1 ≤ x → x ≤ n → jd x = true
  | 0, _, x, h1, h2 => by omega
  | n + 1, h, x, h1, h2 => by
    have hle := cnt_le jd n
    unfold cnt at h hle
    simp only [sumTo] at h
    cases e : jd (n + 1) with
    | false => rw [e] at h; simp at h; omega
    | true =>
      rw [e] at h
      simp only [if_true] at h
      by_cases e2 : x = n + 1
      · rw [e2]; exact e
      · exact cnt_full jd n (by unfold cnt; omega) x h1 (by omega)
theorem cnt_upd {jd : Nat → Bool} {x : Nat} (h1 : 1 ≤ x) (hf : jd x = false) : ∀ n, x ≤ n → cnt n (upd jd x true) = cnt n jd + 1
  | 0, h => by omega
  | n + 1, h => by
    unfold cnt
    simp only [sumTo]
    by_cases e : x = n + 1
    · subst e
      rw [upd_same, hf, sumTo_congr (g := fun k => if jd (k + 1) then 1 else 0) (fun i hi => by rw [upd_ne jd true (by omega)])]
      simp
    · have := cnt_upd h1 hf n (by omega)
      unfold cnt at this
      rw [this, upd_ne jd true (by omega)]
      omega

/-! ### places -/
def OutAt (J : Job) (w : World) (i : Nat) (val : Int) : Prop := ∃ y, w.heap[J.cO]? = some (.cells y J.elO J.fzO) ∧ y[i]? = some (.int .i64 val)
def Done (J : Job) (w : World) (x e : Nat) : Prop := ∀ i, i < J.len → i % J.n + 1 = x → i < e → OutAt J w i (J.f i)

structure Com (J : Job) (g : Geo) (gs : Array Goroutine) (w : World) (t : Trace) (jd : Nat → Bool) : Prop where
  h0 : g.Old = J.Old
  hsz : J.H0 ≤ w.heap.size
  cO : g.cO = J.cO
  n : g.n = J.n
  j : g.j ≤ J.n
  ok : g.Ok w.heap.size
  size : gs.size = J.m + 1 + g.j
  out : ∃ y, w.heap[J.cO]? = some (.cells y J.elO J.fzO) ∧ y.size = J.szO
  outz : J.len = 0 → w.heap[J.cO]? = J.wB.heap[J.cO]?
  chan : w.heap[J.cC]? = some (.chan 0 #[] false (J.s0 + cnt J.n jd) (J.s0 + cnt J.n jd) J.tm)
  old : ∀ c, J.Old c → c ≠ J.cO → c ≠ J.cC → w.heap[c]? = J.wB.heap[c]?
  tape : w.tape = J.wB.tape
  os : w.os = J.wB.os
  outp : w.output = J.wB.output
  tr : TrI g J.m w.heap.size (fun x => 1 ≤ x ∧ x ≤ g.j ∧ jd x = false) t
  jall : ∀ x, jd x = true → 1 ≤ x ∧ x ≤ J.n ∧ g.j = J.n

structure Running (J : Job) (g : Geo) (w : World) (x : Nat) (t : Tree) (r e : Nat) (gr : Goroutine) (s : St) : Prop where
  gr : gr = G s.fr' (s.up' ++ [base J.P])
  ok : s.ok J.P J.Fs
  wr : WR (FFs J.Fs) s.R s.v w
  lay : Lay g x J.Ch s.R s.v
  veil : Veil J.Ch s.v
  sub : ∀ b c, J.Rb b c → s.R b c
  way : Way J.P J.Fs false [base J.P] J.Ch (WStop J.P J.Ch J.bO J.bC J.n J.len J.f r e) t s
  ex : e % J.n + 1 = x
  done : Done J w x e

inductive WSit (J : Job) (g : Geo) (w : World) (x : Nat) : Me → Goroutine → Bool → Prop
  | born {gr : Goroutine} {caps' : Array Value} (hg : gr = Conc.born J.P { target := .fn (.func J.fW) caps', args := #[] }) (hc : AVR (FFs J.Fs) (J.Rb.ext J.vb.heap.size (g.box x)) J.capsV caps')
      (hb : ∃ y fz, w.heap[g.box x]? = some (.cells y J.el0 fz) ∧ y[0]? = some (.int .i64 (x - 1 : Nat))) : WSit J g w x (J.len + 4, .leaf) gr false
  | run {gr : Goroutine} {t : Tree} {r e : Nat} {s : St} (h : Running J g w x t r e gr s) : WSit J g w x (r + 2, t) gr false
  | parked {gr g0 : Goroutine} {z : Value} (hg : gr = parked g0 #[scase J.cC (.bool true) z] .send) (hq : ∃ q, QuitsIn J.P q (Conc.served g0 undef)) (hd : Done J w x J.len) : WSit J g w x (1, .leaf) gr false
  | gone {gr : Goroutine} {q : Nat} (hq : QuitsIn J.P q gr) (hd : Done J w x J.len) : WSit J g w x (q, .leaf) gr true

structure ZR (J : Job) (g : Geo) (w : World) (s : St) : Prop where
  ok : s.ok J.P J.Fs
  wr : WR (FFs J.Fs) s.R s.v w
  lay : Lay g 0 J.Ch s.R s.v
  veil : Veil J.Ch s.v
  sub : ∀ b c, J.RB b c → s.R b c
  new : ∀ b c, s.R b c → J.RB b c ∨ (J.nB ≤ b ∧ J.H0 ≤ c)
  size : J.nB ≤ s.v.heap.size

def QG (J : Job) (j sp : Nat) : VStop := fun fr up v => ∃ fr1, GoAt J.fW J.ps J.el0 j fr fr1 v ∧ GNext J.P J.Ch J.fW J.ps J.el0 J.bC J.n J.Fin sp fr1 up (frz v)
def QR (J : Job) (r : Nat) : VStop := fun fr up v => ∃ fr1, RcvOp J.bC fr fr1 ∧ RNext J.P J.Ch J.bC J.Fin r fr1 up v

inductive ZSit (J : Job) (g : Geo) (w : World) (jd : Nat → Bool) : Me → Goroutine → Prop
  | go {gr : Goroutine} {s : St} {t : Tree} {sp : Nat} (hg : gr = G s.fr' s.up') (h : ZR J g w s) (hsp : g.j + sp + 1 = J.n) (hw : Way J.P J.Fs true [] J.Ch (QG J g.j sp) t s) : ZSit J g w jd (2 * (sp + 1 + J.n) + 1, t) gr
  | rc {gr : Goroutine} {s : St} {t : Tree} {r : Nat} (hg : gr = G s.fr' s.up') (h : ZR J g w s) (hj : g.j = J.n) (hr : cnt J.n jd + r + 1 = J.n) (hw : Way J.P J.Fs true [] J.Ch (QR J r) t s) : ZSit J g w jd (2 * (r + 1) + 1, t) gr
  | parked {gr g0 : Goroutine} {z : Value} {s : St} {r : Nat} (hg : gr = parked g0 #[rcase J.cC z] (.recv false)) (hs : Conc.served g0 (.bool true) = G s.fr' s.up') (h : ZR J g w s) (hj : g.j = J.n) (hr : cnt J.n jd + r + 1 = J.n)
      (hn : ∃ T d, RNext J.P J.Ch J.bC J.Fin r s.fr s.up (rt s.v T d)) : ZSit J g w jd (2 * (r + 1), .leaf) gr

/-- What y may count on while others act. -/
structure Keep (J : Job) (y : Nat) (g : Geo) (w : World) (g' : Geo) (w' : World) : Prop where
  wr : ∀ R v, WR (FFs J.Fs) R v w → Lay g y J.Ch R v → WR (FFs J.Fs) R v w'
  lay : ∀ R v, WR (FFs J.Fs) R v w → Lay g y J.Ch R v → Lay g' y J.Ch R v
  box : 1 ≤ y → y ≤ g.j → g'.box y = g.box y ∧ w'.heap[g.box y]? = w.heap[g.box y]?
  out : ∀ i val, i % J.n + 1 = y → OutAt J w i val → OutAt J w' i val

section
variable {J : Job} {g g' : Geo} {w w' : World} {x y : Nat} {gr : Goroutine} {μ : Me} {b : Bool} {jd : Nat → Bool}

theorem Done.keep {e : Nat} (h : Done J w y e) (hk : Keep J y g w g' w') : Done J w' y e := fun i h1 h2 h3 => hk.out i _ h2 (h i h1 h2 h3)

theorem WSit.keep (h : WSit J g w y μ gr b) (hk : Keep J y g w g' w') (h1 : 1 ≤ y) (h2 : y ≤ g.j) : WSit J g' w' y μ gr b := by
  cases h with
  | born hg hc hb =>
    obtain ⟨e1, e2⟩ := hk.box h1 h2
    exact .born hg (by rw [e1]; exact hc) (by rw [e1, e2]; exact hb)
  | run h => exact .run ⟨h.gr, h.ok, hk.wr _ _ h.wr h.lay, hk.lay _ _ h.wr h.lay, h.veil, h.sub, h.way, h.ex, h.done.keep hk⟩
  | parked hg hq hd => exact .parked hg hq (hd.keep hk)
  | gone hq hd => exact .gone hq (hd.keep hk)

theorem ZR.keep {s : St} (h : ZR J g w s) (hk : Keep J 0 g w g' w') : ZR J g' w' s := ⟨h.ok, hk.wr _ _ h.wr h.lay, hk.lay _ _ h.wr h.lay, h.veil, h.sub, h.new, h.size⟩
theorem ZSit.keep (h : ZSit J g w jd μ gr) (hk : Keep J 0 g w g' w') (hj : g'.j = g.j) : ZSit J g' w' jd μ gr := by
  cases h with
  | go hg h hsp hw => exact .go hg (h.keep hk) (by rw [hj]; exact hsp) (by rw [hj]; exact hw)
  | rc hg h hj' hr hw => exact .rc hg (h.keep hk) (hj.trans hj') hr hw
  | parked hg hs h hj' hr hn => exact .parked hg hs (h.keep hk) (hj.trans hj') hr hn

theorem keep_heap (h : w'.heap = w.heap) : Keep J y g w g w' :=
  ⟨fun R v hw _ => hw.heap' h, fun R v _ hl => hl, fun _ _ => ⟨rfl, by rw [h]⟩, fun i val _ ⟨z, h1, h2⟩ => ⟨z, by rw [h]; exact h1, h2⟩⟩

theorem keep_eff (he : Eff g x w w') (hok : g.Ok w.heap.size) (hcO : g.cO = J.cO) (hne : y ≠ x) : Keep J y g w (g.after w.heap.size x) w' := by
  refine ⟨fun R v hw hl => wr_other hw hl he hne, fun R v hw hl => lay_other (fun b c hb => (hw.lt hb).2) hl, fun h1 h2 => ⟨rfl, ?_⟩, fun i val _ ⟨z, h1, h2⟩ => ⟨z, ?_, h2⟩⟩
  · obtain ⟨a1, a2, a3⟩ := hok.box y h1 h2
    exact he.same _ a2 fun hm => hm.2.2 ⟨y, h1, h2, rfl⟩
  · have hlt : g.Old J.cO := hcO ▸ hok.cO
    rw [he.same _ (hok.h0 _ hlt) (Geo.not_mine_old hlt)]; exact h1

theorem keep_store {i : Nat} {val : Int} (hok : g.Ok w.heap.size) (hcO : g.cO = J.cO) (hout : ∃ y, w.heap[J.cO]? = some (.cells y J.elO J.fzO)) (hx : i % J.n + 1 = x) (hne : y ≠ x) :
    Keep J y g w (g.after w.heap.size x) (w.setCell ⟨J.cO, i, none⟩ (.int .i64 val)) := by
  obtain ⟨z, hz⟩ := hout
  have hlt : g.Old J.cO := hcO ▸ hok.cO
  have hset := setCell_heap w J.cO i (.int .i64 val) hz
  refine ⟨fun R v hw hl => wr_store hw (fun b hb => ?_) ⟨z, _, _, hz⟩, fun R v hw hl => lay_other (fun b c hb => (hw.lt hb).2) hl, fun h1 h2 => ⟨rfl, ?_⟩, fun k v2 hk ⟨z2, h1, h2⟩ => ?_⟩
  · rcases hl b _ hb with h | ⟨_, _, h⟩
    · exact absurd h (Geo.not_mine_old hlt)
    · exact h hcO.symm
  · obtain ⟨a1, a2, a3⟩ := hok.box y h1 h2
    rw [hset, if_neg (by rintro e; rw [e] at a1; exact a1 hlt)]
  · rw [hz] at h1
    simp only [Option.some.injEq, Obj.cells.injEq] at h1
    obtain ⟨rfl, _⟩ := h1
    refine ⟨z.setIfInBounds i (.int .i64 val), by rw [hset, if_pos rfl], ?_⟩
    have : i ≠ k := by rintro rfl; exact hne (hk.symm.trans hx)
    rw [Array.getElem?_setIfInBounds_ne this]; exact h2

theorem keep_chan {s s' d : Nat} {tm : Bool} (hok : g.Ok w.heap.size) (hc : w.heap[J.cC]? = some (.chan 0 #[] false s s tm)) (hlt : g.Old J.cC) (hout : ∃ y, w.heap[J.cO]? = some (.cells y J.elO J.fzO)) :
    Keep J y g w g ((w.at d).setChan J.cC 0 #[] false s' s' tm) := by
  obtain ⟨z, hz⟩ := hout
  have hne : J.cC ≠ J.cO := by intro e; rw [e, hz] at hc; cases hc
  refine ⟨fun R v hw hl => ?_, fun R v hw hl => hl, fun h1 h2 => ⟨rfl, ?_⟩, fun k v2 hk ⟨z2, h1, h2⟩ => ⟨z2, ?_, h2⟩⟩
  · exact wr_chan (w := w.at d) (WR.heap' (w := w) (w1 := w.at d) rfl hw) hc
  · obtain ⟨a1, a2, a3⟩ := hok.box y h1 h2
    show (w.heap.setIfInBounds J.cC _)[g.box y]? = _
    rw [Array.getElem?_setIfInBounds_ne (by rintro e; rw [← e] at a1; exact a1 hlt)]
  · show (w.heap.setIfInBounds J.cC _)[J.cO]? = _
    rw [Array.getElem?_setIfInBounds_ne hne]; exact h1

theorem box_spawned {c z : Nat} (h : g.Box z) : (g.spawned c).Box z := let ⟨y, a1, a2, a3⟩ := h
  ⟨y, a1, Nat.le_succ_of_le a2, by simp only [Geo.spawned]; rw [if_neg (by omega)]; exact a3⟩
theorem box_spawned' {c z : Nat} (h : (g.spawned c).Box z) : g.Box z ∨ z = c := by
  obtain ⟨y, a1, a2, a3⟩ := h
  simp only [Geo.spawned] at a2 a3
  by_cases e : y = g.j + 1
  · rw [if_pos e] at a3; exact .inr a3
  · rw [if_neg e] at a3; exact .inl ⟨y, a1, by omega, a3⟩
theorem box_same {c : Nat} (h : y ≤ g.j) : (g.spawned c).box y = g.box y := by simp only [Geo.spawned]; rw [if_neg (by omega)]

theorem keep_spawn {c : Nat} (hc : g.own c = 0) (h1 : 1 ≤ y) (h2 : y ≤ g.j) : Keep J y g w (g.spawned c) w := by
  refine ⟨fun R v hw _ => hw, fun R v hw hl b z hb => ?_, fun _ h => ⟨box_same h, rfl⟩, fun _ _ _ h => h⟩
  rcases hl b z hb with ⟨a1, a2, a3⟩ | ⟨a1, a2, a3⟩
  · refine .inl ⟨a1, a2, fun hb => ?_⟩
    rcases box_spawned' hb with hb | rfl
    · exact a3 hb
    · omega
  · refine .inr ⟨?_, a2, a3⟩
    rcases a1 with a1 | ⟨a1, a4⟩
    · exact .inl a1
    · exact .inr ⟨box_spawned a1, by rw [box_same h2]; exact a4⟩

theorem ok_spawned {c hs : Nat} (hok : g.Ok hs) (hc : g.own c = 0) (hc0 : ¬ g.Old c) (hlt : c < hs) (hb : ¬ g.Box c) : (g.spawned c).Ok hs := by
  refine ⟨hok.h0, hok.cO, fun y h1 h2 => ?_, fun y z h1 h2 h3 h4 e => ?_⟩
  · simp only [Geo.spawned] at h2 ⊢
    by_cases e : y = g.j + 1
    · simp only [e, if_true]; exact ⟨hc0, hlt, hc⟩
    · rw [if_neg e]; exact hok.box y h1 (by omega)
  · simp only [Geo.spawned] at h2 h4 e
    by_cases e1 : y = g.j + 1 <;> by_cases e2 : z = g.j + 1
    · omega
    · rw [if_pos e1, if_neg e2] at e
      exact absurd ⟨z, h3, by omega, e⟩ hb
    · rw [if_neg e1, if_pos e2] at e
      exact absurd ⟨y, h1, by omega, e.symm⟩ hb
    · rw [if_neg e1, if_neg e2] at e
      exact hok.inj y z h1 (by omega) h3 (by omega) e
end

/-! ### all frozen -/
section
variable {F : FuncId → Prop} {R : BR} {v w : World}
theorem frz_get (b : Nat) : (frz v).heap[b]? = (v.heap[b]?).map frzO := by simp [frz]
theorem frz_cells {b : Nat} {c : Array Value} {el : TypeId} {fz : Nat × Nat} (h : v.heap[b]? = some (.cells c el fz)) : (frz v).heap[b]? = some (.cells c el (0, c.size)) := by rw [frz_get, h]; rfl
theorem frz_non {b : Nat} {o : Obj} (h : v.heap[b]? = some o) (hn : ¬ IsCells o) : (frz v).heap[b]? = some o := by
  rw [frz_get, h]
  cases o <;> first | exact absurd trivial hn | rfl
theorem ro_frz {b : Nat} {c : Array Value} {el : TypeId} {fz : Nat × Nat} (h : v.heap[b]? = some (.cells c el fz)) : RO (frz v) b := ⟨c, el, _, frz_cells h, fun j hj => ⟨Nat.zero_le _, hj⟩⟩
theorem RO.frz {b : Nat} (h : RO v b) : RO (frz v) b := by
  obtain ⟨c, el, fz, h1, _⟩ := h
  exact ro_frz h1
theorem cl_frz {b off : Nat} (h : Cl (frz v) b off) : Cl v b off := by
  obtain ⟨c, el, fz, h1, h2⟩ := h
  rw [frz_get] at h1
  obtain ⟨o, ho, e⟩ := Option.map_eq_some_iff.1 h1
  cases o with
  | cells c2 el2 fz2 =>
    simp only [frzO, Obj.cells.injEq] at e
    obtain ⟨rfl, rfl, rfl⟩ := e
    exact ⟨c2, el2, fz2, ho, h2⟩
  | _ => cases e
theorem wr_frz (h : WR F R v w) : WR F R (frz v) w := by
  refine ⟨fun b c hb => ?_, h.fn, h.inj⟩
  · obtain ⟨o, o', ho, ho', hOR⟩ := h.obj b c hb
    refine ⟨frzO o, o', by rw [frz_get, ho]; rfl, ho', ?_⟩
    cases hOR with
    | cells h1 h2 => exact .cells h1 fun j hj hn => absurd ⟨Nat.zero_le _, hj⟩ hn
    | map hs h1 => exact .map hs h1
    | chan s s' tm => exact .chan s s' tm
    | number h l => exact .number h l
theorem veil_frz {Ch : Nat → Prop} (h : Veil Ch v) : Veil Ch (frz v) := fun b hb =>
  let ⟨o, h1, h2, h3⟩ := h b hb; ⟨o, frz_non h1 h2, h2, h3⟩

/-- Goroutine 0's blocks behind a go statement. -/
theorem lay_spawn {g : Geo} {Ch : Nat → Prop} {c : Nat} (hw : WR F R v w) (hl : Lay g 0 Ch R v) (hv : Veil Ch v) (hc : g.Mine 0 c) (hcO : g.Old g.cO) (hcb : ∀ b, R b c → ∃ y el fz, v.heap[b]? = some (.cells y el fz)) : Lay (g.spawned c) 0 Ch R (frz v) := by
  intro b z hb
  by_cases e : z = c
  · subst e
    obtain ⟨y, el, fz, h1⟩ := hcb b hb
    refine .inr ⟨.inr ⟨⟨g.j + 1, by omega, Nat.le_refl _, by simp [Geo.spawned]⟩, .inl rfl⟩, .inl (ro_frz h1), fun e => ?_⟩
    have e2 : z = g.cO := e
    exact absurd (by rw [e2]; exact hcO) hc.1
  · rcases hl b z hb with ⟨a1, a2, a3⟩ | ⟨a1, a2, a3⟩
    · refine .inl ⟨a1, a2, fun hb => ?_⟩
      rcases box_spawned' hb with hb | hb
      · exact a3 hb
      · exact e hb
    · refine .inr ⟨?_, a2.imp RO.frz id, fun e off hcl => a3 e off (cl_frz hcl)⟩
      rcases a1 with a1 | ⟨a1, a4⟩
      · exact .inl a1
      · exact .inr ⟨box_spawned a1, .inl rfl⟩
end
end Go.Proofs.Ytneclhkpgalnlaa.Sm
