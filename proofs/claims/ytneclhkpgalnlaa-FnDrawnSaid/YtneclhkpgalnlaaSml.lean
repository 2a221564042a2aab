/-
  WORKERS IN COMPANY: (1) who owns what: blocks old, own, boxes; what a followed step does to the real world; (2) the trace: who knows what.
-/
import Derived.Test.YtneclhkpgalnlaaSmk
import Derived.Conc.Beside
import Derived.Conc.CrowdComm
import Derived.Conc.CrowdTrace
namespace Go.Proofs.Ytneclhkpgalnlaa.Sm
open Go Go.Conc
set_option linter.unusedVariables false
set_option linter.unusedSimpArgs false

/-! ### (1) -/
/-- Old: blocks that were there, and are not goroutine 0's own, when the first worker was started; cO: the row that the workers write; own: who made a block since; box x: the box that holds worker x's number; j: so many are started. -/
structure Geo where
  Old : Nat → Prop
  cO : Nat
  n : Nat
  own : Nat → Nat
  box : Nat → Nat
  j : Nat

namespace Geo
def Box (g : Geo) (c : Nat) : Prop := ∃ x, 1 ≤ x ∧ x ≤ g.j ∧ c = g.box x
def Mine (g : Geo) (x c : Nat) : Prop := ¬ g.Old c ∧ g.own c = x ∧ ¬ g.Box c
def Seen (g : Geo) (x c : Nat) : Prop := g.Old c ∨ (g.Box c ∧ (x = 0 ∨ c = g.box x))
def after (g : Geo) (hs x : Nat) : Geo := { g with own := fun c => if c < hs then g.own c else x }
def spawned (g : Geo) (c : Nat) : Geo := { g with j := g.j + 1, box := fun x => if x = g.j + 1 then c else g.box x }

structure Ok (g : Geo) (hs : Nat) : Prop where
  h0 : ∀ c, g.Old c → c < hs
  cO : g.Old g.cO
  box : ∀ x, 1 ≤ x → x ≤ g.j → ¬ g.Old (g.box x) ∧ g.box x < hs ∧ g.own (g.box x) = 0
  inj : ∀ x y, 1 ≤ x → x ≤ g.j → 1 ≤ y → y ≤ g.j → g.box x = g.box y → x = y

theorem box_after {g : Geo} {hs x c : Nat} : (g.after hs x).Box c ↔ g.Box c := Iff.rfl
theorem seen_after {g : Geo} {hs x y c : Nat} : (g.after hs x).Seen y c ↔ g.Seen y c := Iff.rfl
theorem mine_after {g : Geo} {hs x y c : Nat} (h : c < hs) : (g.after hs x).Mine y c ↔ g.Mine y c := by
  unfold Mine after
  simp only [h, if_true]
  exact Iff.rfl
theorem mine_new {g : Geo} {hs x c : Nat} (hG : g.Ok hs) (h : hs ≤ c) : (g.after hs x).Mine x c := by
  refine ⟨fun ho => by have := hG.h0 c ho; omega, by simp only [after, Nat.not_lt.2 h, if_false], ?_⟩
  rintro ⟨y, h1, h2, rfl⟩
  have := (hG.box y h1 h2).2.1
  simp only [after] at h
  omega
theorem Ok.after {g : Geo} {hs hs' x : Nat} (hG : g.Ok hs) (h : hs ≤ hs') : (g.after hs x).Ok hs' := by
  refine ⟨fun c ho => Nat.lt_of_lt_of_le (hG.h0 c ho) h, hG.cO, fun y h1 h2 => ?_, hG.inj⟩
  obtain ⟨a, b, c⟩ := hG.box y h1 h2
  refine ⟨a, Nat.lt_of_lt_of_le b h, ?_⟩
  simp only [Geo.after, b, if_true]
  exact c
theorem not_mine_old {g : Geo} {x c : Nat} (h : g.Old c) : ¬ g.Mine x c := fun m => m.1 h
theorem not_mine_seen {g : Geo} {x y c : Nat} (h : g.Seen y c) : ¬ g.Mine x c := by
  rcases h with h | ⟨h, _⟩
  · exact not_mine_old h
  · exact fun m => m.2.2 h
theorem mine_ne {g : Geo} {x y c : Nat} (h : g.Mine x c) (hne : x ≠ y) : ¬ g.Mine y c := fun m => hne (h.2.1.symm.trans m.2.1)
end Geo

theorem WR.heap {F : FuncId → Prop} {R : BR} {u v w : World} (h : u.heap = v.heap) (x : WR F R v w) : WR F R u w :=
  ⟨fun b c hb => by rw [h]; exact x.obj b c hb, x.fn, x.inj⟩
theorem WR.heap' {F : FuncId → Prop} {R : BR} {v w w1 : World} (h : w1.heap = w.heap) (x : WR F R v w) : WR F R v w1 :=
  ⟨fun b c hb => by rw [h]; exact x.obj b c hb, x.fn, x.inj⟩

theorem KeepV.cl_old {w w1 : World} (h : KeepV w w1) {b j : Nat} (hb : b < w.heap.size) (hu : Cl w1 b j) : Cl w b j := by
  obtain ⟨c1, el, fz, h1, h2⟩ := hu
  have hw : w.heap[b]? = some w.heap[b] := by simp [hb]
  cases ho : w.heap[b] with
  | cells c el' fz' =>
    rw [ho] at hw
    obtain ⟨c2, a1, a2, _⟩ := h.cells b c el' fz' hw
    rw [h1] at a1
    obtain ⟨rfl, rfl, rfl⟩ : c1 = c2 ∧ el = el' ∧ fz = fz' := by simpa using a1
    exact ⟨c, el, fz, hw, a2 ▸ h2⟩
  | _ =>
    obtain ⟨o1, a1, a2, _⟩ := h.non b _ hw (by rw [ho]; simp [IsCells])
    rw [h1] at a1
    simp only [Option.some.injEq] at a1
    subst a1
    exact absurd trivial a2

theorem RO.not_un {w : World} {b j : Nat} (h : RO w b) : ¬ Un w b j := by
  rintro ⟨c, el, fz, h1, h2, h3⟩
  obtain ⟨c', el', fz', g1, g2⟩ := h
  rw [h1] at g1
  simp only [Option.some.injEq, Obj.cells.injEq] at g1
  obtain ⟨rfl, rfl, rfl⟩ := g1
  exact h3 (g2 j h2)
theorem not_un_non {w : World} {b j : Nat} {o : Obj} (h : w.heap[b]? = some o) (hn : ¬ IsCells o) : ¬ Un w b j := by
  rintro ⟨c, el, fz, h1, _⟩
  rw [h] at h1
  simp only [Option.some.injEq] at h1
  subst h1
  exact hn trivial
theorem not_cl_non {w : World} {b j : Nat} {o : Obj} (h : w.heap[b]? = some o) (hn : ¬ IsCells o) : ¬ Cl w b j := by
  rintro ⟨c, el, fz, h1, _⟩
  rw [h] at h1
  simp only [Option.some.injEq] at h1
  subst h1
  exact hn trivial

/-- How the blocks that agent x may come to lie. -/
def Lay (g : Geo) (x : Nat) (Ch : Nat → Prop) (R : BR) (v : World) : Prop :=
  ∀ b c, R b c → g.Mine x c ∨ (g.Seen x c ∧ (RO v b ∨ Ch b) ∧ (c = g.cO → ∀ off, ¬ Cl v b off))

/-- What x's step does to the real world. -/
structure Eff (g : Geo) (x : Nat) (w w1 : World) : Prop where
  size : w.heap.size ≤ w1.heap.size
  same : ∀ c, c < w.heap.size → ¬ g.Mine x c → w1.heap[c]? = w.heap[c]?
  tape : w1.tape = w.tape
  os : w1.os = w.os
  out : w1.output = w.output

def Veil (Ch : Nat → Prop) (v : World) : Prop := ∀ b, Ch b → ∃ o, v.heap[b]? = some o ∧ ¬ IsCells o ∧ ¬ IsMap o

section
variable {F : FuncId → Prop} {R R1 : BR} {g : Geo} {x : Nat} {Ch : Nat → Prop} {u v v1 w w1 : World} {es : Array Event}

theorem lay_eff (hG : g.Ok w.heap.size) (hu : u.heap = v.heap) (hwr : WR F R v w) (hst : Stretch F R R1 u v1 w w1 es) (hl : Lay g x Ch R v) (hv : Veil Ch v) (hk : ∀ b, Ch b → v1.heap[b]? = v.heap[b]?) : Eff g x w w1 := by
  refine ⟨hst.keepR.size, fun c hc hm => ?_, hst.tape', hst.os', hst.out'⟩
  refine Classical.byCases (p := ∃ b, R b c) (fun ⟨b, hb⟩ => ?_) fun h => hst.keepR.off c hc fun b hb => h ⟨b, hb⟩
  have noUn : ∀ b' off, R b' c → ¬ Un u b' off := by
    intro b' off hb' hun
    have hun : Un v b' off := by unfold Un at hun ⊢; rw [hu] at hun; exact hun
    rcases hl b' c hb' with h | ⟨_, h | h, _⟩
    · exact hm h
    · exact h.not_un hun
    · obtain ⟨o, ho, hn, _⟩ := hv b' h
      exact not_un_non ho hn hun
  obtain ⟨o, o', ho, ho', hOR⟩ := hwr.obj b c hb
  by_cases hcl : IsCells o'
  · cases o' with
    | cells y el fz =>
      obtain ⟨y1, a1, a2, a3⟩ := hst.keepR.cells c y el fz ho'
      have : y1 = y := by
        apply Array.ext_getElem?
        intro off
        rcases a3 off with e | ⟨b', hb', hun⟩
        · exact e
        · exact absurd hun (noUn b' off hb')
      rw [a1, ho', this]
    | _ => exact hcl.elim
  · rcases hst.obj b c o' hb ho' hcl with e | ⟨o1, e, hmap⟩
    · rw [e, ho']
    · exfalso
      rcases hl b c hb with h | ⟨_, h | h, _⟩
      · exact hm h
      · obtain ⟨y, el, fz, h1, _⟩ := h
        rw [ho] at h1
        simp only [Option.some.injEq] at h1
        subst h1
        cases hOR
        exact hcl trivial
      · obtain ⟨o2, ho2, _, hn⟩ := hv b h
        rw [hk b h, ho2] at e
        simp only [Option.some.injEq] at e
        subst e
        exact hn hmap

theorem lay_next (hG : g.Ok w.heap.size) (hu : u.heap = v.heap) (hwr : WR F R v w) (hst : Stretch F R R1 u v1 w w1 es) (hl : Lay g x Ch R v) : Lay (g.after w.heap.size x) x Ch R1 v1 := by
  intro b c hb
  rcases hst.new b c hb with hb | ⟨_, hc⟩
  · have hlt := hwr.lt hb
    have hltu : b < u.heap.size := by rw [hu]; exact hlt.1
    rcases hl b c hb with h | ⟨h1, h2, h3⟩
    · exact .inl ((Geo.mine_after hlt.2).2 h)
    · refine .inr ⟨h1, h2.imp (fun h => hst.keepV.ro (by unfold RO at h ⊢; rw [hu]; exact h)) id, fun e off hcl => ?_⟩
      have := hst.keepV.cl_old hltu hcl
      exact h3 e off (by unfold Cl at this ⊢; rw [hu] at this; exact this)
  · exact .inl (Geo.mine_new hG hc)

theorem lay_other {y : Nat} {hs : Nat} (hlt : ∀ b c, R b c → c < hs) (hl : Lay g y Ch R v) : Lay (g.after hs x) y Ch R v := by
  intro b c hb
  rcases hl b c hb with h | h
  · exact .inl ((Geo.mine_after (hlt b c hb)).2 h)
  · exact .inr h

theorem wr_other {y : Nat} (hwr : WR F R v w) (hl : Lay g y Ch R v) (he : Eff g x w w1) (hne : y ≠ x) : WR F R v w1 := by
  refine ⟨fun b c hb => ?_, hwr.fn, hwr.inj⟩
  obtain ⟨o, o', ho, ho', hOR⟩ := hwr.obj b c hb
  refine ⟨o, o', ho, ?_, hOR⟩
  rw [he.same c (hwr.lt hb).2 ?_]; exact ho'
  rcases hl b c hb with h | ⟨h, _⟩
  · exact Geo.mine_ne h hne
  · exact Geo.not_mine_seen h

/-- The row that the workers write: whatever is laid into it. -/
theorem wr_store (hwr : WR F R v w) {cO i : Nat} {val : Value} (hno : ∀ b, R b cO → ∀ off, ¬ Cl v b off) (hc : ∃ y el fz, w.heap[cO]? = some (.cells y el fz)) : WR F R v (w.setCell ⟨cO, i, none⟩ val) := by
  obtain ⟨y, el, fz, hc⟩ := hc
  refine ⟨fun b c hb => ?_, hwr.fn, hwr.inj⟩
  obtain ⟨o, o', ho, ho', hOR⟩ := hwr.obj b c hb
  rw [setCell_heap w cO i val hc]
  by_cases e : c = cO
  · subst e
    rw [hc] at ho'
    simp only [Option.some.injEq] at ho'
    subst ho'
    cases hOR with
    | @cells z _ _ fz0 _ h1 h2 =>
      have hz : z.size = 0 := by
        rcases Nat.eq_zero_or_pos z.size with e | e
        · exact e
        · exact absurd ⟨z, el, fz0, ho, e⟩ (hno b hb 0)
      refine ⟨_, _, ho, by rw [if_pos rfl], .cells (fun j u hj => ?_) (fun j hj _ => ?_)⟩
      · have := (Array.getElem?_eq_some_iff.1 hj).1; omega
      · omega
  · exact ⟨o, o', ho, by rw [if_neg e]; exact ho', hOR⟩

theorem wr_chan (hwr : WR F R v w) {cC s s' : Nat} {tm : Bool} (hc : w.heap[cC]? = some (.chan 0 #[] false s s tm)) : WR F R v (w.setChan cC 0 #[] false s' s' tm) := by
  refine ⟨fun b c hb => ?_, hwr.fn, hwr.inj⟩
  obtain ⟨o, o', ho, ho', hOR⟩ := hwr.obj b c hb
  have hlt := (Array.getElem?_eq_some_iff.1 hc).1
  by_cases e : cC = c
  · subst e
    rw [hc] at ho'
    simp only [Option.some.injEq] at ho'
    subst ho'
    cases hOR with
    | chan s1 s2 tm => exact ⟨_, _, ho, by simp [World.setChan, hlt], .chan s1 s' tm⟩
  · exact ⟨o, o', ho, by simp only [World.setChan, Array.getElem?_setIfInBounds_ne e]; exact ho', hOR⟩
end

/-! ### (2) -/
def blk : Loc → Nat
  | .cell a => a.block
  | .obj c => c
  | _ => 0

/-- What x may touch. -/
def OkT (g : Geo) (x : Nat) (a : Touch) : Prop :=
  g.Mine x (blk a.loc) ∨ (g.Seen x (blk a.loc) ∧ blk a.loc ≠ g.cO ∧ a.write = false) ∨ ∃ ad, a.loc = .cell ad ∧ ad.block = g.cO ∧ ad.off % g.n + 1 = x
/-- What is no hindrance to x. -/
def ApT (g : Geo) (x : Nat) (a : Touch) : Prop :=
  (blk a.loc ≠ g.cO ∧ ¬ g.Mine x (blk a.loc) ∧ (¬ g.Seen x (blk a.loc) ∨ a.write = false)) ∨ ∃ ad, a.loc = .cell ad ∧ ad.block = g.cO ∧ ad.off % g.n + 1 ≠ x

section
variable {g : Geo} {x y hs : Nat} {a b : Touch}

theorem apT_of_okT (hcO : g.Old g.cO) (h : OkT g y a) (hne : x ≠ y) : ApT g x a := by
  rcases h with h | ⟨h1, h2, h3⟩ | ⟨ad, h1, h2, h3⟩
  · refine .inl ⟨fun e => Geo.not_mine_old (by rw [e]; exact hcO) h, Geo.mine_ne h (Ne.symm hne), .inl fun hs => Geo.not_mine_seen hs h⟩
  · exact .inl ⟨h2, Geo.not_mine_seen h1, .inr h3⟩
  · exact .inr ⟨ad, h1, h2, fun e => hne (by omega)⟩

theorem apart_of (hcO : g.Old g.cO) (h : ApT g x a) (k : OkT g x b) (hl : a.loc = b.loc) : a.write = false ∧ b.write = false := by
  rcases h with ⟨h1, h2, h3⟩ | ⟨ad, h1, h2, h3⟩
  · rcases k with k | ⟨k1, k2, k3⟩ | ⟨ad, k1, k2, k3⟩
    · rw [hl] at h2; exact absurd k h2
    · rw [hl] at h3
      exact ⟨h3.resolve_left fun h => h k1, k3⟩
    · rw [hl, k1] at h1; exact absurd k2 h1
  · have e1 : blk b.loc = g.cO := by rw [← hl, h1]; exact h2
    rcases k with k | ⟨k1, k2, k3⟩ | ⟨ad2, k1, k2, k3⟩
    · rw [e1] at k; exact absurd k (Geo.not_mine_old hcO)
    · exact absurd e1 k2
    · rw [h1, k1] at hl
      simp only [Loc.cell.injEq] at hl
      subst hl
      exact absurd k3 h3

theorem okT_after (hlt : blk a.loc < hs) : OkT (g.after hs y) x a ↔ OkT g x a := by
  unfold OkT
  rw [Geo.mine_after hlt]
  exact Iff.rfl
theorem apT_after (hlt : blk a.loc < hs) : ApT (g.after hs y) x a ↔ ApT g x a := by
  unfold ApT
  rw [Geo.mine_after hlt]
  exact Iff.rfl
end

/-- What an entry of x's may be. -/
def EvOk (g : Geo) (x hs : Nat) (e : Event) : Prop := (∀ a, (MemAct.ofEvent e).touch? = some a → OkT g x a ∧ blk a.loc < hs) ∧ ∀ m, e.loc = .mark m → Neutral m

section
variable {F : FuncId → Prop} {R R1 : BR} {g : Geo} {x : Nat} {Ch : Nat → Prop} {u v v1 w w1 : World} {es : Array Event}

theorem ev_mark {e : Event} (h : EvR R v e) : ∀ m, e.loc = .mark m → Neutral m := by
  intro m hm
  rcases h with ⟨a, b, h1, _⟩ | ⟨b, c, h1, _⟩ | ⟨h1, _⟩
  · rw [h1] at hm; cases hm
  · rw [h1] at hm; cases hm
  · rw [h1] at hm; cases hm; rfl

theorem ev_ok (hl : Lay g x Ch R1 v1) (hwr : WR F R1 v1 w1) (hv : Veil Ch v1) (hcO : ∃ y el fz, w1.heap[g.cO]? = some (.cells y el fz)) {e : Event} (h : EvR R1 v1 e) : EvOk g x w1.heap.size e := by
  refine ⟨fun a ha => ?_, ev_mark h⟩
  obtain ⟨e1, e2⟩ := ofEvent_touch (ev_mark h) ha
  unfold OkT
  rw [e1, e2]
  rcases h with ⟨ad, b, h1, h2, h3, h4, h5⟩ | ⟨b, c, h1, h2, o, h3, h4, h5⟩ | ⟨h1, _⟩
  · rw [h1]
    refine ⟨?_, (hwr.lt h3).2⟩
    rcases hl b ad.block h3 with h | ⟨k1, k2, k3⟩
    · exact .inl h
    · refine .inr (.inl ⟨k1, fun e => k3 e ad.off h4, ?_⟩)
      cases hw : e.write with
      | false => rfl
      | true =>
        have hun := h5 hw
        rcases k2 with k2 | k2
        · exact absurd hun k2.not_un
        · obtain ⟨o, ho, hn, _⟩ := hv b k2
          exact absurd hun (not_un_non ho hn)
  · rw [h1]
    refine ⟨?_, (hwr.lt h2).2⟩
    rcases hl b c h2 with h | ⟨k1, k2, k3⟩
    · exact .inl h
    · refine .inr (.inl ⟨k1, fun e => ?_, ?_⟩)
      · obtain ⟨y, el, fz, hy⟩ := hcO
        obtain ⟨p, p', hp, hp', hOR⟩ := hwr.obj b c h2
        rw [h3] at hp
        simp only [Option.some.injEq] at hp
        subst hp
        have := hOR.notCells h4
        rw [show c = g.cO from e, hy] at hp'
        simp only [Option.some.injEq] at hp'
        subst hp'
        exact this trivial
      · cases hw : e.write with
        | false => rfl
        | true =>
          have hmap := h5 hw
          rcases k2 with k2 | k2
          · obtain ⟨y, el, fz, hy, _⟩ := k2
            rw [h3] at hy
            simp only [Option.some.injEq] at hy
            subst hy
            exact absurd trivial h4
          · obtain ⟨o2, ho2, _, hn⟩ := hv b k2
            rw [h3] at ho2
            simp only [Option.some.injEq] at ho2
            subst ho2
            exact absurd hmap hn
  · have : (MemAct.ofEvent e).touch? = none := by
      obtain ⟨loc, wr, sy⟩ := e
      simp only at h1
      subst h1
      simp [MemAct.ofEvent, MemAct.touch?]
    rw [this] at ha; cases ha
end

def gi (m x : Nat) : Nat := if x = 0 then 0 else m + x

/-- What is held of the trace while workers are about. -/
structure TrI (g : Geo) (m hs : Nat) (act : Nat → Prop) (t : Trace) : Prop where
  nr : ∀ said, ¬ Race said t
  wl : Wordless t
  k0 : ∀ i a, touchAt t i = some a → a.loc.isMemory = true → Knows t 0 i ∨ ∃ y op, 1 ≤ y ∧ act y ∧ t[i]? = some op ∧ op.g = m + y ∧ blk a.loc < hs ∧ OkT g y a
  kw : ∀ x, 1 ≤ x → act x → ∀ i a, touchAt t i = some a → a.loc.isMemory = true → Knows t (m + x) i ∨ (blk a.loc < hs ∧ ApT g x a)

section
variable {g : Geo} {m hs hs' x : Nat} {act : Nat → Prop} {t u : Trace}

theorem wordless_ofEvents {es : Array Event} {k : Nat} {fn : FuncId} {pos : String} (h : ∀ e ∈ es, ∀ m, e.loc = .mark m → Neutral m) : Wordless (MemOp.ofEvents k fn pos es) := by
  intro op hop
  obtain ⟨e, he, rfl⟩ := Conc.mem_ofEvents hop
  exact ofEvent_noMark (h e he)

theorem touchAt_app {i : Nat} {a : Touch} (h : touchAt (t ++ u) i = some a) : (∃ op, t[i]? = some op ∧ touchAt t i = some a) ∨ ∃ op, (t ++ u)[i]? = some op ∧ op ∈ u ∧ op.act.touch? = some a := by
  obtain ⟨op, hx, hxa⟩ := touch_of h
  rcases getElem?_append_cases hx with ⟨_, hx'⟩ | ⟨_, hu⟩
  · exact .inl ⟨op, hx', by rw [touchAt_of hx']; exact hxa⟩
  · exact .inr ⟨op, hx, hu, hxa⟩

/-- A step of x's own. -/
theorem TrI.own (h : TrI g m hs act t) (hcO : g.Old g.cO) (hle : hs ≤ hs') (hx : x = 0 ∨ (1 ≤ x ∧ act x)) (h0 : ¬ act 0) {fn : FuncId} {pos : String} {es : Array Event} (hes : ∀ e ∈ es, EvOk (g.after hs x) x hs' e) :
    TrI (g.after hs x) m hs' act (t ++ MemOp.ofEvents (gi m x) fn pos es) := by
  have hug : ∀ op ∈ MemOp.ofEvents (gi m x) fn pos es, op.g = gi m x := fun op hop => by obtain ⟨e, _, rfl⟩ := Conc.mem_ofEvents hop; rfl
  have hut : ∀ op ∈ MemOp.ofEvents (gi m x) fn pos es, ∀ b, op.act.touch? = some b → OkT (g.after hs x) x b ∧ blk b.loc < hs' := fun op hop b hb => by obtain ⟨e, he, rfl⟩ := Conc.mem_ofEvents hop; exact (hes e he).1 b hb
  have hkn : ∀ i a, touchAt t i = some a → a.loc.isMemory = true → Knows t (gi m x) i ∨ (blk a.loc < hs ∧ ApT g x a) := by
    intro i a ha hm
    rcases hx with rfl | ⟨h1, h2⟩
    · rcases h.k0 i a ha hm with hk | ⟨y, op, y1, _, _, _, hlt, hok⟩
      · exact .inl hk
      · exact .inr ⟨hlt, apT_of_okT hcO hok (by omega)⟩
    · rcases h.kw x h1 h2 i a ha hm with hk | hk
      · left; unfold gi; rw [if_neg (by omega)]; exact hk
      · exact .inr hk
  refine ⟨fun said => noRace_append (h.nr said) hug fun i a ha op hop b hb hc => ?_, h.wl.append (wordless_ofEvents fun e he => (hes e he).2), fun i a ha hm => ?_, fun y hy hya i a ha hm => ?_⟩
  · rcases hkn i a ha hc.2.1 with hk | ⟨hlt, hap⟩
    · exact hk
    · obtain ⟨f1, f2⟩ := apart_of (g := g.after hs x) hcO ((apT_after hlt).2 hap) (hut op hop b hb).1 hc.1
      rcases hc.2.2.1 with hw | hw
      · rw [f1] at hw; cases hw
      · rw [f2] at hw; cases hw
  · rcases touchAt_app ha with ⟨op, ho, ha'⟩ | ⟨op, ho, hou, hot⟩
    · rcases h.k0 i a ha' hm with hk | ⟨y, op, y1, y2, y3, y4, hlt, hok⟩
      · exact .inl (hk.app _)
      · exact .inr ⟨y, op, y1, y2, by rw [getElem?_append_old (lt_size_of_getElem? y3)]; exact y3, y4, Nat.lt_of_lt_of_le hlt hle, (okT_after hlt).2 hok⟩
    · rcases hx with rfl | ⟨h1, h2⟩
      · left
        have := knows_own ho
        rwa [hug op hou] at this
      · obtain ⟨k1, k2⟩ := hut op hou a hot
        exact .inr ⟨x, op, h1, h2, ho, by rw [hug op hou]; unfold gi; rw [if_neg (by omega)], k2, k1⟩
  · rcases touchAt_app ha with ⟨op, ho, ha'⟩ | ⟨op, ho, hou, hot⟩
    · rcases h.kw y hy hya i a ha' hm with hk | ⟨hlt, hk⟩
      · exact .inl (hk.app _)
      · exact .inr ⟨Nat.lt_of_lt_of_le hlt hle, (apT_after hlt).2 hk⟩
    · by_cases e : y = x
      · subst e
        left
        have := knows_own ho
        have e2 : op.g = m + y := by rw [hug op hou]; unfold gi; rw [if_neg (by omega)]
        rwa [e2] at this
      · obtain ⟨k1, k2⟩ := hut op hou a hot
        exact .inr ⟨k2, apT_of_okT (g := g.after hs x) hcO k1 e⟩

/-- Operations that touch nothing. -/
theorem noRace_mute {said : Bool} (h : ¬ Race said t) (hn : ∀ op ∈ u, op.act.touch? = none) : ¬ Race said (t ++ u) := by
  rintro ⟨i, j, hij, ⟨a, b, ha, hb, hc⟩, n1, n2⟩
  rcases touchAt_app (t := t) (u := u) ha with ⟨x, hx, ha'⟩ | ⟨x, _, hxu, hxt⟩
  · rcases touchAt_app (t := t) (u := u) hb with ⟨y, hy, hb'⟩ | ⟨y, _, hyu, hyt⟩
    · exact h ⟨i, j, hij, ⟨a, b, ha', hb', hc⟩, fun e => n1 (hb_app u e), fun e => n2 (hb_app u e)⟩
    · rw [hn y hyu] at hyt; cases hyt
  · rw [hn x hxu] at hxt; cases hxt

theorem TrI.mute (h : TrI g m hs act t) (hn : ∀ op ∈ u, op.act.touch? = none) (hw : Wordless u) : TrI g m hs act (t ++ u) := by
  refine ⟨fun said => noRace_mute (h.nr said) hn, h.wl.append hw, fun i a ha hm => ?_, fun y hy hya i a ha hm => ?_⟩
  · rcases touchAt_app ha with ⟨op, ho, ha'⟩ | ⟨op, ho, hou, hot⟩
    · rcases h.k0 i a ha' hm with hk | ⟨y, op, y1, y2, y3, y4, hlt, hok⟩
      · exact .inl (hk.app _)
      · exact .inr ⟨y, op, y1, y2, by rw [getElem?_append_old (lt_size_of_getElem? y3)]; exact y3, y4, hlt, hok⟩
    · rw [hn op hou] at hot; cases hot
  · rcases touchAt_app ha with ⟨op, ho, ha'⟩ | ⟨op, ho, hou, hot⟩
    · exact (h.kw y hy hya i a ha' hm).imp (·.app _) id
    · rw [hn op hou] at hot; cases hot

/-- A worker is started. -/
theorem TrI.spawn (h : TrI g m hs act t) (hG : g.Ok hs) {c : Nat} (hc0 : g.own c = 0) (hcb : ¬ g.Box c) (hlow : ∀ y, act y → y ≤ g.j) {xo yo : MemOp} (hxo : xo.g = 0 ∧ xo.act = .go (m + (g.j + 1))) (hyo : yo.g = m + (g.j + 1) ∧ yo.act = .start) :
    TrI (g.spawned c) m hs (fun y => act y ∨ y = g.j + 1) (t ++ #[xo, yo]) := by
  have hn : ∀ op ∈ #[xo, yo], op.act.touch? = none := by
    intro op hop
    simp only [List.mem_toArray, List.mem_cons, List.not_mem_nil, or_false] at hop
    rcases hop with rfl | rfl
    · rw [hxo.2]; rfl
    · rw [hyo.2]; rfl
  have hw : Wordless #[xo, yo] := by
    intro op hop mm hm
    simp only [List.mem_toArray, List.mem_cons, List.not_mem_nil, or_false] at hop
    rcases hop with rfl | rfl
    · rw [hxo.2] at hm; cases hm
    · rw [hyo.2] at hm; cases hm
  have h2 := h.mute hn hw
  have boxS : ∀ {z : Nat}, g.Box z → (g.spawned c).Box z := fun ⟨y, a1, a2, a3⟩ => ⟨y, a1, Nat.le_succ_of_le a2, by simp only [Geo.spawned]; rw [if_neg (by omega)]; exact a3⟩
  have boxB : ∀ {z : Nat}, (g.spawned c).Box z → g.Box z ∨ z = c := fun {z} ⟨y, a1, a2, a3⟩ => by
    simp only [Geo.spawned] at a2 a3
    by_cases e : y = g.j + 1
    · rw [if_pos e] at a3; exact .inr a3
    · rw [if_neg e] at a3; exact .inl ⟨y, a1, by omega, a3⟩
  have mineS : ∀ {y z : Nat}, 1 ≤ y → ((g.spawned c).Mine y z ↔ g.Mine y z) := fun {y z} hy => by
    constructor
    · rintro ⟨a1, a2, a3⟩; exact ⟨a1, a2, fun b => a3 (boxS b)⟩
    · rintro ⟨a1, a2, a3⟩
      refine ⟨a1, a2, fun b => ?_⟩
      rcases boxB b with b | rfl
      · exact a3 b
      · have : g.own z = y := a2
        omega
  have seenS : ∀ {y z : Nat}, 1 ≤ y → y ≤ g.j → (g.Seen y z ↔ (g.spawned c).Seen y z) := fun {y z} h1 h2 => by
    have eb : (g.spawned c).box y = g.box y := by simp only [Geo.spawned]; rw [if_neg (by omega)]
    constructor
    · rintro (a | ⟨a, b⟩)
      · exact .inl a
      · exact .inr ⟨boxS a, by rw [eb]; exact b⟩
    · rintro (a | ⟨a, b⟩)
      · exact .inl a
      · rw [eb] at b
        have : z = g.box y := b.resolve_left (by omega)
        exact .inr ⟨⟨y, h1, h2, this⟩, .inr this⟩
  have okS : ∀ {y : Nat} {a : Touch}, 1 ≤ y → y ≤ g.j → OkT g y a → OkT (g.spawned c) y a := fun {y a} h1 h2 h => by
    rcases h with h | ⟨a1, a2, a3⟩ | h
    · exact .inl ((mineS h1).2 h)
    · exact .inr (.inl ⟨(seenS h1 h2).1 a1, a2, a3⟩)
    · exact .inr (.inr h)
  have d0 : Deaf t 0 = 0 := h.wl.deaf 0 t.size
  have dk : Deaf t (m + (g.j + 1)) = 0 := h.wl.deaf _ t.size
  refine ⟨h2.nr, h2.wl, fun i a ha hm => ?_, fun y hy hya i a ha hm => ?_⟩
  · rcases h2.k0 i a ha hm with hk | ⟨y, op, y1, y2, y3, y4, hlt, hok⟩
    · exact .inl hk
    · exact .inr ⟨y, op, y1, .inl y2, y3, y4, hlt, okS y1 (hlow y y2) hok⟩
  · rcases hya with hya | rfl
    · refine (h2.kw y hy hya i a ha hm).imp id fun ⟨hlt, hap⟩ => ⟨hlt, ?_⟩
      rcases hap with ⟨a1, a2, a3⟩ | hap
      · refine .inl ⟨a1, fun z => a2 ((mineS hy).1 z), a3.imp (fun z1 z2 => z1 ((seenS hy (hlow y hya)).2 z2)) id⟩
      · exact .inr hap
    · rcases touchAt_app ha with ⟨op, ho, ha'⟩ | ⟨op, ho, hou, hot⟩
      · rcases h.k0 i a ha' hm with hk | ⟨y, op, y1, y2, y3, y4, hlt, hok⟩
        · exact .inl (ConcN.fork_knows hxo hyo d0 dk hk)
        · right
          refine ⟨hlt, apT_of_okT (g := g.spawned c) hG.cO (okS y1 (hlow y y2) hok) ?_⟩
          have := hlow y y2
          omega
      · rw [hn op hou] at hot; cases hot

/-- A worker is joined: its send is received. -/
theorem TrI.join (h : TrI g m hs act t) {y cC s cap : Nat} {o1 o2 o3 o4 : MemOp} (hu : (o1.g = m + y ∧ o1.act = .send cC s) ∧ (o2.g = 0 ∧ o2.act = .recv cC s cap) ∧ (o3.g = m + y ∧ o3.act = .sendDone cC s) ∧ (o4.g = 0 ∧ o4.act = .recvDone cC s)) :
    TrI g m hs (fun z => act z ∧ z ≠ y) (t ++ #[o1, o2, o3, o4]) := by
  obtain ⟨⟨g1, a1⟩, ⟨g2, a2⟩, ⟨g3, a3⟩, ⟨g4, a4⟩⟩ := hu
  have hn : ∀ op ∈ #[o1, o2, o3, o4], op.act.touch? = none := by
    intro op hop
    simp only [List.mem_toArray, List.mem_cons, List.not_mem_nil, or_false] at hop
    rcases hop with rfl | rfl | rfl | rfl
    · rw [a1]; rfl
    · rw [a2]; rfl
    · rw [a3]; rfl
    · rw [a4]; rfl
  have hw : Wordless #[o1, o2, o3, o4] := by
    intro op hop mm hm
    simp only [List.mem_toArray, List.mem_cons, List.not_mem_nil, or_false] at hop
    rcases hop with rfl | rfl | rfl | rfl
    · rw [a1] at hm; cases hm
    · rw [a2] at hm; cases hm
    · rw [a3] at hm; cases hm
    · rw [a4] at hm; cases hm
  have h2 := h.mute hn hw
  have p1 : (t ++ #[o1, o2, o3, o4])[t.size]? = some o1 := by rw [Array.getElem?_append_right (Nat.le_refl _)]; simp
  have p4 : (t ++ #[o1, o2, o3, o4])[t.size + 3]? = some o4 := by rw [Array.getElem?_append_right (by omega)]; simp
  have edge : HappensBefore (t ++ #[o1, o2, o3, o4]) t.size (t.size + 3) := .single (.inr ⟨.handOver (c := cC) (k := s) (by rw [act?_of p1, a1]) (by rw [act?_of p4, a4]), h2.wl.heard p1, h2.wl.heard p4⟩)
  refine ⟨h2.nr, h2.wl, fun i a ha hm => ?_, fun z hz hza i a ha hm => h2.kw z hz hza.1 i a ha hm⟩
  rcases h2.k0 i a ha hm with hk | ⟨z, op, z1, z2, z3, z4, hlt, hok⟩
  · exact .inl hk
  · by_cases e : z = y
    · subst e
      left
      refine ⟨t.size + 3, o4, p4, g4, .inr ?_⟩
      rcases touchAt_app ha with ⟨op', ho, ha'⟩ | ⟨op', ho, hou, hot⟩
      · have : i < t.size := lt_size_of_getElem? ho
        exact (hb_po this z3 p1 (by rw [z4, g1])).trans edge
      · rw [hn op' hou] at hot; cases hot
    · exact .inr ⟨z, op, z1, ⟨z2, e⟩, z3, z4, hlt, hok⟩
end
end Go.Proofs.Ytneclhkpgalnlaa.Sm
