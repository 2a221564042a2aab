/-
  THE SIMULATION: 'Way': a goroutine on its way to a stop, in company: along a well-founded tree, with no count; and THE SPLICE: a stretch that a lone virtual machine walks to its stop ON EVERY TAPE gives such a way to every real goroutine that follows it.
-/
import Derived.Test.YtmfglflahlddbaaSmZc
import Derived.Conc.Beside
import Derived.Conc.CrowdComm
import Derived.Conc.CrowdTrace
import Derived.Conc.Own4
import Derived.Conc.Pipeline3
namespace Go.Proofs.Ytmfglflahlddbaa.Sm
open Go Go.Conc
set_option linter.unusedVariables false
set_option linter.unusedSimpArgs false

inductive Tree where
  | leaf
  | node (f : World → Tree)

inductive Tree.Lt : Tree → Tree → Prop
  | mk (f : World → Tree) (w : World) : Tree.Lt (f w) (.node f)

theorem Tree.wf : WellFounded Tree.Lt := ⟨fun t => by
  induction t with
  | leaf => exact ⟨_, fun y hy => by cases hy⟩
  | node f ih => exact ⟨_, fun y hy => by cases hy; exact ih _⟩⟩

/-- A virtual goroutine and the real one that follows it. -/
structure St where
  R : BR
  v : World
  fr : Frame
  fr' : Frame
  up : List Frame
  up' : List Frame

def St.ok (P : Program) (Fs : FuncId → Bool) (s : St) : Prop := FR P Fs s.R s.fr s.fr' ∧ CsR P Fs s.R s.up s.up'
def St.vm (s : St) (T : Tape) : Machine := lone s.fr (s.up ++ [trap]) (rt s.v T s.v.drawn)

abbrev VStop := Frame → List Frame → World → Prop
def St.at (s : St) (Q : VStop) : Prop := ∃ T d, Q s.fr s.up (rt s.v T d)

/-- One step, followed. -/
structure Nx (P : Program) (Fs : FuncId → Bool) (main : Bool) (bs : List Frame) (Ch : Nat → Prop) (s s1 : St) (w w1 : World) (es : Array Event) : Prop where
  step : stepG P main (G s.fr' (s.up' ++ bs)) w = .go (G s1.fr' (s1.up' ++ bs)) w1 es
  st : ∃ u : World, u.heap = s.v.heap ∧ Stretch (FFs Fs) s.R s1.R u s1.v w w1 es
  ok : s1.ok P Fs
  ch : ∀ b, Ch b → s1.v.heap[b]? = s.v.heap[b]?

def Way (P : Program) (Fs : FuncId → Bool) (main : Bool) (bs : List Frame) (Ch : Nat → Prop) (Q : VStop) : Tree → St → Prop
  | .leaf, s => s.at Q
  | .node f, s => s.at Q ∨ ∀ w, WR (FFs Fs) s.R s.v w → ∃ s1 w1 es, Nx P Fs main bs Ch s s1 w w1 es ∧ Way P Fs main bs Ch Q (f w) s1

/-- On every tape the lone virtual machine comes to the stop. -/
def Ends (P : Program) (Ch : Nat → Prop) (Q : VStop) (s : St) : Prop := ∀ T : Tape, ∃ T2 : Tape, (∀ n q, s.v.drawn ≤ n → T2 n q = T n q) ∧
  ∃ n frS upS vS, runN P n (s.vm T2) = .next (lone frS (upS ++ [trap]) vS) ∧ OkFr frS ∧ Q frS upS vS ∧ ∀ b o, Ch b → vS.heap[b]? = some o → ¬ IsMap o

section
variable {P : Program} {Fs : FuncId → Bool} {main : Bool} {bs : List Frame} {Ch : Nat → Prop} {Q : VStop}

theorem agr_on {F : FuncId → Prop} {R R1 : BR} {v v1 w w1 : World} {es : Array Event} (h : Stretch F R R1 v v1 w w1 es) (hag : ∀ n, Agr v w n) : ∀ n, Agr v1 w1 n := by
  intro n j q hj
  have h1 := h.le
  have h2 := h.count
  have := hag (v1.drawn - v.drawn + j + 1) (v1.drawn - v.drawn + j) q (by omega)
  rw [h.tape, h.tape']
  have e1 : w1.drawn + j = w.drawn + (v1.drawn - v.drawn + j) := by omega
  have e2 : v1.drawn + j = v.drawn + (v1.drawn - v.drawn + j) := by omega
  rw [e1, e2]; exact this

theorem keep_run (hP : OkProg P Fs) : ∀ (n : Nat) (s : St) (w : World), s.ok P Fs → WR (FFs Fs) s.R s.v w → (∀ n, Agr s.v w n) → ∀ (frS : Frame) (upS : List Frame) (vS : World),
    runN P n (lone s.fr (s.up ++ [trap]) s.v) = .next (lone frS (upS ++ [trap]) vS) → OkFr frS → KeepV s.v vS := by
  intro n
  induction n with
  | zero =>
    intro s w _ _ _ frS upS vS h _
    simp only [runN, Stepped.next.injEq] at h
    obtain ⟨_, _, e⟩ := lone_frame h
    rw [e]; exact .refl _
  | succ n ih =>
    intro s w hok hw hag frS upS vS h hS
    rcases step_sim hP (main := true) (bs := []) hok.1 hok.2 hw hag with hd | hf
    · exact absurd ⟨frS, upS, vS, rfl, hS⟩ (hd n _ h)
    · obtain ⟨fr1, up1, v1, R1, fr1', up1', w1, es, h1, _, hst, hfr, hcs, _⟩ := hf.ex
      simp only [runN, h1] at h
      exact hst.keepV.trans (ih ⟨R1, v1, fr1, fr1', up1, up1'⟩ w1 ⟨hfr, hcs⟩ hst.wr (agr_on hst hag) frS upS vS h hS)

def Bad (P : Program) (Fs : FuncId → Bool) (main : Bool) (bs : List Frame) (Ch : Nat → Prop) (Q : VStop) (s : St) : Prop :=
  s.ok P Fs ∧ Ends P Ch Q s ∧ (∀ b, Ch b → ∃ o, s.v.heap[b]? = some o ∧ ¬ IsCells o ∧ ¬ IsMap o) ∧ ¬ ∃ t, Way P Fs main bs Ch Q t s

theorem vm_at {s : St} {T : Tape} {frS : Frame} {upS : List Frame} {vS : World} (h : s.vm T = lone frS (upS ++ [trap]) vS) (hq : Q frS upS vS) : s.at Q := by
  obtain ⟨e1, e2, e3⟩ := lone_frame h
  have e4 : s.up = upS := List.append_cancel_right e2
  exact ⟨T, s.v.drawn, by rw [e1, e4, e3]; exact hq⟩

theorem bad_next (hP : OkProg P Fs) {s : St} (hb : Bad P Fs main bs Ch Q s) :
    ∃ s1, Bad P Fs main bs Ch Q s1 ∧ s.v.drawn ≤ s1.v.drawn ∧ ∀ T : Tape, (∀ n q, s.v.drawn ≤ n → n < s1.v.drawn → T n q = s1.v.tape n q) → step P (s.vm T) = .next (s1.vm T) := by
  obtain ⟨hok, hends, hch, hno⟩ := hb
  have hnat : ¬ s.at Q := fun h => hno ⟨.leaf, h⟩
  have hw : ∃ w, WR (FFs Fs) s.R s.v w ∧ ∀ s1 w1 es, Nx P Fs main bs Ch s s1 w w1 es → ¬ ∃ t, Way P Fs main bs Ch Q t s1 := by
    refine Classical.byContradiction fun hc => hno ?_
    have H : ∀ w, ∃ t, WR (FFs Fs) s.R s.v w → ∃ s1 w1 es, Nx P Fs main bs Ch s s1 w w1 es ∧ Way P Fs main bs Ch Q t s1 := by
      intro w
      refine Classical.byCases (p := WR (FFs Fs) s.R s.v w) (fun hw => ?_) fun hw => ⟨.leaf, fun h => absurd h hw⟩
      refine Classical.byContradiction fun h2 => hc ⟨w, hw, fun s1 w1 es hn ⟨t, ht⟩ => h2 ⟨t, fun _ => ⟨s1, w1, es, hn, ht⟩⟩⟩
    obtain ⟨f, hf⟩ := Classical.axiomOfChoice H
    exact ⟨.node f, .inr hf⟩
  obtain ⟨w, hw, hnone⟩ := hw
  obtain ⟨T2, hT2, n, frS, upS, vS, hrun, hS, hQ, hmap⟩ := hends fun n q => w.tape (w.drawn + (n - s.v.drawn)) q
  cases n with
  | zero =>
    simp only [runN, Stepped.next.injEq] at hrun
    exact absurd (vm_at hrun hQ) hnat
  | succ m =>
    have hag : ∀ n, Agr (rt s.v T2 s.v.drawn) w n := by
      intro n j q hj
      show _ = T2 (s.v.drawn + j) q
      rw [hT2 _ _ (Nat.le_add_right _ _)]
      congr 2; omega
    rcases step_sim hP (main := main) (bs := bs) hok.1 hok.2 (hw.rtv T2 s.v.drawn) hag with hd | hf
    · exact absurd ⟨frS, upS, vS, rfl, hS⟩ (hd m _ hrun)
    · obtain ⟨fr1, up1, v1, R1, fr1', up1', w1, es, h1, h2, hst, hfr, hcs, hloc⟩ := hf.ex
      have hle : s.v.drawn ≤ v1.drawn := hst.le
      have htape : v1.tape = T2 := hst.tape
      have hrun2 : runN P m (lone fr1 (up1 ++ [trap]) v1) = .next (lone frS (upS ++ [trap]) vS) := by
        have : runN P (m + 1) (s.vm T2) = runN P m (lone fr1 (up1 ++ [trap]) v1) := by simp only [runN, St.vm, h1]
        rw [← this]; exact hrun
      have hkeep := keep_run hP m ⟨R1, v1, fr1, fr1', up1, up1'⟩ w1 ⟨hfr, hcs⟩ hst.wr (agr_on hst hag) frS upS vS hrun2 hS
      have hch1 : ∀ b, Ch b → v1.heap[b]? = s.v.heap[b]? := by
        intro b hb
        obtain ⟨o, ho, hn1, hn2⟩ := hch b hb
        obtain ⟨o1, a1, a2, a3⟩ := hst.keepV.non b o ho hn1
        rcases a3 with rfl | a3
        · rw [a1, ho]
        · obtain ⟨o2, b1, b2⟩ := hkeep.map a1 a3
          exact absurd b2 (hmap b o2 hb b1)
      have hlocal : ∀ T : Tape, (∀ n q, s.v.drawn ≤ n → n < v1.drawn → T n q = v1.tape n q) → step P (s.vm T) = .next (lone fr1 (up1 ++ [trap]) (rt v1 T v1.drawn)) := by
        intro T hT
        have := hloc T s.v.drawn (fun j q hj => by
          rw [show (rt s.v T2 s.v.drawn).tape = T2 from rfl, show (rt s.v T2 s.v.drawn).drawn = s.v.drawn from rfl, ← htape]
          have hj' : j < v1.drawn - s.v.drawn := hj
          exact hT (s.v.drawn + j) q (by omega) (by omega))
        have e : s.v.drawn + (v1.drawn - (rt s.v T2 s.v.drawn).drawn) = v1.drawn := by
          show s.v.drawn + (v1.drawn - s.v.drawn) = _
          omega
        rw [e] at this
        exact this
      refine ⟨⟨R1, v1, fr1, fr1', up1, up1'⟩, ⟨⟨hfr, hcs⟩, ?_, fun b hb => ?_, ?_⟩, hle, hlocal⟩
      · intro T'
        obtain ⟨T3, hT3, n3, frS3, upS3, vS3, hrun3, hS3, hQ3, hmap3⟩ := hends fun n q => if n < v1.drawn then T2 n q else T' n q
        refine ⟨T3, fun n q hn => ?_, ?_⟩
        · have hn' : v1.drawn ≤ n := hn
          rw [hT3 n q (by omega)]
          simp only [Nat.not_lt.2 hn', if_false]
        · cases n3 with
          | zero =>
            simp only [runN, Stepped.next.injEq] at hrun3
            exact absurd (vm_at hrun3 hQ3) hnat
          | succ n3 =>
            have hs := hlocal T3 (fun n q h1 h2 => by rw [hT3 n q h1, htape]; simp only [h2, if_true])
            refine ⟨n3, frS3, upS3, vS3, ?_, hS3, hQ3, hmap3⟩
            have : runN P (n3 + 1) (s.vm T3) = runN P n3 (lone fr1 (up1 ++ [trap]) (rt v1 T3 v1.drawn)) := by simp only [runN, hs]
            exact this.symm.trans hrun3
      · obtain ⟨o, ho, hn1, hn2⟩ := hch b hb
        exact ⟨o, by rw [hch1 b hb]; exact ho, hn1, hn2⟩
      · exact hnone ⟨R1, v1, fr1, fr1', up1, up1'⟩ w1 es ⟨h2, ⟨rt s.v T2 s.v.drawn, rfl, hst⟩, ⟨hfr, hcs⟩, hch1⟩

/-- ████ THE SPLICE ████ -/
theorem way_of_ends (hP : OkProg P Fs) {s : St} (hok : s.ok P Fs) (hends : Ends P Ch Q s) (hch : ∀ b, Ch b → ∃ o, s.v.heap[b]? = some o ∧ ¬ IsCells o ∧ ¬ IsMap o) : ∃ t, Way P Fs main bs Ch Q t s := by
  refine Classical.byContradiction fun hno => ?_
  have hb : Bad P Fs main bs Ch Q s := ⟨hok, hends, hch, hno⟩
  have H : ∀ x : { s : St // Bad P Fs main bs Ch Q s }, ∃ y : { s : St // Bad P Fs main bs Ch Q s }, x.1.v.drawn ≤ y.1.v.drawn ∧ ∀ T : Tape, (∀ n q, x.1.v.drawn ≤ n → n < y.1.v.drawn → T n q = y.1.v.tape n q) → step P (x.1.vm T) = .next (y.1.vm T) := fun x =>
    let ⟨s1, h1, h2⟩ := bad_next hP x.2; ⟨⟨s1, h1⟩, h2⟩
  obtain ⟨nx, hnx⟩ := Classical.axiomOfChoice H
  let c : Nat → { s : St // Bad P Fs main bs Ch Q s } := fun n => Nat.rec ⟨s, hb⟩ (fun _ x => nx x) n
  have c0 : c 0 = ⟨s, hb⟩ := rfl
  have cs : ∀ i, c (i + 1) = nx (c i) := fun _ => rfl
  have mono1 : ∀ i, (c i).1.v.drawn ≤ (c (i + 1)).1.v.drawn := fun i => by rw [cs]; exact (hnx (c i)).1
  have mono : ∀ i j, i ≤ j → (c i).1.v.drawn ≤ (c j).1.v.drawn := by
    intro i j h
    induction j with
    | zero => rw [Nat.le_zero.1 h]; exact Nat.le_refl _
    | succ j ih =>
      rcases Nat.lt_or_ge i (j + 1) with h1 | h1
      · exact Nat.le_trans (ih (by omega)) (mono1 j)
      · rw [show i = j + 1 by omega]; exact Nat.le_refl _
  have hT : ∃ T : Tape, ∀ i n q, (c i).1.v.drawn ≤ n → n < (c (i + 1)).1.v.drawn → T n q = (c (i + 1)).1.v.tape n q := by
    have HT : ∀ n, ∃ f : Question → Nat, ∀ i q, (c i).1.v.drawn ≤ n → n < (c (i + 1)).1.v.drawn → f q = (c (i + 1)).1.v.tape n q := by
      intro n
      refine Classical.byCases (p := ∃ i, (c i).1.v.drawn ≤ n ∧ n < (c (i + 1)).1.v.drawn) (fun ⟨i, h1, h2⟩ => ?_) fun h => ⟨fun _ => 0, fun i q h1 h2 => absurd ⟨i, h1, h2⟩ h⟩
      refine ⟨fun q => (c (i + 1)).1.v.tape n q, fun j q g1 g2 => ?_⟩
      have e : i = j := by
        rcases Nat.lt_trichotomy i j with h | h | h
        · have := mono (i + 1) j (by omega); omega
        · exact h
        · have := mono (j + 1) i (by omega); omega
      rw [e]
    obtain ⟨T, hT⟩ := Classical.axiomOfChoice HT
    exact ⟨T, fun i n q h1 h2 => hT n i q h1 h2⟩
  obtain ⟨T, hT⟩ := hT
  obtain ⟨T2, hT2, n, frS, upS, vS, hrun, hS, hQ, _⟩ := hends T
  have chain : ∀ i, runN P i (s.vm T2) = .next ((c i).1.vm T2) := by
    intro i
    induction i with
    | zero => rfl
    | succ i ih =>
      rw [runN_add, ih]
      have hle : s.v.drawn ≤ (c i).1.v.drawn := mono 0 i (Nat.zero_le _)
      have := (hnx (c i)).2 T2 (fun n q h1 h2 => by rw [hT2 n q (by omega)]; exact hT i n q h1 h2)
      simp only [runN, this, cs]
  rw [chain n] at hrun
  simp only [Stepped.next.injEq] at hrun
  exact (c n).2.2.2.2 ⟨.leaf, vm_at hrun hQ⟩

theorem ends_of_steps {s : St} (h : ∀ T, ∃ frS upS vS, Steps P (s.vm T) (lone frS (upS ++ [trap]) vS) ∧ OkFr frS ∧ Q frS upS vS ∧ ∀ b o, Ch b → vS.heap[b]? = some o → ¬ IsMap o) : Ends P Ch Q s := fun T =>
  let ⟨frS, upS, vS, ⟨n, hn⟩, h1, h2, h3⟩ := h T
  ⟨T, fun _ _ _ => rfl, n, frS, upS, vS, hn, h1, h2, h3⟩
end
end Go.Proofs.Ytmfglflahlddbaa.Sm
namespace Go.Proofs.Ytmfglflahlddbaa.Sm
open Go Go.Conc
set_option linter.unusedVariables false
set_option linter.unusedSimpArgs false

/-! ### (1) -/
/-- Old: blocks that were there, and are not goroutine 0's own, when the first worker was started; cO: the row that the workers write; own: who made a block since; box x: the box that holds worker x's number; j: so many are started. -/
structure Geo where
  Old : Nat → Prop
  cO : Nat
  n : Nat
  own : Nat → Nat
  box : Nat → Nat
  j : Nat

namespace Geo
def Box (g : Geo) (c : Nat) : Prop := ∃ x, 1 ≤ x ∧ x ≤ g.j ∧ c = g.box x
def Mine (g : Geo) (x c : Nat) : Prop := ¬ g.Old c ∧ g.own c = x ∧ ¬ g.Box c
def Seen (g : Geo) (x c : Nat) : Prop := g.Old c ∨ (g.Box c ∧ (x = 0 ∨ c = g.box x))
def after (g : Geo) (hs x : Nat) : Geo := { g with own := fun c => if c < hs then g.own c else x }
def spawned (g : Geo) (c : Nat) : Geo := { g with j := g.j + 1, box := fun x => if x = g.j + 1 then c else g.box x }

structure Ok (g : Geo) (hs : Nat) : Prop where
  h0 : ∀ c, g.Old c → c < hs
  cO : g.Old g.cO
  box : ∀ x, 1 ≤ x → x ≤ g.j → ¬ g.Old (g.box x) ∧ g.box x < hs ∧ g.own (g.box x) = 0
  inj : ∀ x y, 1 ≤ x → x ≤ g.j → 1 ≤ y → y ≤ g.j → g.box x = g.box y → x = y

theorem box_after {g : Geo} {hs x c : Nat} : (g.after hs x).Box c ↔ g.Box c := Iff.rfl
theorem seen_after {g : Geo} {hs x y c : Nat} : (g.after hs x).Seen y c ↔ g.Seen y c := Iff.rfl
theorem mine_after {g : Geo} {hs x y c : Nat} (h : c < hs) : (g.after hs x).Mine y c ↔ g.Mine y c := by
  unfold Mine after
  simp only [h, if_true]
  exact Iff.rfl
theorem mine_new {g : Geo} {hs x c : Nat} (hG : g.Ok hs) (h : hs ≤ c) : (g.after hs x).Mine x c := by
  refine ⟨fun ho => by have := hG.h0 c ho; omega, by simp only [after, Nat.not_lt.2 h, if_false], ?_⟩
  rintro ⟨y, h1, h2, rfl⟩
  have := (hG.box y h1 h2).2.1
  simp only [after] at h
  omega
theorem Ok.after {g : Geo} {hs hs' x : Nat} (hG : g.Ok hs) (h : hs ≤ hs') : (g.after hs x).Ok hs' := by
  refine ⟨fun c ho => Nat.lt_of_lt_of_le (hG.h0 c ho) h, hG.cO, fun y h1 h2 => ?_, hG.inj⟩
  obtain ⟨a, b, c⟩ := hG.box y h1 h2
  refine ⟨a, Nat.lt_of_lt_of_le b h, ?_⟩
  simp only [Geo.after, b, if_true]
  exact c
theorem not_mine_old {g : Geo} {x c : Nat} (h : g.Old c) : ¬ g.Mine x c := fun m => m.1 h
theorem not_mine_seen {g : Geo} {x y c : Nat} (h : g.Seen y c) : ¬ g.Mine x c := by
  rcases h with h | ⟨h, _⟩
  · exact not_mine_old h
  · exact fun m => m.2.2 h
theorem mine_ne {g : Geo} {x y c : Nat} (h : g.Mine x c) (hne : x ≠ y) : ¬ g.Mine y c := fun m => hne (h.2.1.symm.trans m.2.1)
end Geo

theorem WR.heap {F : FuncId → Prop} {R : BR} {u v w : World} (h : u.heap = v.heap) (x : WR F R v w) : WR F R u w :=
  ⟨fun b c hb => by rw [h]; exact x.obj b c hb, x.fn, x.inj⟩
theorem WR.heap' {F : FuncId → Prop} {R : BR} {v w w1 : World} (h : w1.heap = w.heap) (x : WR F R v w) : WR F R v w1 :=
  ⟨fun b c hb => by rw [h]; exact x.obj b c hb, x.fn, x.inj⟩

theorem KeepV.cl_old {w w1 : World} (h : KeepV w w1) {b j : Nat} (hb : b < w.heap.size) (hu : Cl w1 b j) : Cl w b j := by
  obtain ⟨c1, el, fz, h1, h2⟩ := hu
  have hw : w.heap[b]? = some w.heap[b] := by simp [hb]
  cases ho : w.heap[b] with
  | cells c el' fz' =>
    rw [ho] at hw
    obtain ⟨c2, a1, a2, _⟩ := h.cells b c el' fz' hw
    rw [h1] at a1
    obtain ⟨rfl, rfl, rfl⟩ : c1 = c2 ∧ el = el' ∧ fz = fz' := by simpa using a1
    exact ⟨c, el, fz, hw, a2 ▸ h2⟩
  | _ =>
    obtain ⟨o1, a1, a2, _⟩ := h.non b _ hw (by rw [ho]; simp [IsCells])
    rw [h1] at a1
    simp only [Option.some.injEq] at a1
    subst a1
    exact absurd trivial a2

theorem RO.not_un {w : World} {b j : Nat} (h : RO w b) : ¬ Un w b j := by
  rintro ⟨c, el, fz, h1, h2, h3⟩
  obtain ⟨c', el', fz', g1, g2⟩ := h
  rw [h1] at g1
  simp only [Option.some.injEq, Obj.cells.injEq] at g1
  obtain ⟨rfl, rfl, rfl⟩ := g1
  exact h3 (g2 j h2)
theorem not_un_non {w : World} {b j : Nat} {o : Obj} (h : w.heap[b]? = some o) (hn : ¬ IsCells o) : ¬ Un w b j := by
  rintro ⟨c, el, fz, h1, _⟩
  rw [h] at h1
  simp only [Option.some.injEq] at h1
  subst h1
  exact hn trivial
theorem not_cl_non {w : World} {b j : Nat} {o : Obj} (h : w.heap[b]? = some o) (hn : ¬ IsCells o) : ¬ Cl w b j := by
  rintro ⟨c, el, fz, h1, _⟩
  rw [h] at h1
  simp only [Option.some.injEq] at h1
  subst h1
  exact hn trivial

/-- How the blocks that agent x may come to lie. -/
def Lay (g : Geo) (x : Nat) (Ch : Nat → Prop) (R : BR) (v : World) : Prop :=
  ∀ b c, R b c → g.Mine x c ∨ (g.Seen x c ∧ (RO v b ∨ Ch b) ∧ (c = g.cO → ∀ off, ¬ Cl v b off))

/-- What x's step does to the real world. -/
structure Eff (g : Geo) (x : Nat) (w w1 : World) : Prop where
  size : w.heap.size ≤ w1.heap.size
  same : ∀ c, c < w.heap.size → ¬ g.Mine x c → w1.heap[c]? = w.heap[c]?
  tape : w1.tape = w.tape
  os : w1.os = w.os
  out : w1.output = w.output

def Veil (Ch : Nat → Prop) (v : World) : Prop := ∀ b, Ch b → ∃ o, v.heap[b]? = some o ∧ ¬ IsCells o ∧ ¬ IsMap o

section
variable {F : FuncId → Prop} {R R1 : BR} {g : Geo} {x : Nat} {Ch : Nat → Prop} {u v v1 w w1 : World} {es : Array Event}

theorem lay_eff (hG : g.Ok w.heap.size) (hu : u.heap = v.heap) (hwr : WR F R v w) (hst : Stretch F R R1 u v1 w w1 es) (hl : Lay g x Ch R v) (hv : Veil Ch v) (hk : ∀ b, Ch b → v1.heap[b]? = v.heap[b]?) : Eff g x w w1 := by
  refine ⟨hst.keepR.size, fun c hc hm => ?_, hst.tape', hst.os', hst.out'⟩
  refine Classical.byCases (p := ∃ b, R b c) (fun ⟨b, hb⟩ => ?_) fun h => hst.keepR.off c hc fun b hb => h ⟨b, hb⟩
  have noUn : ∀ b' off, R b' c → ¬ Un u b' off := by
    intro b' off hb' hun
    have hun : Un v b' off := by unfold Un at hun ⊢; rw [hu] at hun; exact hun
    rcases hl b' c hb' with h | ⟨_, h | h, _⟩
    · exact hm h
    · exact h.not_un hun
    · obtain ⟨o, ho, hn, _⟩ := hv b' h
      exact not_un_non ho hn hun
  obtain ⟨o, o', ho, ho', hOR⟩ := hwr.obj b c hb
  by_cases hcl : IsCells o'
  · cases o' with
    | cells y el fz =>
      obtain ⟨y1, a1, a2, a3⟩ := hst.keepR.cells c y el fz ho'
      have : y1 = y := by
        apply Array.ext_getElem?
        intro off
        rcases a3 off with e | ⟨b', hb', hun⟩
        · exact e
        · exact absurd hun (noUn b' off hb')
      rw [a1, ho', this]
    | _ => exact hcl.elim
  · rcases hst.obj b c o' hb ho' hcl with e | ⟨o1, e, hmap⟩
    · rw [e, ho']
    · exfalso
      rcases hl b c hb with h | ⟨_, h | h, _⟩
      · exact hm h
      · obtain ⟨y, el, fz, h1, _⟩ := h
        rw [ho] at h1
        simp only [Option.some.injEq] at h1
        subst h1
        cases hOR
        exact hcl trivial
      · obtain ⟨o2, ho2, _, hn⟩ := hv b h
        rw [hk b h, ho2] at e
        simp only [Option.some.injEq] at e
        subst e
        exact hn hmap

theorem lay_next (hG : g.Ok w.heap.size) (hu : u.heap = v.heap) (hwr : WR F R v w) (hst : Stretch F R R1 u v1 w w1 es) (hl : Lay g x Ch R v) : Lay (g.after w.heap.size x) x Ch R1 v1 := by
  intro b c hb
  rcases hst.new b c hb with hb | ⟨_, hc⟩
  · have hlt := hwr.lt hb
    have hltu : b < u.heap.size := by rw [hu]; exact hlt.1
    rcases hl b c hb with h | ⟨h1, h2, h3⟩
    · exact .inl ((Geo.mine_after hlt.2).2 h)
    · refine .inr ⟨h1, h2.imp (fun h => hst.keepV.ro (by unfold RO at h ⊢; rw [hu]; exact h)) id, fun e off hcl => ?_⟩
      have := hst.keepV.cl_old hltu hcl
      exact h3 e off (by unfold Cl at this ⊢; rw [hu] at this; exact this)
  · exact .inl (Geo.mine_new hG hc)

theorem lay_other {y : Nat} {hs : Nat} (hlt : ∀ b c, R b c → c < hs) (hl : Lay g y Ch R v) : Lay (g.after hs x) y Ch R v := by
  intro b c hb
  rcases hl b c hb with h | h
  · exact .inl ((Geo.mine_after (hlt b c hb)).2 h)
  · exact .inr h

theorem wr_other {y : Nat} (hwr : WR F R v w) (hl : Lay g y Ch R v) (he : Eff g x w w1) (hne : y ≠ x) : WR F R v w1 := by
  refine ⟨fun b c hb => ?_, hwr.fn, hwr.inj⟩
  obtain ⟨o, o', ho, ho', hOR⟩ := hwr.obj b c hb
  refine ⟨o, o', ho, ?_, hOR⟩
  rw [he.same c (hwr.lt hb).2 ?_]; exact ho'
  rcases hl b c hb with h | ⟨h, _⟩
  · exact Geo.mine_ne h hne
  · exact Geo.not_mine_seen h

/-- The row that the workers write: whatever is laid into it. -/
theorem wr_store (hwr : WR F R v w) {cO i : Nat} {val : Value} (hno : ∀ b, R b cO → ∀ off, ¬ Cl v b off) (hc : ∃ y el fz, w.heap[cO]? = some (.cells y el fz)) : WR F R v (w.setCell ⟨cO, i, none⟩ val) := by
  obtain ⟨y, el, fz, hc⟩ := hc
  refine ⟨fun b c hb => ?_, hwr.fn, hwr.inj⟩
  obtain ⟨o, o', ho, ho', hOR⟩ := hwr.obj b c hb
  rw [setCell_heap w cO i val hc]
  by_cases e : c = cO
  · subst e
    rw [hc] at ho'
    simp only [Option.some.injEq] at ho'
    subst ho'
    cases hOR with
    | @cells z _ _ fz0 _ h1 h2 =>
      have hz : z.size = 0 := by
        rcases Nat.eq_zero_or_pos z.size with e | e
        · exact e
        · exact absurd ⟨z, el, fz0, ho, e⟩ (hno b hb 0)
      refine ⟨_, _, ho, by rw [if_pos rfl], .cells (fun j u hj => ?_) (fun j hj _ => ?_)⟩
      · have := (Array.getElem?_eq_some_iff.1 hj).1; omega
      · omega
  · exact ⟨o, o', ho, by rw [if_neg e]; exact ho', hOR⟩

theorem wr_chan (hwr : WR F R v w) {cC s s' : Nat} {tm : Bool} (hc : w.heap[cC]? = some (.chan 0 #[] false s s tm)) : WR F R v (w.setChan cC 0 #[] false s' s' tm) := by
  refine ⟨fun b c hb => ?_, hwr.fn, hwr.inj⟩
  obtain ⟨o, o', ho, ho', hOR⟩ := hwr.obj b c hb
  have hlt := (Array.getElem?_eq_some_iff.1 hc).1
  by_cases e : cC = c
  · subst e
    rw [hc] at ho'
    simp only [Option.some.injEq] at ho'
    subst ho'
    cases hOR with
    | chan s1 s2 tm => exact ⟨_, _, ho, by simp [World.setChan, hlt], .chan s1 s' tm⟩
  · exact ⟨o, o', ho, by simp only [World.setChan, Array.getElem?_setIfInBounds_ne e]; exact ho', hOR⟩
end

/-! ### (2) -/
def blk : Loc → Nat
  | .cell a => a.block
  | .obj c => c
  | _ => 0

/-- What x may touch. -/
def OkT (g : Geo) (x : Nat) (a : Touch) : Prop :=
  g.Mine x (blk a.loc) ∨ (g.Seen x (blk a.loc) ∧ blk a.loc ≠ g.cO ∧ a.write = false) ∨ ∃ ad, a.loc = .cell ad ∧ ad.block = g.cO ∧ ad.off % g.n + 1 = x
/-- What is no hindrance to x. -/
def ApT (g : Geo) (x : Nat) (a : Touch) : Prop :=
  (blk a.loc ≠ g.cO ∧ ¬ g.Mine x (blk a.loc) ∧ (¬ g.Seen x (blk a.loc) ∨ a.write = false)) ∨ ∃ ad, a.loc = .cell ad ∧ ad.block = g.cO ∧ ad.off % g.n + 1 ≠ x

section
variable {g : Geo} {x y hs : Nat} {a b : Touch}

theorem apT_of_okT (hcO : g.Old g.cO) (h : OkT g y a) (hne : x ≠ y) : ApT g x a := by
  rcases h with h | ⟨h1, h2, h3⟩ | ⟨ad, h1, h2, h3⟩
  · refine .inl ⟨fun e => Geo.not_mine_old (by rw [e]; exact hcO) h, Geo.mine_ne h (Ne.symm hne), .inl fun hs => Geo.not_mine_seen hs h⟩
  · exact .inl ⟨h2, Geo.not_mine_seen h1, .inr h3⟩
  · exact .inr ⟨ad, h1, h2, fun e => hne (by omega)⟩

theorem apart_of (hcO : g.Old g.cO) (h : ApT g x a) (k : OkT g x b) (hl : a.loc = b.loc) : a.write = false ∧ b.write = false := by
  rcases h with ⟨h1, h2, h3⟩ | ⟨ad, h1, h2, h3⟩
  · rcases k with k | ⟨k1, k2, k3⟩ | ⟨ad, k1, k2, k3⟩
    · rw [hl] at h2; exact absurd k h2
    · rw [hl] at h3
      exact ⟨h3.resolve_left fun h => h k1, k3⟩
    · rw [hl, k1] at h1; exact absurd k2 h1
  · have e1 : blk b.loc = g.cO := by rw [← hl, h1]; exact h2
    rcases k with k | ⟨k1, k2, k3⟩ | ⟨ad2, k1, k2, k3⟩
    · rw [e1] at k; exact absurd k (Geo.not_mine_old hcO)
    · exact absurd e1 k2
    · rw [h1, k1] at hl
      simp only [Loc.cell.injEq] at hl
      subst hl
      exact absurd k3 h3

theorem okT_after (hlt : blk a.loc < hs) : OkT (g.after hs y) x a ↔ OkT g x a := by
  unfold OkT
  rw [Geo.mine_after hlt]
  exact Iff.rfl
theorem apT_after (hlt : blk a.loc < hs) : ApT (g.after hs y) x a ↔ ApT g x a := by
  unfold ApT
  rw [Geo.mine_after hlt]
  exact Iff.rfl
end

/-- What an entry of x's may be. -/
def EvOk (g : Geo) (x hs : Nat) (e : Event) : Prop := (∀ a, (MemAct.ofEvent e).touch? = some a → OkT g x a ∧ blk a.loc < hs) ∧ ∀ m, e.loc = .mark m → Neutral m

section
variable {F : FuncId → Prop} {R R1 : BR} {g : Geo} {x : Nat} {Ch : Nat → Prop} {u v v1 w w1 : World} {es : Array Event}

theorem ev_mark {e : Event} (h : EvR R v e) : ∀ m, e.loc = .mark m → Neutral m := by
  intro m hm
  rcases h with ⟨a, b, h1, _⟩ | ⟨b, c, h1, _⟩ | ⟨h1, _⟩
  · rw [h1] at hm; cases hm
  · rw [h1] at hm; cases hm
  · rw [h1] at hm; cases hm; rfl

theorem ev_ok (hl : Lay g x Ch R1 v1) (hwr : WR F R1 v1 w1) (hv : Veil Ch v1) (hcO : ∃ y el fz, w1.heap[g.cO]? = some (.cells y el fz)) {e : Event} (h : EvR R1 v1 e) : EvOk g x w1.heap.size e := by
  refine ⟨fun a ha => ?_, ev_mark h⟩
  obtain ⟨e1, e2⟩ := ofEvent_touch (ev_mark h) ha
  unfold OkT
  rw [e1, e2]
  rcases h with ⟨ad, b, h1, h2, h3, h4, h5⟩ | ⟨b, c, h1, h2, o, h3, h4, h5⟩ | ⟨h1, _⟩
  · rw [h1]
    refine ⟨?_, (hwr.lt h3).2⟩
    rcases hl b ad.block h3 with h | ⟨k1, k2, k3⟩
    · exact .inl h
    · refine .inr (.inl ⟨k1, fun e => k3 e ad.off h4, ?_⟩)
      cases hw : e.write with
      | false => rfl
      | true =>
        have hun := h5 hw
        rcases k2 with k2 | k2
        · exact absurd hun k2.not_un
        · obtain ⟨o, ho, hn, _⟩ := hv b k2
          exact absurd hun (not_un_non ho hn)
  · rw [h1]
    refine ⟨?_, (hwr.lt h2).2⟩
    rcases hl b c h2 with h | ⟨k1, k2, k3⟩
    · exact .inl h
    · refine .inr (.inl ⟨k1, fun e => ?_, ?_⟩)
      · obtain ⟨y, el, fz, hy⟩ := hcO
        obtain ⟨p, p', hp, hp', hOR⟩ := hwr.obj b c h2
        rw [h3] at hp
        simp only [Option.some.injEq] at hp
        subst hp
        have := hOR.notCells h4
        rw [show c = g.cO from e, hy] at hp'
        simp only [Option.some.injEq] at hp'
        subst hp'
        exact this trivial
      · cases hw : e.write with
        | false => rfl
        | true =>
          have hmap := h5 hw
          rcases k2 with k2 | k2
          · obtain ⟨y, el, fz, hy, _⟩ := k2
            rw [h3] at hy
            simp only [Option.some.injEq] at hy
            subst hy
            exact absurd trivial h4
          · obtain ⟨o2, ho2, _, hn⟩ := hv b k2
            rw [h3] at ho2
            simp only [Option.some.injEq] at ho2
            subst ho2
            exact absurd hmap hn
  · have : (MemAct.ofEvent e).touch? = none := by
      obtain ⟨loc, wr, sy⟩ := e
      simp only at h1
      subst h1
      simp [MemAct.ofEvent, MemAct.touch?]
    rw [this] at ha; cases ha
end

def gi (m x : Nat) : Nat := if x = 0 then 0 else m + x

/-- What is held of the trace while workers are about. -/
structure TrI (g : Geo) (m hs : Nat) (act : Nat → Prop) (t : Trace) : Prop where
  nr : ∀ said, ¬ Race said t
  wl : Wordless t
  k0 : ∀ i a, touchAt t i = some a → a.loc.isMemory = true → Knows t 0 i ∨ ∃ y op, 1 ≤ y ∧ act y ∧ t[i]? = some op ∧ op.g = m + y ∧ blk a.loc < hs ∧ OkT g y a
  kw : ∀ x, 1 ≤ x → act x → ∀ i a, touchAt t i = some a → a.loc.isMemory = true → Knows t (m + x) i ∨ (blk a.loc < hs ∧ ApT g x a)

section
variable {g : Geo} {m hs hs' x : Nat} {act : Nat → Prop} {t u : Trace}

theorem wordless_ofEvents {es : Array Event} {k : Nat} {fn : FuncId} {pos : String} (h : ∀ e ∈ es, ∀ m, e.loc = .mark m → Neutral m) : Wordless (MemOp.ofEvents k fn pos es) := by
  intro op hop
  obtain ⟨e, he, rfl⟩ := Conc.mem_ofEvents hop
  exact ofEvent_noMark (h e he)

theorem touchAt_app {i : Nat} {a : Touch} (h : touchAt (t ++ u) i = some a) : (∃ op, t[i]? = some op ∧ touchAt t i = some a) ∨ ∃ op, (t ++ u)[i]? = some op ∧ op ∈ u ∧ op.act.touch? = some a := by
  obtain ⟨op, hx, hxa⟩ := touch_of h
  rcases getElem?_append_cases hx with ⟨_, hx'⟩ | ⟨_, hu⟩
  · exact .inl ⟨op, hx', by rw [touchAt_of hx']; exact hxa⟩
  · exact .inr ⟨op, hx, hu, hxa⟩

/-- A step of x's own. -/
theorem TrI.own (h : TrI g m hs act t) (hcO : g.Old g.cO) (hle : hs ≤ hs') (hx : x = 0 ∨ (1 ≤ x ∧ act x)) (h0 : ¬ act 0) {fn : FuncId} {pos : String} {es : Array Event} (hes : ∀ e ∈ es, EvOk (g.after hs x) x hs' e) :
    TrI (g.after hs x) m hs' act (t ++ MemOp.ofEvents (gi m x) fn pos es) := by
  have hug : ∀ op ∈ MemOp.ofEvents (gi m x) fn pos es, op.g = gi m x := fun op hop => by obtain ⟨e, _, rfl⟩ := Conc.mem_ofEvents hop; rfl
  have hut : ∀ op ∈ MemOp.ofEvents (gi m x) fn pos es, ∀ b, op.act.touch? = some b → OkT (g.after hs x) x b ∧ blk b.loc < hs' := fun op hop b hb => by obtain ⟨e, he, rfl⟩ := Conc.mem_ofEvents hop; exact (hes e he).1 b hb
  have hkn : ∀ i a, touchAt t i = some a → a.loc.isMemory = true → Knows t (gi m x) i ∨ (blk a.loc < hs ∧ ApT g x a) := by
    intro i a ha hm
    rcases hx with rfl | ⟨h1, h2⟩
    · rcases h.k0 i a ha hm with hk | ⟨y, op, y1, _, _, _, hlt, hok⟩
      · exact .inl hk
      · exact .inr ⟨hlt, apT_of_okT hcO hok (by omega)⟩
    · rcases h.kw x h1 h2 i a ha hm with hk | hk
      · left; unfold gi; rw [if_neg (by omega)]; exact hk
      · exact .inr hk
  refine ⟨fun said => noRace_append (h.nr said) hug fun i a ha op hop b hb hc => ?_, h.wl.append (wordless_ofEvents fun e he => (hes e he).2), fun i a ha hm => ?_, fun y hy hya i a ha hm => ?_⟩
  · rcases hkn i a ha hc.2.1 with hk | ⟨hlt, hap⟩
    · exact hk
    · obtain ⟨f1, f2⟩ := apart_of (g := g.after hs x) hcO ((apT_after hlt).2 hap) (hut op hop b hb).1 hc.1
      rcases hc.2.2.1 with hw | hw
      · rw [f1] at hw; cases hw
      · rw [f2] at hw; cases hw
  · rcases touchAt_app ha with ⟨op, ho, ha'⟩ | ⟨op, ho, hou, hot⟩
    · rcases h.k0 i a ha' hm with hk | ⟨y, op, y1, y2, y3, y4, hlt, hok⟩
      · exact .inl (hk.app _)
      · exact .inr ⟨y, op, y1, y2, by rw [getElem?_append_old (lt_size_of_getElem? y3)]; exact y3, y4, Nat.lt_of_lt_of_le hlt hle, (okT_after hlt).2 hok⟩
    · rcases hx with rfl | ⟨h1, h2⟩
      · left
        have := knows_own ho
        rwa [hug op hou] at this
      · obtain ⟨k1, k2⟩ := hut op hou a hot
        exact .inr ⟨x, op, h1, h2, ho, by rw [hug op hou]; unfold gi; rw [if_neg (by omega)], k2, k1⟩
  · rcases touchAt_app ha with ⟨op, ho, ha'⟩ | ⟨op, ho, hou, hot⟩
    · rcases h.kw y hy hya i a ha' hm with hk | ⟨hlt, hk⟩
      · exact .inl (hk.app _)
      · exact .inr ⟨Nat.lt_of_lt_of_le hlt hle, (apT_after hlt).2 hk⟩
    · by_cases e : y = x
      · subst e
        left
        have := knows_own ho
        have e2 : op.g = m + y := by rw [hug op hou]; unfold gi; rw [if_neg (by omega)]
        rwa [e2] at this
      · obtain ⟨k1, k2⟩ := hut op hou a hot
        exact .inr ⟨k2, apT_of_okT (g := g.after hs x) hcO k1 e⟩

/-- Operations that touch nothing. -/
theorem noRace_mute {said : Bool} (h : ¬ Race said t) (hn : ∀ op ∈ u, op.act.touch? = none) : ¬ Race said (t ++ u) := by
  rintro ⟨i, j, hij, ⟨a, b, ha, hb, hc⟩, n1, n2⟩
  rcases touchAt_app (t := t) (u := u) ha with ⟨x, hx, ha'⟩ | ⟨x, _, hxu, hxt⟩
  · rcases touchAt_app (t := t) (u := u) hb with ⟨y, hy, hb'⟩ | ⟨y, _, hyu, hyt⟩
    · exact h ⟨i, j, hij, ⟨a, b, ha', hb', hc⟩, fun e => n1 (hb_app u e), fun e => n2 (hb_app u e)⟩
    · rw [hn y hyu] at hyt; cases hyt
  · rw [hn x hxu] at hxt; cases hxt

theorem TrI.mute (h : TrI g m hs act t) (hn : ∀ op ∈ u, op.act.touch? = none) (hw : Wordless u) : TrI g m hs act (t ++ u) := by
  refine ⟨fun said => noRace_mute (h.nr said) hn, h.wl.append hw, fun i a ha hm => ?_, fun y hy hya i a ha hm => ?_⟩
  · rcases touchAt_app ha with ⟨op, ho, ha'⟩ | ⟨op, ho, hou, hot⟩
    · rcases h.k0 i a ha' hm with hk | ⟨y, op, y1, y2, y3, y4, hlt, hok⟩
      · exact .inl (hk.app _)
      · exact .inr ⟨y, op, y1, y2, by rw [getElem?_append_old (lt_size_of_getElem? y3)]; exact y3, y4, hlt, hok⟩
    · rw [hn op hou] at hot; cases hot
  · rcases touchAt_app ha with ⟨op, ho, ha'⟩ | ⟨op, ho, hou, hot⟩
    · exact (h.kw y hy hya i a ha' hm).imp (·.app _) id
    · rw [hn op hou] at hot; cases hot

/-- A worker is started. -/
theorem TrI.spawn (h : TrI g m hs act t) (hG : g.Ok hs) {c : Nat} (hc0 : g.own c = 0) (hcb : ¬ g.Box c) (hlow : ∀ y, act y → y ≤ g.j) {xo yo : MemOp} (hxo : xo.g = 0 ∧ xo.act = .go (m + (g.j + 1))) (hyo : yo.g = m + (g.j + 1) ∧ yo.act = .start) :
    TrI (g.spawned c) m hs (fun y => act y ∨ y = g.j + 1) (t ++ #[xo, yo]) := by
  have hn : ∀ op ∈ #[xo, yo], op.act.touch? = none := by
    intro op hop
    simp only [List.mem_toArray, List.mem_cons, List.not_mem_nil, or_false] at hop
    rcases hop with rfl | rfl
    · rw [hxo.2]; rfl
    · rw [hyo.2]; rfl
  have hw : Wordless #[xo, yo] := by
    intro op hop mm hm
    simp only [List.mem_toArray, List.mem_cons, List.not_mem_nil, or_false] at hop
    rcases hop with rfl | rfl
    · rw [hxo.2] at hm; cases hm
    · rw [hyo.2] at hm; cases hm
  have h2 := h.mute hn hw
  have boxS : ∀ {z : Nat}, g.Box z → (g.spawned c).Box z := fun ⟨y, a1, a2, a3⟩ => ⟨y, a1, Nat.le_succ_of_le a2, by simp only [Geo.spawned]; rw [if_neg (by omega)]; exact a3⟩
  have boxB : ∀ {z : Nat}, (g.spawned c).Box z → g.Box z ∨ z = c := fun {z} ⟨y, a1, a2, a3⟩ => by
    simp only [Geo.spawned] at a2 a3
    by_cases e : y = g.j + 1
    · rw [if_pos e] at a3; exact .inr a3
    · rw [if_neg e] at a3; exact .inl ⟨y, a1, by omega, a3⟩
  have mineS : ∀ {y z : Nat}, 1 ≤ y → ((g.spawned c).Mine y z ↔ g.Mine y z) := fun {y z} hy => by
    constructor
    · rintro ⟨a1, a2, a3⟩; exact ⟨a1, a2, fun b => a3 (boxS b)⟩
    · rintro ⟨a1, a2, a3⟩
      refine ⟨a1, a2, fun b => ?_⟩
      rcases boxB b with b | rfl
      · exact a3 b
      · have : g.own z = y := a2
        omega
  have seenS : ∀ {y z : Nat}, 1 ≤ y → y ≤ g.j → (g.Seen y z ↔ (g.spawned c).Seen y z) := fun {y z} h1 h2 => by
    have eb : (g.spawned c).box y = g.box y := by simp only [Geo.spawned]; rw [if_neg (by omega)]
    constructor
    · rintro (a | ⟨a, b⟩)
      · exact .inl a
      · exact .inr ⟨boxS a, by rw [eb]; exact b⟩
    · rintro (a | ⟨a, b⟩)
      · exact .inl a
      · rw [eb] at b
        have : z = g.box y := b.resolve_left (by omega)
        exact .inr ⟨⟨y, h1, h2, this⟩, .inr this⟩
  have okS : ∀ {y : Nat} {a : Touch}, 1 ≤ y → y ≤ g.j → OkT g y a → OkT (g.spawned c) y a := fun {y a} h1 h2 h => by
    rcases h with h | ⟨a1, a2, a3⟩ | h
    · exact .inl ((mineS h1).2 h)
    · exact .inr (.inl ⟨(seenS h1 h2).1 a1, a2, a3⟩)
    · exact .inr (.inr h)
  have d0 : Deaf t 0 = 0 := h.wl.deaf 0 t.size
  have dk : Deaf t (m + (g.j + 1)) = 0 := h.wl.deaf _ t.size
  refine ⟨h2.nr, h2.wl, fun i a ha hm => ?_, fun y hy hya i a ha hm => ?_⟩
  · rcases h2.k0 i a ha hm with hk | ⟨y, op, y1, y2, y3, y4, hlt, hok⟩
    · exact .inl hk
    · exact .inr ⟨y, op, y1, .inl y2, y3, y4, hlt, okS y1 (hlow y y2) hok⟩
  · rcases hya with hya | rfl
    · refine (h2.kw y hy hya i a ha hm).imp id fun ⟨hlt, hap⟩ => ⟨hlt, ?_⟩
      rcases hap with ⟨a1, a2, a3⟩ | hap
      · refine .inl ⟨a1, fun z => a2 ((mineS hy).1 z), a3.imp (fun z1 z2 => z1 ((seenS hy (hlow y hya)).2 z2)) id⟩
      · exact .inr hap
    · rcases touchAt_app ha with ⟨op, ho, ha'⟩ | ⟨op, ho, hou, hot⟩
      · rcases h.k0 i a ha' hm with hk | ⟨y, op, y1, y2, y3, y4, hlt, hok⟩
        · exact .inl (ConcN.fork_knows hxo hyo d0 dk hk)
        · right
          refine ⟨hlt, apT_of_okT (g := g.spawned c) hG.cO (okS y1 (hlow y y2) hok) ?_⟩
          have := hlow y y2
          omega
      · rw [hn op hou] at hot; cases hot

/-- A worker is joined: its send is received. -/
theorem TrI.join (h : TrI g m hs act t) {y cC s cap : Nat} {o1 o2 o3 o4 : MemOp} (hu : (o1.g = m + y ∧ o1.act = .send cC s) ∧ (o2.g = 0 ∧ o2.act = .recv cC s cap) ∧ (o3.g = m + y ∧ o3.act = .sendDone cC s) ∧ (o4.g = 0 ∧ o4.act = .recvDone cC s)) :
    TrI g m hs (fun z => act z ∧ z ≠ y) (t ++ #[o1, o2, o3, o4]) := by
  obtain ⟨⟨g1, a1⟩, ⟨g2, a2⟩, ⟨g3, a3⟩, ⟨g4, a4⟩⟩ := hu
  have hn : ∀ op ∈ #[o1, o2, o3, o4], op.act.touch? = none := by
    intro op hop
    simp only [List.mem_toArray, List.mem_cons, List.not_mem_nil, or_false] at hop
    rcases hop with rfl | rfl | rfl | rfl
    · rw [a1]; rfl
    · rw [a2]; rfl
    · rw [a3]; rfl
    · rw [a4]; rfl
  have hw : Wordless #[o1, o2, o3, o4] := by
    intro op hop mm hm
    simp only [List.mem_toArray, List.mem_cons, List.not_mem_nil, or_false] at hop
    rcases hop with rfl | rfl | rfl | rfl
    · rw [a1] at hm; cases hm
    · rw [a2] at hm; cases hm
    · rw [a3] at hm; cases hm
    · rw [a4] at hm; cases hm
  have h2 := h.mute hn hw
  have p1 : (t ++ #[o1, o2, o3, o4])[t.size]? = some o1 := by rw [Array.getElem?_append_right (Nat.le_refl _)]; simp
  have p4 : (t ++ #[o1, o2, o3, o4])[t.size + 3]? = some o4 := by rw [Array.getElem?_append_right (by omega)]; simp
  have edge : HappensBefore (t ++ #[o1, o2, o3, o4]) t.size (t.size + 3) := .single (.inr ⟨.handOver (c := cC) (k := s) (by rw [act?_of p1, a1]) (by rw [act?_of p4, a4]), h2.wl.heard p1, h2.wl.heard p4⟩)
  refine ⟨h2.nr, h2.wl, fun i a ha hm => ?_, fun z hz hza i a ha hm => h2.kw z hz hza.1 i a ha hm⟩
  rcases h2.k0 i a ha hm with hk | ⟨z, op, z1, z2, z3, z4, hlt, hok⟩
  · exact .inl hk
  · by_cases e : z = y
    · subst e
      left
      refine ⟨t.size + 3, o4, p4, g4, .inr ?_⟩
      rcases touchAt_app ha with ⟨op', ho, ha'⟩ | ⟨op', ho, hou, hot⟩
      · have : i < t.size := lt_size_of_getElem? ho
        exact (hb_po this z3 p1 (by rw [z4, g1])).trans edge
      · rw [hn op' hou] at hot; cases hot
    · exact .inr ⟨z, op, z1, ⟨z2, e⟩, z3, z4, hlt, hok⟩
end
end Go.Proofs.Ytmfglflahlddbaa.Sm
namespace Go.Proofs.Ytmfglflahlddbaa.Sm
open Go Go.Conc
open Go.ConcN (sumTo upd sumTo_upd upd_ne upd_same sumTo_congr)
set_option linter.unusedVariables false
set_option linter.unusedSimpArgs false

theorem quits_run {P : Program} {n : Nat} {g : Goroutine} (h : QuitsIn P n g) (hr : g.status = .running) : ∃ m g', n = m + 1 ∧ (∀ w, stepG P false g w = .go g' w #[]) ∧ QuitsIn P m g' := by
  cases n with
  | zero => rw [show g.status = .finished from h] at hr; cases hr
  | succ m =>
    rcases h with h | ⟨_, g', h1, h2⟩
    · rw [h] at hr; cases hr
    · exact ⟨m, g', rfl, h1, h2⟩
theorem woken_quits {P : Program} {g g' b : Goroutine} {w' : World} {k : Nat} (hB : QuitsIn P k b) : woken P g g' w' b = b := by
  unfold woken
  split
  · exact again_running _ hB.status
  · rfl
theorem ofEvents_none (i : Nat) (fn : FuncId) (pos : String) : MemOp.ofEvents i fn pos #[] = #[] := by rw [ofEvents_eq]; simp

/-- A block that the goroutine may not write stands. -/
theorem same_block {F : FuncId → Prop} {R R1 : BR} {Ch : Nat → Prop} {u v v1 w w1 : World} {es : Array Event} (hu : u.heap = v.heap) (hwr : WR F R v w) (hst : Stretch F R R1 u v1 w w1 es) (hv : Veil Ch v) (hk : ∀ b, Ch b → v1.heap[b]? = v.heap[b]?)
    {c : Nat} (hc : c < w.heap.size) (hb : ∀ b, R b c → RO v b ∨ Ch b) : w1.heap[c]? = w.heap[c]? := by
  refine Classical.byCases (p := ∃ b, R b c) (fun ⟨b, hbc⟩ => ?_) fun h => hst.keepR.off c hc fun b hb => h ⟨b, hb⟩
  have noUn : ∀ b' off, R b' c → ¬ Un u b' off := by
    intro b' off hb' hun
    have hun : Un v b' off := by unfold Un at hun ⊢; rw [hu] at hun; exact hun
    rcases hb b' hb' with h | h
    · exact h.not_un hun
    · obtain ⟨o, ho, hn, _⟩ := hv b' h
      exact not_un_non ho hn hun
  obtain ⟨o, o', ho, ho', hOR⟩ := hwr.obj b c hbc
  by_cases hcl : IsCells o'
  · cases o' with
    | cells y el fz =>
      obtain ⟨y1, a1, a2, a3⟩ := hst.keepR.cells c y el fz ho'
      have : y1 = y := by
        apply Array.ext_getElem?
        intro off
        rcases a3 off with e | ⟨b', hb', hun⟩
        · exact e
        · exact absurd hun (noUn b' off hb')
      rw [a1, ho', this]
    | _ => exact hcl.elim
  · rcases hst.obj b c o' hbc ho' hcl with e | ⟨o1, e, hmap⟩
    · rw [e, ho']
    · exfalso
      rcases hb b hbc with h | h
      · obtain ⟨y, el, fz, h1, _⟩ := h
        rw [ho] at h1
        simp only [Option.some.injEq] at h1
        subst h1
        cases hOR
        exact hcl trivial
      · obtain ⟨o2, ho2, _, hn⟩ := hv b h
        rw [hk b h, ho2] at e
        simp only [Option.some.injEq] at e
        subst e
        exact hn hmap

structure Calm (P : Program) (Fs : FuncId → Bool) (H : Nat) (W : World) (Ch : Nat → Prop) (gs : Array Goroutine) (w : World) (t : Trace) (q : Nat → Nat) (s : St) : Prop where
  g0 : gs[0]? = some (G s.fr' s.up')
  ok : s.ok P Fs
  wr : WR (FFs Fs) s.R s.v w
  lay : ∀ b c, s.R b c → c < H → RO s.v b
  veil : Veil Ch s.v
  hle : H ≤ w.heap.size
  old : ∀ c, c < H → w.heap[c]? = W.heap[c]?
  tape : w.tape = W.tape
  os : w.os = W.os
  out : w.output = W.output
  lv : ∀ i g, 0 < i → gs[i]? = some g → QuitsIn P (q i) g
  nr : ∀ said, ¬ Race said t
  wl : Wordless t
  kn : ∀ i a, touchAt t i = some a → a.loc.isMemory = true → Knows t 0 i

section
variable {P : Program} {Fs : FuncId → Bool} {H : Nat} {W : World} {Ch : Nat → Prop} {Q : VStop}

theorem Calm.at {gs : Array Goroutine} {w : World} {t : Trace} {q : Nat → Nat} {s : St} (h : Calm P Fs H W Ch gs w t q s) (d : Nat) : Calm P Fs H W Ch gs (w.at d) t q s :=
  ⟨h.g0, h.ok, WR.heap' (w := w) (w1 := w.at d) rfl h.wr, h.lay, h.veil, h.hle, h.old, h.tape, h.os, h.out, h.lv, h.nr, h.wl, h.kn⟩

theorem Calm.awake {gs : Array Goroutine} {w : World} {t : Trace} {q : Nat → Nat} {s : St} (h : Calm P Fs H W Ch gs w t q s) : ∀ g ∈ gs, awake g := by
  intro g hg
  obtain ⟨i, hi, rfl⟩ := Array.mem_iff_getElem.1 hg
  rcases Nat.eq_zero_or_pos i with rfl | hpos
  · have : gs[0] = G s.fr' s.up' := by simpa [Array.getElem?_eq_getElem hi] using h.g0
    rw [this]; exact awake_of (.inl rfl)
  · exact awake_of ((h.lv i _ hpos (Array.getElem?_eq_getElem hi)).status.elim .inl fun x => .inr (.inr x))

/-- A leaver's step. -/
theorem Calm.slip {gs : Array Goroutine} {w : World} {sl : Option (Nat × Nat)} {t : Trace} {q : Nat → Nat} {s : St} (h : Calm P Fs H W Ch gs w t q s) {i : Nat} {g : Goroutine} (hi0 : 0 < i) (hi : gs[i]? = some g) (hg : g.status = .running) :
    ∃ gs' q', runT P (crowd gs w sl) i = (.next (crowd gs' w sl), #[]) ∧ gs'.size = gs.size ∧ Calm P Fs H W Ch gs' w t q' s ∧ sumTo gs.size q' < sumTo gs.size q := by
  obtain ⟨m, g', hm, hst, hq'⟩ := quits_run (h.lv i g hi0 hi) hg
  have hlt : i < gs.size := (Array.getElem?_eq_some_iff.1 hi).1
  have e0 : (i == 0) = false := by simp; omega
  have hrunT := runT_crowd_go (P := P) (sl := sl) (i := i) hi (by rw [e0]; exact hst w)
  rw [ofEvents_none] at hrunT
  have hsum : sumTo gs.size (upd q i m) + (m + 1) = sumTo gs.size q + m := by
    have := sumTo_upd q m id hlt
    simpa [hm] using this
  refine ⟨_, upd q i m, hrunT, by simp, { h with g0 := ?_, lv := fun j x hj hx => ?_ }, by omega⟩
  · have hne : i ≠ 0 := by omega
    rw [Array.getElem?_setIfInBounds_ne hne, Array.getElem?_map, h.g0]
    simp [woken_run]
    exact woken_run rfl
  · by_cases hji : i = j
    · subst hji
      rw [Array.getElem?_setIfInBounds_self_of_lt (by simpa using hlt)] at hx
      obtain rfl := Option.some.inj hx
      rw [upd_same]; exact hq'
    · rw [Array.getElem?_setIfInBounds_ne hji, Array.getElem?_map] at hx
      obtain ⟨y, hy, rfl⟩ := Option.map_eq_some_iff.1 hx
      have hqj := h.lv j y hj hy
      rw [woken_quits hqj, upd_ne q m (Ne.symm hji)]
      exact hqj

/-- Goroutine 0's step. -/
theorem Calm.step {gs : Array Goroutine} {w w1 : World} {sl : Option (Nat × Nat)} {t : Trace} {q : Nat → Nat} {s s1 : St} {es : Array Event} (h : Calm P Fs H W Ch gs w t q s) (hn : Nx P Fs true [] Ch s s1 w w1 es) :
    ∃ gs', runT P (crowd gs w sl) 0 = (.next (crowd gs' w1 sl), MemOp.ofEvents 0 s.fr'.fn s.fr'.place es) ∧ gs'.size = gs.size ∧ Calm P Fs H W Ch gs' w1 (t ++ MemOp.ofEvents 0 s.fr'.fn s.fr'.place es) q s1 := by
  obtain ⟨u, hu, hst⟩ := hn.st
  have hstep := hn.step
  simp only [List.append_nil] at hstep
  have hrunT := runT_crowd_go (P := P) (sl := sl) (i := 0) h.g0 (show stepG P (0 == 0) _ w = _ from hstep)
  have hlt : 0 < gs.size := (Array.getElem?_eq_some_iff.1 h.g0).1
  have hug : ∀ op ∈ MemOp.ofEvents 0 s.fr'.fn s.fr'.place es, op.g = 0 := fun op hop => by obtain ⟨e, _, rfl⟩ := Conc.mem_ofEvents hop; rfl
  refine ⟨_, hrunT, by simp, ?_⟩
  refine { g0 := by simp [hlt], ok := hn.ok, wr := hst.wr, lay := fun b c hb hc => ?_, veil := fun b hb => ?_, hle := Nat.le_trans h.hle hst.keepR.size, old := fun c hc => ?_,
           tape := hst.tape'.trans h.tape, os := hst.os'.trans h.os, out := hst.out'.trans h.out, lv := fun j x hj hx => ?_, nr := fun said => ?_, wl := h.wl.append (wordless_ofEvents fun e he => ev_mark (hst.evs e he)), kn := fun i a ha hm => ?_ }
  · rcases hst.new b c hb with hb | ⟨_, hc'⟩
    · have := h.lay b c hb hc
      exact hst.keepV.ro (by unfold RO at this ⊢; rw [hu]; exact this)
    · have := h.hle; omega
  · obtain ⟨o, ho, h1, h2⟩ := h.veil b hb
    exact ⟨o, by rw [hn.ch b hb]; exact ho, h1, h2⟩
  · rw [← h.old c hc]
    exact same_block hu h.wr hst h.veil hn.ch (Nat.lt_of_lt_of_le hc h.hle) fun b hb => .inl (h.lay b c hb hc)
  · have hne : 0 ≠ j := by omega
    rw [Array.getElem?_setIfInBounds_ne hne, Array.getElem?_map] at hx
    obtain ⟨y, hy, rfl⟩ := Option.map_eq_some_iff.1 hx
    have hqj := h.lv j y hj hy
    rw [woken_quits hqj]; exact hqj
  · exact noRace_append (h.nr said) hug fun i a ha op hop b hb hc => h.kn i a ha hc.2.1
  · rcases touchAt_app ha with ⟨op, ho, ha'⟩ | ⟨op, ho, hou, _⟩
    · exact (h.kn i a ha' hm).app _
    · have := knows_own ho
      rwa [hug op hou] at this

/-- ████ TO THE STOP ████ -/
theorem calm_way : ∀ (μ : Tree × Nat) (gs : Array Goroutine) (w : World) (sl : Option (Nat × Nat)) (t : Trace) (q : Nat → Nat) (s : St), μ.2 = sumTo gs.size q → Calm P Fs H W Ch gs w t q s → Way P Fs true [] Ch Q μ.1 s →
    ∃ N gs' w' sl' t' q' s', runNT P N (crowd gs w sl) t = (.next (crowd gs' w' sl'), t') ∧ gs'.size = gs.size ∧ Calm P Fs H W Ch gs' w' t' q' s' ∧ s'.at Q := by
  have wf : WellFounded (Prod.Lex Tree.Lt (fun a b : Nat => a < b)) := (Prod.lex ⟨_, Tree.wf⟩ ⟨_, Nat.lt_wfRel.wf⟩).wf
  intro μ
  induction μ using wf.induction with
  | _ μ ih =>
    intro gs w sl t q s hμ hC hW
    obtain ⟨tr, sm⟩ := μ
    simp only at hμ hW
    cases tr with
    | leaf => exact ⟨0, gs, w, sl, t, q, s, rfl, rfl, hC, hW⟩
    | node f =>
      rcases hW with hat | hnext
      · exact ⟨0, gs, w, sl, t, q, s, rfl, rfl, hC, hat⟩
      obtain ⟨i, g, d, sl', hi, hg, hst⟩ := crowd_pick (P := P) (w := w) (sl := sl) hC.awake ⟨0, _, hC.g0, rfl⟩
      have hC' := hC.at d
      rcases Nat.eq_zero_or_pos i with rfl | hpos
      · obtain ⟨s1, w1, es, hn, hw1⟩ := hnext (w.at d) hC'.wr
        obtain ⟨gs', hr, hs', hC1⟩ := hC'.step (sl := sl') hn
        obtain ⟨N, gs2, w2, sl2, t2, q2, s2, h1, h2, h3, h4⟩ := ih (f (w.at d), sumTo gs'.size q) (.left _ _ (.mk f _)) gs' w1 sl' _ q s1 rfl hC1 hw1
        exact ⟨N + 1, gs2, w2, sl2, t2, q2, s2, by rw [runNT_succ_next (hst.trans hr)]; exact h1, h2.trans hs', h3, h4⟩
      · obtain ⟨gs', q', hr, hs', hC1, hlt⟩ := hC'.slip (sl := sl') hpos hi hg
        obtain ⟨N, gs2, w2, sl2, t2, q2, s2, h1, h2, h3, h4⟩ := ih (.node f, sumTo gs'.size q') (.right _ (by rw [hμ, hs']; exact hlt)) gs' (w.at d) sl' t q' s rfl hC1 (.inr hnext)
        exact ⟨N + 1, gs2, w2, sl2, t2, q2, s2, by rw [runNT_succ_next (hst.trans hr), Array.append_empty]; exact h1, h2.trans hs', h3, h4⟩

/-- The outermost function stands ahead of its return. -/
def QEnd (P : Program) (f : FuncId) (b : Bool) : VStop := fun fr up v => up = [] ∧ ∃ t todo fn sl, fr = { (B f .normal).at ⟨t, []⟩ todo with mode := .returning } ∧ P.funcs[f]? = some fn ∧ fn.results = #[.tmp sl] ∧ t.getD sl undef = .bool b

theorem end_step {f : FuncId} (hi : P.inits.idxOf? f = none) {b : Bool} {s : St} (hok : s.ok P Fs) (hat : s.at (QEnd P f b)) (w : World) : stepG P true (G s.fr' s.up') w = .ended (.done (.bool b)) w #[] := by
  obtain ⟨T, d, hup, t, todo, fn, sl, hfr, hf, hres, hv⟩ := hat
  obtain ⟨h1, h2⟩ := hok
  obtain ⟨fn0, t0, t', todo0, mode, kind, e1, e2, h3, h4, h5, h6, h7⟩ := h1
  rw [hup] at h2
  have hup' : s.up' = [] := by cases he : s.up' with
    | nil => rfl
    | cons a l => rw [he] at h2; exact h2.elim
  rw [e1] at hfr
  simp only [Frame.at, B, Frame.mk.injEq] at hfr
  obtain ⟨rfl, rfl, rfl, _, rfl, rfl, _⟩ := hfr
  have hv' : t'.getD sl undef = .bool b := by
    have := h6.getD sl
    rw [hv] at this
    generalize t'.getD sl undef = z at this
    cases this; rfl
  rw [hup', e2]
  have e := stepG_return (P := P) (main := true) (fn := fn0) (kind := .normal) (todo := todo0) (t := t') (cs := []) (w := w) (w1 := w) (x := .bool b) (es := #[]) hf (by
    have h1 := Sem.runT_fst P (results fn t') w #[]
    rw [results_tmp hres, hv'] at h1
    have h2 : ((results fn t').runT P w #[]).2 = #[] := events_results_tmp hres t' #[]
    exact Prod.ext h1 h2)
  have e3 : ({ fn := fn0, tmps := t', todo := todo0, defers := [], mode := .returning, kind := .normal, roundOf := none } : Frame) = { (B fn0 .normal).at ⟨t', []⟩ todo0 with mode := .returning } := rfl
  rw [e3, e]
  simp [doReturn, Frame.at, B, hi, GStep.after, seen_none]

/-- ████ THE END ████ -/
theorem calm_end {f : FuncId} (hi : P.inits.idxOf? f = none) {b : Bool} {Post : Value → World → Prop}
    (hpost : ∀ w', H ≤ w'.heap.size → (∀ c, c < H → w'.heap[c]? = W.heap[c]?) → w'.tape = W.tape → w'.os = W.os → w'.output = W.output → Post (.bool b) w') :
    ∀ (μ : Nat) (gs : Array Goroutine) (w : World) (sl : Option (Nat × Nat)) (t : Trace) (q : Nat → Nat) (s : St), μ = sumTo gs.size q → Calm P Fs H W Ch gs w t q s → s.at (QEnd P f b) →
    ∃ N last o w' t', runNT P (N + 1) (crowd gs w sl) t = (.ended o w', t') ∧ runN P N (crowd gs w sl) = .next last ∧ step P last = .ended o w' ∧ Good P Post last o w' t' := by
  intro μ
  induction μ using Nat.strongRecOn with
  | _ μ ih =>
    intro gs w sl t q s hμ hC hat
    obtain ⟨i, g, d, sl', hi', hg, hst⟩ := crowd_pick (P := P) (w := w) (sl := sl) hC.awake ⟨0, _, hC.g0, rfl⟩
    have hC' := hC.at d
    rcases Nat.eq_zero_or_pos i with rfl | hpos
    · have hrunT := runT_many_ended (P := P) (sl := sl') (i := 0) hC.g0 (show stepG P (0 == 0) _ (w.at d) = _ from end_step hi hC.ok hat (w.at d))
      rw [ofEvents_none] at hrunT
      have hs := hst.trans hrunT
      refine ⟨0, crowd gs w sl, _, _, t, by simp [runNT, hs], rfl, by simp [step, hs], .bool b, rfl, hpost _ hC'.hle hC'.old hC'.tape hC'.os hC'.out, hC.nr, fun j g hg hne hc => ?_, ⟨fun x hx => ?_, rfl⟩, fun j x hx hj => ?_⟩
      · obtain ⟨x, hx, hm, _⟩ := hc
        have hk := hC.kn j x hx hm
        obtain ⟨p, z, h1, h2, h3⟩ := hk
        rcases h3 with rfl | h3
        · exact absurd (by simpa [Trace.g?, h1, h2] using hg.symm) hne
        · exact ⟨p, by simp [Trace.g?, h1, h2], h3⟩
      · obtain ⟨j, hj⟩ := List.mem_iff_getElem?.1 hx
        rw [List.getElem?_drop] at hj
        exact ⟨_, (hC.lv (1 + j) x (by omega) (by simpa [crowd] using hj)).leaves⟩
      · have hq := hC.lv j x (by omega) hx
        refine ⟨q j, ?_⟩
        rw [hC.wl.deaf]
        exact hq.hears _ _
    · obtain ⟨gs', q', hr, hs', hC1, hlt⟩ := hC'.slip (sl := sl') hpos hi' hg
      obtain ⟨N, last, o, w', t', h1, h2, h3, h4⟩ := ih (sumTo gs'.size q') (by rw [hμ, hs']; exact hlt) gs' (w.at d) sl' t q' s rfl hC1 hat
      have hs := hst.trans hr
      exact ⟨N + 1, last, o, w', t', by rw [runNT_succ_next hs, Array.append_empty]; exact h1, by rw [runN_succ_next hs]; exact h2, h3, h4⟩
end
end Go.Proofs.Ytmfglflahlddbaa.Sm
