/-
  THE SIMULATION: 'Way': a goroutine on its way to a stop, in company: along a well-founded tree, with no count; and THE SPLICE: a stretch that a lone virtual machine walks to its stop ON EVERY TAPE gives such a way to every real goroutine that follows it.
-/
import Derived.Test.YtneclhkpgalnlaaSmj
namespace Go.Proofs.Ytneclhkpgalnlaa.Sm
open Go Go.Conc
set_option linter.unusedVariables false
set_option linter.unusedSimpArgs false

inductive Tree where
  | leaf
  | node (f : World → Tree)

inductive Tree.Lt : Tree → Tree → Prop
  | mk (f : World → Tree) (w : World) : Tree.Lt (f w) (.node f)

theorem Tree.wf : WellFounded Tree.Lt := ⟨fun t => by
  induction t with
  | leaf => exact ⟨_, fun y hy => by cases hy⟩
  | node f ih => exact ⟨_, fun y hy => by cases hy; exact ih _⟩⟩

/-- A virtual goroutine and the real one that follows it. -/
structure St where
  R : BR
  v : World
  fr : Frame
  fr' : Frame
  up : List Frame
  up' : List Frame

def St.ok (P : Program) (Fs : FuncId → Bool) (s : St) : Prop := FR P Fs s.R s.fr s.fr' ∧ CsR P Fs s.R s.up s.up'
def St.vm (s : St) (T : Tape) : Machine := lone s.fr (s.up ++ [trap]) (rt s.v T s.v.drawn)

abbrev VStop := Frame → List Frame → World → Prop
def St.at (s : St) (Q : VStop) : Prop := ∃ T d, Q s.fr s.up (rt s.v T d)

/-- One step, followed. -/
structure Nx (P : Program) (Fs : FuncId → Bool) (main : Bool) (bs : List Frame) (Ch : Nat → Prop) (s s1 : St) (w w1 : World) (es : Array Event) : Prop where
  step : stepG P main (G s.fr' (s.up' ++ bs)) w = .go (G s1.fr' (s1.up' ++ bs)) w1 es
  st : ∃ u : World, u.heap = s.v.heap ∧ Stretch (FFs Fs) s.R s1.R u s1.v w w1 es
  ok : s1.ok P Fs
  ch : ∀ b, Ch b → s1.v.heap[b]? = s.v.heap[b]?

def Way (P : Program) (Fs : FuncId → Bool) (main : Bool) (bs : List Frame) (Ch : Nat → Prop) (Q : VStop) : Tree → St → Prop
  | .leaf, s => s.at Q
  | .node f, s => s.at Q ∨ ∀ w, WR (FFs Fs) s.R s.v w → ∃ s1 w1 es, Nx P Fs main bs Ch s s1 w w1 es ∧ Way P Fs main bs Ch Q (f w) s1

/-- On every tape the lone virtual machine comes to the stop. -/
def Ends (P : Program) (Ch : Nat → Prop) (Q : VStop) (s : St) : Prop := ∀ T : Tape, ∃ T2 : Tape, (∀ n q, s.v.drawn ≤ n → T2 n q = T n q) ∧
  ∃ n frS upS vS, runN P n (s.vm T2) = .next (lone frS (upS ++ [trap]) vS) ∧ OkFr frS ∧ Q frS upS vS ∧ ∀ b o, Ch b → vS.heap[b]? = some o → ¬ IsMap o

section
variable {P : Program} {Fs : FuncId → Bool} {main : Bool} {bs : List Frame} {Ch : Nat → Prop} {Q : VStop}

theorem agr_on {F : FuncId → Prop} {R R1 : BR} {v v1 w w1 : World} {es : Array Event} (h : Stretch F R R1 v v1 w w1 es) (hag : ∀ n, Agr v w n) : ∀ n, Agr v1 w1 n := by
  intro n j q hj
  have h1 := h.le
  have h2 := h.count
  have := hag (v1.drawn - v.drawn + j + 1) (v1.drawn - v.drawn + j) q (by omega)
  rw [h.tape, h.tape']
  have e1 : w1.drawn + j = w.drawn + (v1.drawn - v.drawn + j) := by omega
  have e2 : v1.drawn + j = v.drawn + (v1.drawn - v.drawn + j) := by omega
  rw [e1, e2]; exact this

theorem keep_run (hP : OkProg P Fs) : ∀ (n : Nat) (s : St) (w : World), s.ok P Fs → WR (FFs Fs) s.R s.v w → (∀ n, Agr s.v w n) → ∀ (frS : Frame) (upS : List Frame) (vS : World),
    runN P n (lone s.fr (s.up ++ [trap]) s.v) = .next (lone frS (upS ++ [trap]) vS) → OkFr frS → KeepV s.v vS := by
  intro n
  induction n with
  | zero =>
    intro s w _ _ _ frS upS vS h _
    simp only [runN, Stepped.next.injEq] at h
    obtain ⟨_, _, e⟩ := lone_frame h
    rw [e]; exact .refl _
  | succ n ih =>
    intro s w hok hw hag frS upS vS h hS
    rcases step_sim hP (main := true) (bs := []) hok.1 hok.2 hw hag with hd | hf
    · exact absurd ⟨frS, upS, vS, rfl, hS⟩ (hd n _ h)
    · obtain ⟨fr1, up1, v1, R1, fr1', up1', w1, es, h1, _, hst, hfr, hcs, _⟩ := hf.ex
      simp only [runN, h1] at h
      exact hst.keepV.trans (ih ⟨R1, v1, fr1, fr1', up1, up1'⟩ w1 ⟨hfr, hcs⟩ hst.wr (agr_on hst hag) frS upS vS h hS)

def Bad (P : Program) (Fs : FuncId → Bool) (main : Bool) (bs : List Frame) (Ch : Nat → Prop) (Q : VStop) (s : St) : Prop :=
  s.ok P Fs ∧ Ends P Ch Q s ∧ (∀ b, Ch b → ∃ o, s.v.heap[b]? = some o ∧ ¬ IsCells o ∧ ¬ IsMap o) ∧ ¬ ∃ t, Way P Fs main bs Ch Q t s

theorem vm_at {s : St} {T : Tape} {frS : Frame} {upS : List Frame} {vS : World} (h : s.vm T = lone frS (upS ++ [trap]) vS) (hq : Q frS upS vS) : s.at Q := by
  obtain ⟨e1, e2, e3⟩ := lone_frame h
  have e4 : s.up = upS := List.append_cancel_right e2
  exact ⟨T, s.v.drawn, by rw [e1, e4, e3]; exact hq⟩

theorem bad_next (hP : OkProg P Fs) {s : St} (hb : Bad P Fs main bs Ch Q s) :
    ∃ s1, Bad P Fs main bs Ch Q s1 ∧ s.v.drawn ≤ s1.v.drawn ∧ ∀ T : Tape, (∀ n q, s.v.drawn ≤ n → n < s1.v.drawn → T n q = s1.v.tape n q) → step P (s.vm T) = .next (s1.vm T) := by
  obtain ⟨hok, hends, hch, hno⟩ := hb
  have hnat : ¬ s.at Q := fun h => hno ⟨.leaf, h⟩
  have hw : ∃ w, WR (FFs Fs) s.R s.v w ∧ ∀ s1 w1 es, Nx P Fs main bs Ch s s1 w w1 es → ¬ ∃ t, Way P Fs main bs Ch Q t s1 := by
    refine Classical.byContradiction fun hc => hno ?_
    have H : ∀ w, ∃ t, WR (FFs Fs) s.R s.v w → ∃ s1 w1 es, Nx P Fs main bs Ch s s1 w w1 es ∧ Way P Fs main bs Ch Q t s1 := by
      intro w
      refine Classical.byCases (p := WR (FFs Fs) s.R s.v w) (fun hw => ?_) fun hw => ⟨.leaf, fun h => absurd h hw⟩
      refine Classical.byContradiction fun h2 => hc ⟨w, hw, fun s1 w1 es hn ⟨t, ht⟩ => h2 ⟨t, fun _ => ⟨s1, w1, es, hn, ht⟩⟩⟩
    obtain ⟨f, hf⟩ := Classical.axiomOfChoice H
    exact ⟨.node f, .inr hf⟩
  obtain ⟨w, hw, hnone⟩ := hw
  obtain ⟨T2, hT2, n, frS, upS, vS, hrun, hS, hQ, hmap⟩ := hends fun n q => w.tape (w.drawn + (n - s.v.drawn)) q
  cases n with
  | zero =>
    simp only [runN, Stepped.next.injEq] at hrun
    exact absurd (vm_at hrun hQ) hnat
  | succ m =>
    have hag : ∀ n, Agr (rt s.v T2 s.v.drawn) w n := by
      intro n j q hj
      show _ = T2 (s.v.drawn + j) q
      rw [hT2 _ _ (Nat.le_add_right _ _)]
      congr 2; omega
    rcases step_sim hP (main := main) (bs := bs) hok.1 hok.2 (hw.rtv T2 s.v.drawn) hag with hd | hf
    · exact absurd ⟨frS, upS, vS, rfl, hS⟩ (hd m _ hrun)
    · obtain ⟨fr1, up1, v1, R1, fr1', up1', w1, es, h1, h2, hst, hfr, hcs, hloc⟩ := hf.ex
      have hle : s.v.drawn ≤ v1.drawn := hst.le
      have htape : v1.tape = T2 := hst.tape
      have hrun2 : runN P m (lone fr1 (up1 ++ [trap]) v1) = .next (lone frS (upS ++ [trap]) vS) := by
        have : runN P (m + 1) (s.vm T2) = runN P m (lone fr1 (up1 ++ [trap]) v1) := by simp only [runN, St.vm, h1]
        rw [← this]; exact hrun
      have hkeep := keep_run hP m ⟨R1, v1, fr1, fr1', up1, up1'⟩ w1 ⟨hfr, hcs⟩ hst.wr (agr_on hst hag) frS upS vS hrun2 hS
      have hch1 : ∀ b, Ch b → v1.heap[b]? = s.v.heap[b]? := by
        intro b hb
        obtain ⟨o, ho, hn1, hn2⟩ := hch b hb
        obtain ⟨o1, a1, a2, a3⟩ := hst.keepV.non b o ho hn1
        rcases a3 with rfl | a3
        · rw [a1, ho]
        · obtain ⟨o2, b1, b2⟩ := hkeep.map a1 a3
          exact absurd b2 (hmap b o2 hb b1)
      have hlocal : ∀ T : Tape, (∀ n q, s.v.drawn ≤ n → n < v1.drawn → T n q = v1.tape n q) → step P (s.vm T) = .next (lone fr1 (up1 ++ [trap]) (rt v1 T v1.drawn)) := by
        intro T hT
        have := hloc T s.v.drawn (fun j q hj => by
          rw [show (rt s.v T2 s.v.drawn).tape = T2 from rfl, show (rt s.v T2 s.v.drawn).drawn = s.v.drawn from rfl, ← htape]
          have hj' : j < v1.drawn - s.v.drawn := hj
          exact hT (s.v.drawn + j) q (by omega) (by omega))
        have e : s.v.drawn + (v1.drawn - (rt s.v T2 s.v.drawn).drawn) = v1.drawn := by
          show s.v.drawn + (v1.drawn - s.v.drawn) = _
          omega
        rw [e] at this
        exact this
      refine ⟨⟨R1, v1, fr1, fr1', up1, up1'⟩, ⟨⟨hfr, hcs⟩, ?_, fun b hb => ?_, ?_⟩, hle, hlocal⟩
      · intro T'
        obtain ⟨T3, hT3, n3, frS3, upS3, vS3, hrun3, hS3, hQ3, hmap3⟩ := hends fun n q => if n < v1.drawn then T2 n q else T' n q
        refine ⟨T3, fun n q hn => ?_, ?_⟩
        · have hn' : v1.drawn ≤ n := hn
          rw [hT3 n q (by omega)]
          simp only [Nat.not_lt.2 hn', if_false]
        · cases n3 with
          | zero =>
            simp only [runN, Stepped.next.injEq] at hrun3
            exact absurd (vm_at hrun3 hQ3) hnat
          | succ n3 =>
            have hs := hlocal T3 (fun n q h1 h2 => by rw [hT3 n q h1, htape]; simp only [h2, if_true])
            refine ⟨n3, frS3, upS3, vS3, ?_, hS3, hQ3, hmap3⟩
            have : runN P (n3 + 1) (s.vm T3) = runN P n3 (lone fr1 (up1 ++ [trap]) (rt v1 T3 v1.drawn)) := by simp only [runN, hs]
            exact this.symm.trans hrun3
      · obtain ⟨o, ho, hn1, hn2⟩ := hch b hb
        exact ⟨o, by rw [hch1 b hb]; exact ho, hn1, hn2⟩
      · exact hnone ⟨R1, v1, fr1, fr1', up1, up1'⟩ w1 es ⟨h2, ⟨rt s.v T2 s.v.drawn, rfl, hst⟩, ⟨hfr, hcs⟩, hch1⟩

/-- ████ THE SPLICE ████ -/
theorem way_of_ends (hP : OkProg P Fs) {s : St} (hok : s.ok P Fs) (hends : Ends P Ch Q s) (hch : ∀ b, Ch b → ∃ o, s.v.heap[b]? = some o ∧ ¬ IsCells o ∧ ¬ IsMap o) : ∃ t, Way P Fs main bs Ch Q t s := by
  refine Classical.byContradiction fun hno => ?_
  have hb : Bad P Fs main bs Ch Q s := ⟨hok, hends, hch, hno⟩
  have H : ∀ x : { s : St // Bad P Fs main bs Ch Q s }, ∃ y : { s : St // Bad P Fs main bs Ch Q s }, x.1.v.drawn ≤ y.1.v.drawn ∧ ∀ T : Tape, (∀ n q, x.1.v.drawn ≤ n → n < y.1.v.drawn → T n q = y.1.v.tape n q) → step P (x.1.vm T) = .next (y.1.vm T) := fun x =>
    let ⟨s1, h1, h2⟩ := bad_next hP x.2; ⟨⟨s1, h1⟩, h2⟩
  obtain ⟨nx, hnx⟩ := Classical.axiomOfChoice H
  let c : Nat → { s : St // Bad P Fs main bs Ch Q s } := fun n => Nat.rec ⟨s, hb⟩ (fun _ x => nx x) n
  have c0 : c 0 = ⟨s, hb⟩ := rfl
  have cs : ∀ i, c (i + 1) = nx (c i) := fun _ => rfl
  have mono1 : ∀ i, (c i).1.v.drawn ≤ (c (i + 1)).1.v.drawn := fun i => by rw [cs]; exact (hnx (c i)).1
  have mono : ∀ i j, i ≤ j → (c i).1.v.drawn ≤ (c j).1.v.drawn := by
    intro i j h
    induction j with
    | zero => rw [Nat.le_zero.1 h]; exact Nat.le_refl _
    | succ j ih =>
      rcases Nat.lt_or_ge i (j + 1) with h1 | h1
      · exact Nat.le_trans (ih (by omega)) (mono1 j)
      · rw [show i = j + 1 by omega]; exact Nat.le_refl _
  have hT : ∃ T : Tape, ∀ i n q, (c i).1.v.drawn ≤ n → n < (c (i + 1)).1.v.drawn → T n q = (c (i + 1)).1.v.tape n q := by
    have HT : ∀ n, ∃ f : Question → Nat, ∀ i q, (c i).1.v.drawn ≤ n → n < (c (i + 1)).1.v.drawn → f q = (c (i + 1)).1.v.tape n q := by
      intro n
      refine Classical.byCases (p := ∃ i, (c i).1.v.drawn ≤ n ∧ n < (c (i + 1)).1.v.drawn) (fun ⟨i, h1, h2⟩ => ?_) fun h => ⟨fun _ => 0, fun i q h1 h2 => absurd ⟨i, h1, h2⟩ h⟩
      refine ⟨fun q => (c (i + 1)).1.v.tape n q, fun j q g1 g2 => ?_⟩
      have e : i = j := by
        rcases Nat.lt_trichotomy i j with h | h | h
        · have := mono (i + 1) j (by omega); omega
        · exact h
        · have := mono (j + 1) i (by omega); omega
      rw [e]
    obtain ⟨T, hT⟩ := Classical.axiomOfChoice HT
    exact ⟨T, fun i n q h1 h2 => hT n i q h1 h2⟩
  obtain ⟨T, hT⟩ := hT
  obtain ⟨T2, hT2, n, frS, upS, vS, hrun, hS, hQ, _⟩ := hends T
  have chain : ∀ i, runN P i (s.vm T2) = .next ((c i).1.vm T2) := by
    intro i
    induction i with
    | zero => rfl
    | succ i ih =>
      rw [runN_add, ih]
      have hle : s.v.drawn ≤ (c i).1.v.drawn := mono 0 i (Nat.zero_le _)
      have := (hnx (c i)).2 T2 (fun n q h1 h2 => by rw [hT2 n q (by omega)]; exact hT i n q h1 h2)
      simp only [runN, this, cs]
  rw [chain n] at hrun
  simp only [Stepped.next.injEq] at hrun
  exact (c n).2.2.2.2 ⟨.leaf, vm_at hrun hQ⟩

theorem ends_of_steps {s : St} (h : ∀ T, ∃ frS upS vS, Steps P (s.vm T) (lone frS (upS ++ [trap]) vS) ∧ OkFr frS ∧ Q frS upS vS ∧ ∀ b o, Ch b → vS.heap[b]? = some o → ¬ IsMap o) : Ends P Ch Q s := fun T =>
  let ⟨frS, upS, vS, ⟨n, hn⟩, h1, h2, h3⟩ := h T
  ⟨T, fun _ _ _ => rfl, n, frS, upS, vS, hn, h1, h2, h3⟩
end
end Go.Proofs.Ytneclhkpgalnlaa.Sm
