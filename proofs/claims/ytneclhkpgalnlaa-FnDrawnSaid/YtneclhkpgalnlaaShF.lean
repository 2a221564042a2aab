/-
  shared: the starter's script.
-/
import Derived.Test.YtneclhkpgalnlaaShE
namespace Go.Proofs.Ytneclhkpgalnlaa
open Go.ChangeShapes Go.WideShapes Go.ChangeAt Go.RowKit Sm Go.Conc
set_option linter.unusedVariables false

section
variable {b1 b2 b3 b4 b5 bC n i : Nat} {t : Array Value} {v w : World} {Ch : Nat → Prop}
/-- What the starter reads in the phase. -/
structure SG (Ch : Nat → Prop) (b2 b5 bC n : Nat) (v : World) : Prop where
  h2 : v.cell? ⟨b2, 0, none⟩ = some (.int .i64 n)
  h5 : v.cell? ⟨b5, 0, none⟩ = some (.chan (some bC))
  ch : ∀ b, Ch b → ∃ o, v.heap[b]? = some o ∧ ¬ IsMap o
theorem SG.old (h : SG Ch b2 b5 bC n v) (ho : OldSame v w) : SG Ch b2 b5 bC n w := ⟨ho.cell h.h2, ho.cell h.h5, fun b hb => by
  obtain ⟨o, h1, h2⟩ := h.ch b hb
  exact ⟨o, ho.get h1, h2⟩⟩
theorem frz_cell (v : World) (p : Addr) : (frz v).cell? p = v.cell? p := by
  unfold World.cell? frz
  simp only [Array.getElem?_map]
  cases v.heap[p.block]? with
  | none => rfl
  | some o => cases o <;> rfl
theorem SG.frz (h : SG Ch b2 b5 bC n v) : SG Ch b2 b5 bC n (frz v) := ⟨(frz_cell _ _).trans h.h2, (frz_cell _ _).trans h.h5, fun b hb => by
  obtain ⟨o, h1, h2⟩ := h.ch b hb
  refine ⟨frzO o, by simp [Sm.frz, h1], ?_⟩
  cases o <;> exact h2⟩
theorem SG.rt {T : Tape} {d : Nat} (h : SG Ch b2 b5 bC n v) : SG Ch b2 b5 bC n (Sm.rt v T d) := ⟨h.h2, h.h5, h.ch⟩
theorem SG.map (h : SG Ch b2 b5 bC n v) : ∀ b o, Ch b → v.heap[b]? = some o → ¬ IsMap o := fun b o hb hg => by
  obtain ⟨o1, h1, h2⟩ := h.ch b hb
  rw [h1] at hg
  cases hg; exact h2

/-- Behind the last receive. -/
def SFin (b1 b2 b3 b4 b5 n : Nat) (up0 : List Frame) : VStop := fun fr up v => up = up0 ∧ ∃ t, S2 b1 b2 b3 b4 b5 n (n - 1) t ∧ fr = sB.at ⟨t, []⟩ (.inRegion (opsOf sR9) [] :: sK2)

theorem S2.put (h : S2 b1 b2 b3 b4 b5 n i t) (x : Value) : S2 b1 b2 b3 b4 b5 n i (t.setIfInBounds 24 x) := by
  obtain ⟨z0, z1, z2, z6, x9, x10, x11, x12, x13, x14, x15, x16, x17, x18, x19, x22, x23, x24, x25, x26, rfl⟩ := h
  exact ⟨z0, z1, z2, z6, x9, x10, x11, x12, x13, x14, x15, x16, x17, x18, x19, x22, x23, x, x25, x26, by simp only [List.setIfInBounds_toArray, List.set_cons_zero, List.set_cons_succ]⟩
theorem s_rcvAt (h : t.getD 23 undef = .chan (some bC)) : RcvOp bC (sB.at ⟨t, []⟩ (.inRegion (opsOf sR9) [1] :: sK2)) (sB.at ⟨t.setIfInBounds 24 (.bool true), []⟩ (.inRegion (opsOf sR9) [] :: sK2)) := by
  refine ⟨t, sRc, fun x => sB.at ⟨t.setIfInBounds 24 x, []⟩ (.inRegion (opsOf sR9) [] :: sK2), 47, 23, ⟨_, _, _, _, _, _, rfl, s_rc, s_rcG, fun x => ?_⟩, s_rcOp, h, rfl⟩
  rw [s_rcD]; rfl

theorem s_rnext (up : List Frame) : ∀ (r i : Nat) (t : Array Value) (v : World), i + 1 + r = n → n ≤ 8 → S2 b1 b2 b3 b4 b5 n i t → SG Ch b2 b5 bC n v → RNext Try.prog Ch bC (SFin b1 b2 b3 b4 b5 n up) r (sB.at ⟨t, []⟩ (.inRegion (opsOf sR9) [] :: sK2)) up v := by
  intro r
  induction r with
  | zero =>
    intro i t v hi hn hS hG
    refine ⟨rfl, t, ?_, rfl⟩
    rw [show n - 1 = i from by omega]; exact hS
  | succ r ih =>
    intro i t v hi hn hS hG T d
    obtain ⟨t1, hS1, hs1⟩ := recv_next (v := Sm.rt v T d) hS (by omega) (up ++ [trap])
    obtain ⟨t2, hS2, h23, hs2⟩ := head2_recv (v := Sm.rt v T d) hS1 (by omega) hG.rt.h5 (up ++ [trap])
    exact ⟨_, up, _, Steps.trans hs1 hs2, ⟨rfl, .inl rfl⟩, ⟨_, s_rcvAt h23, ih (i + 1) _ _ (by omega) hn (hS2.put _) hG.rt⟩, hG.rt.map⟩

theorem s_goAt (up : List Frame) (b : Nat) (hb : v.heap[b]? = some (.cells #[.int .i64 (i : Nat)] 2 (0, 0))) (h : t.getD 18 undef = .func (.func 29) #[] #[.pointer (some ⟨b, 0, none⟩), .pointer (some ⟨b1, 0, none⟩), .pointer (some ⟨b2, 0, none⟩), .pointer (some ⟨b3, 0, none⟩), .pointer (some ⟨b4, 0, none⟩), .pointer (some ⟨b5, 0, none⟩)]) :
    GoAt 29 [b1, b2, b3, b4, b5] 2 i (sB.at ⟨t, []⟩ (.inRegion (opsOf sR5) [1] :: sK1)) (sB.at ⟨t, []⟩ (.inRegion (opsOf sR5) [] :: sK1)) v := by
  refine ⟨b, ⟨t, sGo, fun x => sB.at ⟨t, []⟩ (.inRegion (opsOf sR5) [] :: sK1), callOf sGo.op, 18, ⟨_, _, _, _, _, _, rfl, s_go, s_goG, fun x => ?_⟩, s_goOp, s_goC, s_goA, ?_, rfl⟩, hb⟩
  · rw [s_goD]; rfl
  · rw [h]; simp

/-- ████ THE STARTER's SCRIPT, FROM BEHIND A GO STATEMENT ████ -/
theorem s_gnext (up : List Frame) : ∀ (s i : Nat) (t : Array Value) (v : World), i + 1 + s = n → n ≤ 8 → S1 b1 b2 b3 b4 b5 n i t → SG Ch b2 b5 bC n v →
    GNext Try.prog Ch 29 [b1, b2, b3, b4, b5] 2 bC n (SFin b1 b2 b3 b4 b5 n up) s (sB.at ⟨t, []⟩ (.inRegion (opsOf sR5) [] :: sK1)) up v := by
  intro s
  induction s with
  | zero =>
    intro i t v hi hn hS hG
    obtain ⟨m, hm⟩ : ∃ m, n = m + 1 := ⟨i, by omega⟩
    show RNext Try.prog Ch bC (SFin b1 b2 b3 b4 b5 n up) n _ up v
    have key : RNext Try.prog Ch bC (SFin b1 b2 b3 b4 b5 n up) (m + 1) (sB.at ⟨t, []⟩ (.inRegion (opsOf sR5) [] :: sK1)) up v := by
      intro T d
      obtain ⟨t1, hS1, hs1⟩ := go_next (v := Sm.rt v T d) hS (by omega) (up ++ [trap])
      rw [show i + 1 = n from by omega] at hS1
      obtain ⟨t2, hS2, hs2⟩ := head1_exit (v := Sm.rt v T d) hS1 hG.rt.h2 (up ++ [trap])
      obtain ⟨t3, hS3, h23, hs3⟩ := head2_recv (v := Sm.rt v T d) hS2 (by omega) hG.rt.h5 (up ++ [trap])
      exact ⟨_, up, _, Steps.trans hs1 (Steps.trans hs2 hs3), ⟨rfl, .inl rfl⟩, ⟨_, s_rcvAt h23, s_rnext up m 0 _ _ (by omega) hn (hS3.put _) hG.rt⟩, hG.rt.map⟩
    rw [← hm] at key; exact key
  | succ s ih =>
    intro i t v hi hn hS hG T d
    obtain ⟨t1, hS1, hs1⟩ := go_next (v := Sm.rt v T d) hS (by omega) (up ++ [trap])
    obtain ⟨t2, v2, hS2, ho, hbox, h18, hs2⟩ := head1_go (v := Sm.rt v T d) hS1 (by omega) (up ++ [trap])
    have hG2 := hG.rt (T := T) (d := d) |>.old ho
    refine ⟨_, up, v2, Steps.trans hs1 hs2, ⟨rfl, .inl rfl⟩, ⟨_, ?_, ih (i + 1) t2 _ (by omega) hn hS2 hG2.frz⟩, hG2.map⟩
    rw [show n - (s + 1) = i + 1 from by omega]
    exact s_goAt up _ hbox h18

/-- ████ .. FROM ITS LOOP's HEAD ████ -/
theorem s_ghead (up : List Frame) (t : Array Value) (v : World) (h1 : 1 ≤ n) (hn : n ≤ 8) (hS : S1 b1 b2 b3 b4 b5 n 0 t) (hG : SG Ch b2 b5 bC n v) :
    GNext Try.prog Ch 29 [b1, b2, b3, b4, b5] 2 bC n (SFin b1 b2 b3 b4 b5 n up) n (sB.at ⟨t, []⟩ sH1) up v := by
  obtain ⟨m, hm⟩ : ∃ m, n = m + 1 := ⟨n - 1, by omega⟩
  have key : GNext Try.prog Ch 29 [b1, b2, b3, b4, b5] 2 bC n (SFin b1 b2 b3 b4 b5 n up) (m + 1) (sB.at ⟨t, []⟩ sH1) up v := by
    intro T d
    obtain ⟨t2, v2, hS2, ho, hbox, h18, hs2⟩ := head1_go (v := Sm.rt v T d) hS (by omega) (up ++ [trap])
    have hG2 := hG.rt (T := T) (d := d) |>.old ho
    refine ⟨_, up, v2, hs2, ⟨rfl, .inl rfl⟩, ⟨_, ?_, s_gnext up m 0 t2 _ (by omega) hn hS2 hG2.frz⟩, hG2.map⟩
    rw [show n - (m + 1) = 0 from by omega]
    exact s_goAt up _ hbox h18
  have e : GNext Try.prog Ch 29 [b1, b2, b3, b4, b5] 2 bC n (SFin b1 b2 b3 b4 b5 n up) n = GNext Try.prog Ch 29 [b1, b2, b3, b4, b5] 2 bC n (SFin b1 b2 b3 b4 b5 n up) (m + 1) := by
    congr 1
  rw [e]; exact key
end
end Go.Proofs.Ytneclhkpgalnlaa
