/-
  THE COURT, plain lemmas: facts have strictly ascending atoms; a map is written, and no cell changes; a round's measure.
-/
import Derived.Test.YtmfglflahlddbaaCourtP
namespace Go.Proofs.Ytmfglflahlddbaa
open Go.ChangeShapes Go.WideShapes Go.ChangeAt Go.RowKit Go.Maps
set_option linter.unusedVariables false
set_option linter.unusedSimpArgs false

theorem words_lt {zs : List Int} (h : wordsB zs = true) : ∀ (j i : Nat), i < j → j < zs.length → atomI (zs[i]?.getD 0) < atomI (zs[j]?.getD 0)
  | 0, i, hi, _ => absurd hi (by omega)
  | j + 1, i, hi, hj => by
    have hs := wordsTo_at (zs := zs) (k := zs.length) h hj
    unfold stepOk at hs
    simp only [Bool.and_eq_true, Bool.or_eq_true, decide_eq_true_eq, Nat.add_sub_cancel] at hs
    rcases hs.2 with h0 | h1
    · omega
    · by_cases e : i = j
      · subst e; exact h1
      · exact Int.lt_trans (words_lt h j i (by omega) (by omega)) h1
theorem words_at {zs : List Int} (h : wordsB zs = true) {x : Int} (hx : x ∈ zs) : wordB x = true := by
  obtain ⟨i, hi, rfl⟩ := List.getElem_of_mem hx
  have := wordsTo_word (zs := zs) (k := zs.length) h hi
  rwa [List.getElem?_eq_getElem hi] at this
theorem facB_iff {fs : List Int} {x : Int} : facB fs x = true ↔ x ∈ fs := by
  unfold facB
  rw [List.any_eq_true]
  constructor
  · rintro ⟨z, hz, e⟩; rw [beq_iff_eq] at e; subst e; exact hz
  · exact fun h => ⟨x, h, by simp⟩
theorem words_opp {zs : List Int} {x : Int} (h : wordsB zs = true) (h1 : x ∈ zs) : -x ∉ zs := by
  intro h2
  have hw := wordB_iff.1 (words_at h h1)
  obtain ⟨i, hi, e1⟩ := List.getElem_of_mem h1
  obtain ⟨j, hj, e2⟩ := List.getElem_of_mem h2
  have l1 : zs[i]?.getD 0 = x := by rw [List.getElem?_eq_getElem hi, e1]; rfl
  have l2 : zs[j]?.getD 0 = -x := by rw [List.getElem?_eq_getElem hj, e2]; rfl
  have ha : atomI (-x) = atomI x := by unfold atomI; omega
  rcases Nat.lt_trichotomy i j with h3 | h3 | h3
  · have := words_lt h j i h3 hj
    rw [l1, l2, ha] at this; omega
  · subst h3; rw [e1] at e2; omega
  · have := words_lt h i j h3 hi
    rw [l1, l2, ha] at this; omega
theorem words_ge {zs : List Int} (h : wordsB zs = true) : ∀ i, i < zs.length → (i : Int) + 1 ≤ atomI (zs[i]?.getD 0) ∧ atomI (zs[i]?.getD 0) ≤ 16
  | 0, hi => by
    have := wordB_iff.1 (wordsTo_word (zs := zs) (k := zs.length) h hi)
    unfold atomI; omega
  | i + 1, hi => by
    have h1 := words_ge h i (by omega)
    have h2 := words_lt h (i + 1) i (by omega) hi
    have := wordB_iff.1 (wordsTo_word (zs := zs) (k := zs.length) h hi)
    unfold atomI at *; omega
theorem words_len16 {zs : List Int} (h : wordsB zs = true) : zs.length ≤ 16 := by
  rcases Nat.eq_zero_or_pos zs.length with h0 | h0
  · omega
  · have := words_ge h (zs.length - 1) (by omega)
    omega
/-- the starting state: facts are proved, their opposites are disproved -/
theorem fac_opp {fs : List Int} (h : wordsB fs = true) {x : Int} (hx : facB fs x = true) : facB fs (-x) = false := by
  cases e : facB fs (-x)
  · rfl
  · exact absurd (facB_iff.1 e) (words_opp h (facB_iff.1 hx))
theorem start_sound {fs : List Int} {rs : List Rl} (h : wordsB fs = true) : Sound fs rs (facB fs) (fun x => facB fs (-x)) := by
  constructor
  · intro x hx
    exact soundY (sound_none fs rs) (words_at h (facB_iff.1 hx)) (by unfold stepY; rw [hx]; rfl)
  · intro x hx
    have h1 := fac_opp h hx
    rw [Int.neg_neg] at h1
    have hw := wordB_iff.1 (words_at h (facB_iff.1 hx))
    exact soundN (sound_none fs rs) (wordB_iff.2 (by omega)) (by unfold stepN; rw [h1]; have : facB fs (-x) = true := hx; rw [this]; rfl)
theorem step_fac {fs : List Int} {rs : List Rl} {y n : Int → Bool} {x : Int} (h : wordsB fs = true) (hy : Le (facB fs) y) (hn : Le (fun x => facB fs (-x)) n) (hx : facB fs x = true ∨ facB fs (-x) = true) : (stepY fs rs y n x = true → y x = true) ∧ (stepN fs rs y n x = true → n x = true) := by
  rcases hx with hx | hx
  · exact ⟨fun _ => hy x hx, fun h2 => (by unfold stepN at h2; rw [hx] at h2; cases h2)⟩
  · have h1 := fac_opp h hx
    rw [Int.neg_neg] at h1
    exact ⟨fun h2 => (by unfold stepY at h2; rw [h1, hx] at h2; cases h2), fun _ => hn x hx⟩
theorem stepY_of {fs : List Int} {rs : List Rl} {y n : Int → Bool} {x : Int} (h1 : facB fs x = false) (h2 : facB fs (-x) = false) : stepY fs rs y n x = prvB rs y n x := by unfold stepY; rw [h1, h2]; rfl
theorem stepN_of {fs : List Int} {rs : List Rl} {y n : Int → Bool} {x : Int} (h1 : facB fs x = false) (h2 : facB fs (-x) = false) : stepN fs rs y n x = disB rs y n x := by unfold stepN; rw [h1, h2]; rfl
/-- a list of words in which no step enlarges the sets -/
def StepsTo (fs : List Int) (rs : List Rl) (y n : Int → Bool) (k : Nat) : Prop := ∀ x ∈ wordList.take k, (stepY fs rs y n x = true → y x = true) ∧ (stepN fs rs y n x = true → n x = true)
theorem steps_zero {fs : List Int} {rs : List Rl} {y n : Int → Bool} : StepsTo fs rs y n 0 := fun x h => by simp at h
theorem steps_more {fs : List Int} {rs : List Rl} {y n : Int → Bool} {k : Nat} {x : Int} (h : StepsTo fs rs y n k) (hk : wordList[k]? = some x) (h1 : stepY fs rs y n x = true → y x = true) (h2 : stepN fs rs y n x = true → n x = true) : StepsTo fs rs y n (k + 1) := by
  intro z hz
  rw [List.take_add_one, hk, List.mem_append] at hz
  rcases hz with hz | hz
  · exact h z hz
  · simp at hz; subst hz; exact ⟨h1, h2⟩
theorem steps_all {fs : List Int} {rs : List Rl} {y n : Int → Bool} (h : StepsTo fs rs y n 32) : Closed fs rs y n := fun x hx =>
  h x (by rw [List.take_of_length_le (by decide)]; exact wordList_mem.2 hx)
theorem wordList_at {k : Nat} (h : k < 32) : ∃ x, wordList[k]? = some x ∧ wordB x = true := by
  refine ⟨wordAt k, ?_, (place_word h).1⟩
  unfold wordList
  rw [List.getElem?_map, List.getElem?_range h]; rfl
/-- a map is written: no cell changes -/
theorem MapB.cells {w : World} {b : Nat} {y : Int → Bool} (h : MapB w b y) : ∃ es c, w.heap[b]? = some (.map es c) := by
  obtain ⟨D, ⟨es, clock, hb, _⟩, _⟩ := h
  exact ⟨_, _, hb⟩
theorem cells_kept {w w' : World} {b : Nat} {y y' : Int → Bool} (h : MapB w b y) (h' : MapB w' b y') (hg : w.grownBy w' (some b)) {p : Addr} (hp : p.block < w.heap.size) : w'.cell? p = w.cell? p := by
  by_cases e : p.block = b
  · obtain ⟨es, c, h1⟩ := h.cells
    obtain ⟨es', c', h2⟩ := h'.cells
    unfold World.cell?
    rw [e, h1, h2]
  · have := hg.block p.block hp (by simpa using e)
    unfold World.cell?
    rw [this]
theorem below_map {W w w' : World} {b : Nat} (h : Below W.heap.size W w) (hg : w.grownBy w' (some b)) (hb : W.heap.size ≤ b) (hs : b < w.heap.size) : Below W.heap.size W w' :=
  h.grown hg h.size (fun k hk => by injection hk with hk; omega)
section
variable {w w' : World} {cb : Nat} {A : Option Addr} {m c : Nat} {B : Option Addr} {k d : Nat} {bp bn : Nat} {rs : List Ru} {fs : List Int} {y n : Int → Bool}
theorem Court.putY (h : Court w cb A m c B k d bp bn rs fs y n) {x : Int} (hm : MapB w' bp (putB y x)) (hg : w.grownBy w' (some bp)) (hne : bn ≠ bp) : Court w' cb A m c B k d bp bn rs fs (putB y x) n := by
  have hk : ∀ p : Addr, p.block < w.heap.size → w'.cell? p = w.cell? p := fun p hp => cells_kept h.my hm hg hp
  exact ⟨Nat.lt_of_lt_of_le h.lt hg.size, (hk ⟨cb, 0, none⟩ h.lt).trans h.c0, (hk ⟨cb, 2, none⟩ h.lt).trans h.c2, (hk ⟨cb, 3, none⟩ h.lt).trans h.c3, (hk ⟨cb, 4, none⟩ h.lt).trans h.c4,
    (h.rr.keep hk).more hg.size, h.rn, h.ml, (h.fr.keep hk).more hg.size, h.kl, hm, h.mn.kept hg (by simpa using hne)⟩
theorem Court.putN (h : Court w cb A m c B k d bp bn rs fs y n) {x : Int} (hm : MapB w' bn (putB n x)) (hg : w.grownBy w' (some bn)) (hne : bp ≠ bn) : Court w' cb A m c B k d bp bn rs fs y (putB n x) := by
  have hk : ∀ p : Addr, p.block < w.heap.size → w'.cell? p = w.cell? p := fun p hp => cells_kept h.mn hm hg hp
  exact ⟨Nat.lt_of_lt_of_le h.lt hg.size, (hk ⟨cb, 0, none⟩ h.lt).trans h.c0, (hk ⟨cb, 2, none⟩ h.lt).trans h.c2, (hk ⟨cb, 3, none⟩ h.lt).trans h.c3, (hk ⟨cb, 4, none⟩ h.lt).trans h.c4,
    (h.rr.keep hk).more hg.size, h.rn, h.ml, (h.fr.keep hk).more hg.size, h.kl, h.my.kept hg (by simpa using hne), hm⟩
end
end Go.Proofs.Ytmfglflahlddbaa
