/-
  THE COURT, the plain law: what rules say of words, given facts: the least pair of proved and disproved words.
-/
import Derived.Test.YtmfglflahlddbaaRuAct
namespace Go.Proofs.Ytmfglflahlddbaa
set_option linter.unusedVariables false
set_option linter.unusedSimpArgs false

/-! ### the court: what rules say, given what is proved (y) and disproved (n) -/
def holdsB (y : Int → Bool) (r : Rl) : Bool := r.ifs.all y
def failsB (n : Int → Bool) (r : Rl) : Bool := r.ifs.any n
/-- some rule for x that holds; each rule against it fails, or is beaten -/
def beatenB (rs : List Rl) (y : Int → Bool) (x : Int) (s : Rl) : Bool := rs.any fun t => (t.hd == x) && (holdsB y t && decide (s.rk < t.rk))
def prvB (rs : List Rl) (y n : Int → Bool) (x : Int) : Bool := (rs.any fun r => (r.hd == x) && holdsB y r) && (!rs.any fun s => (s.hd == -x) && !(failsB n s || beatenB rs y x s))
def beatsB (rs : List Rl) (n : Int → Bool) (x : Int) (s : Rl) : Bool := !rs.any fun t => (t.hd == x) && !(failsB n t || decide (t.rk ≤ s.rk))
def allFailB (rs : List Rl) (n : Int → Bool) (x : Int) : Bool := !rs.any fun r => (r.hd == x) && !failsB n r
def disB (rs : List Rl) (y n : Int → Bool) (x : Int) : Bool := allFailB rs n x || rs.any fun s => (s.hd == -x) && (holdsB y s && beatsB rs n x s)
def facB (fs : List Int) (x : Int) : Bool := fs.any fun z => x == z
/-- the program's steps -/
def stepY (fs : List Int) (rs : List Rl) (y n : Int → Bool) (x : Int) : Bool := facB fs x || (!facB fs (-x) && prvB rs y n x)
def stepN (fs : List Int) (rs : List Rl) (y n : Int → Bool) (x : Int) : Bool := !facB fs x && (facB fs (-x) || disB rs y n x)
def Le (y y' : Int → Bool) : Prop := ∀ x, y x = true → y' x = true
theorem holds_mono {y y' : Int → Bool} (h : Le y y') (r : Rl) (hh : holdsB y r = true) : holdsB y' r = true := by
  unfold holdsB at *; rw [List.all_eq_true] at *; exact fun x hx => h x (hh x hx)
theorem fails_mono {y y' : Int → Bool} (h : Le y y') (r : Rl) (hh : failsB y r = true) : failsB y' r = true := by
  unfold failsB at *; rw [List.any_eq_true] at *; obtain ⟨x, hx, h1⟩ := hh; exact ⟨x, hx, h x h1⟩
theorem beaten_mono {rs : List Rl} {y y' : Int → Bool} (h : Le y y') (x : Int) (s : Rl) (hh : beatenB rs y x s = true) : beatenB rs y' x s = true := by
  unfold beatenB at *; rw [List.any_eq_true] at *
  obtain ⟨t, ht, h1⟩ := hh
  simp only [Bool.and_eq_true] at h1
  exact ⟨t, ht, by simp only [Bool.and_eq_true]; exact ⟨h1.1, holds_mono h t h1.2.1, h1.2.2⟩⟩
theorem prv_mono {rs : List Rl} {y y' n n' : Int → Bool} (h : Le y y') (k : Le n n') (x : Int) (hh : prvB rs y n x = true) : prvB rs y' n' x = true := by
  unfold prvB at *
  simp only [Bool.and_eq_true, Bool.not_eq_true'] at *
  obtain ⟨h1, h2⟩ := hh
  refine ⟨?_, ?_⟩
  · rw [List.any_eq_true] at *
    obtain ⟨r, hr, h3⟩ := h1
    simp only [Bool.and_eq_true] at h3
    exact ⟨r, hr, by simp only [Bool.and_eq_true]; exact ⟨h3.1, holds_mono h r h3.2⟩⟩
  · rw [List.any_eq_false] at *
    intro s hs h3
    apply h2 s hs
    simp only [Bool.and_eq_true, Bool.not_eq_true', Bool.or_eq_false_iff] at *
    refine ⟨h3.1, ?_, ?_⟩
    · cases e : failsB n s
      · rfl
      · rw [fails_mono k s e] at h3; exact absurd h3.2.1 (by decide)
    · cases e : beatenB rs y x s
      · rfl
      · rw [beaten_mono h x s e] at h3; exact absurd h3.2.2 (by decide)
theorem beats_mono {rs : List Rl} {n n' : Int → Bool} (k : Le n n') (x : Int) (s : Rl) (hh : beatsB rs n x s = true) : beatsB rs n' x s = true := by
  unfold beatsB at *
  simp only [Bool.not_eq_true'] at *
  rw [List.any_eq_false] at *
  intro t ht h3
  apply hh t ht
  simp only [Bool.and_eq_true, Bool.not_eq_true', Bool.or_eq_false_iff] at *
  refine ⟨h3.1, ?_, h3.2.2⟩
  cases e : failsB n t
  · rfl
  · rw [fails_mono k t e] at h3; exact absurd h3.2.1 (by decide)
theorem allFail_mono {rs : List Rl} {n n' : Int → Bool} (k : Le n n') (x : Int) (hh : allFailB rs n x = true) : allFailB rs n' x = true := by
  unfold allFailB at *
  simp only [Bool.not_eq_true'] at *
  rw [List.any_eq_false] at *
  intro t ht h3
  apply hh t ht
  simp only [Bool.and_eq_true, Bool.not_eq_true'] at *
  refine ⟨h3.1, ?_⟩
  cases e : failsB n t
  · rfl
  · rw [fails_mono k t e] at h3; exact absurd h3.2 (by decide)
theorem dis_mono {rs : List Rl} {y y' n n' : Int → Bool} (h : Le y y') (k : Le n n') (x : Int) (hh : disB rs y n x = true) : disB rs y' n' x = true := by
  unfold disB at *
  simp only [Bool.or_eq_true] at *
  rcases hh with h1 | h1
  · exact .inl (allFail_mono k x h1)
  · right
    rw [List.any_eq_true] at *
    obtain ⟨s, hs, h3⟩ := h1
    simp only [Bool.and_eq_true] at h3
    exact ⟨s, hs, by simp only [Bool.and_eq_true]; exact ⟨h3.1, holds_mono h s h3.2.1, beats_mono k x s h3.2.2⟩⟩
theorem stepY_mono {fs : List Int} {rs : List Rl} {y y' n n' : Int → Bool} (h : Le y y') (k : Le n n') (x : Int) (hh : stepY fs rs y n x = true) : stepY fs rs y' n' x = true := by
  unfold stepY at *
  simp only [Bool.or_eq_true, Bool.and_eq_true] at *
  exact hh.imp id fun h1 => ⟨h1.1, prv_mono h k x h1.2⟩
theorem stepN_mono {fs : List Int} {rs : List Rl} {y y' n n' : Int → Bool} (h : Le y y') (k : Le n n') (x : Int) (hh : stepN fs rs y n x = true) : stepN fs rs y' n' x = true := by
  unfold stepN at *
  simp only [Bool.or_eq_true, Bool.and_eq_true] at *
  exact ⟨hh.1, hh.2.imp id fun h1 => dis_mono h k x h1⟩
/-- a pair that no step enlarges -/
def Closed (fs : List Int) (rs : List Rl) (y n : Int → Bool) : Prop := ∀ x, wordB x = true → (stepY fs rs y n x = true → y x = true) ∧ (stepN fs rs y n x = true → n x = true)
/-- the least such pair -/
noncomputable def lfpY (fs : List Int) (rs : List Rl) (x : Int) : Bool := by
  classical exact decide (wordB x = true ∧ ∀ y n, Closed fs rs y n → y x = true)
noncomputable def lfpN (fs : List Int) (rs : List Rl) (x : Int) : Bool := by
  classical exact decide (wordB x = true ∧ ∀ y n, Closed fs rs y n → n x = true)
theorem lfpY_iff {fs : List Int} {rs : List Rl} {x : Int} : lfpY fs rs x = true ↔ (wordB x = true ∧ ∀ y n, Closed fs rs y n → y x = true) := by simp [lfpY]
theorem lfpN_iff {fs : List Int} {rs : List Rl} {x : Int} : lfpN fs rs x = true ↔ (wordB x = true ∧ ∀ y n, Closed fs rs y n → n x = true) := by simp [lfpN]
/-- a pair that lies below the least one -/
def Sound (fs : List Int) (rs : List Rl) (y n : Int → Bool) : Prop := Le y (lfpY fs rs) ∧ Le n (lfpN fs rs)
theorem lfp_le {fs : List Int} {rs : List Rl} {y n : Int → Bool} (h : Closed fs rs y n) : Le (lfpY fs rs) y ∧ Le (lfpN fs rs) n :=
  ⟨fun _ hx => (lfpY_iff.1 hx).2 y n h, fun _ hx => (lfpN_iff.1 hx).2 y n h⟩
theorem soundY {fs : List Int} {rs : List Rl} {y n : Int → Bool} (h : Sound fs rs y n) {x : Int} (hw : wordB x = true) (hs : stepY fs rs y n x = true) : lfpY fs rs x = true := by
  rw [lfpY_iff]
  refine ⟨hw, fun y' n' hc => (hc x hw).1 (stepY_mono (fun z hz => (lfp_le hc).1 z (h.1 z hz)) (fun z hz => (lfp_le hc).2 z (h.2 z hz)) x hs)⟩
theorem soundN {fs : List Int} {rs : List Rl} {y n : Int → Bool} (h : Sound fs rs y n) {x : Int} (hw : wordB x = true) (hs : stepN fs rs y n x = true) : lfpN fs rs x = true := by
  rw [lfpN_iff]
  refine ⟨hw, fun y' n' hc => (hc x hw).2 (stepN_mono (fun z hz => (lfp_le hc).1 z (h.1 z hz)) (fun z hz => (lfp_le hc).2 z (h.2 z hz)) x hs)⟩
theorem sound_closed {fs : List Int} {rs : List Rl} {y n : Int → Bool} (h : Sound fs rs y n) (hc : Closed fs rs y n) : y = lfpY fs rs ∧ n = lfpN fs rs := by
  constructor
  · funext x
    cases e : y x
    · cases e2 : lfpY fs rs x
      · rfl
      · rw [(lfp_le hc).1 x e2] at e; cases e
    · rw [h.1 x e]
  · funext x
    cases e : n x
    · cases e2 : lfpN fs rs x
      · rfl
      · rw [(lfp_le hc).2 x e2] at e; cases e
    · rw [h.2 x e]
theorem sound_none (fs : List Int) (rs : List Rl) : Sound fs rs (fun _ => false) (fun _ => false) := ⟨fun _ h => (by cases h), fun _ h => (by cases h)⟩
/-- a set with one more -/
def putB (y : Int → Bool) (x : Int) : Int → Bool := fun z => y z || (z == x)
theorem le_put (y : Int → Bool) (x : Int) : Le y (putB y x) := fun z h => by simp [putB, h]
theorem sound_putY {fs : List Int} {rs : List Rl} {y n : Int → Bool} (h : Sound fs rs y n) {x : Int} (hx : lfpY fs rs x = true) : Sound fs rs (putB y x) n :=
  ⟨fun z hz => by
    unfold putB at hz
    simp only [Bool.or_eq_true, beq_iff_eq] at hz
    rcases hz with hz | rfl
    · exact h.1 z hz
    · exact hx, h.2⟩
theorem sound_putN {fs : List Int} {rs : List Rl} {y n : Int → Bool} (h : Sound fs rs y n) {x : Int} (hx : lfpN fs rs x = true) : Sound fs rs y (putB n x) :=
  ⟨h.1, fun z hz => by
    unfold putB at hz
    simp only [Bool.or_eq_true, beq_iff_eq] at hz
    rcases hz with hz | rfl
    · exact h.2 z hz
    · exact hx⟩
/-! ### the words in order; how many are said -/
def wordAt (k : Nat) : Int := if k % 2 = 0 then ((k / 2 + 1 : Nat) : Int) else -((k / 2 + 1 : Nat) : Int)
def placeOf (x : Int) : Nat := if x < 0 then (-2 * x - 1).toNat else (2 * x - 2).toNat
theorem word_place {x : Int} (h : wordB x = true) : placeOf x < 32 ∧ wordAt (placeOf x) = x := by
  simp [wordB, inB] at h
  unfold placeOf wordAt
  split
  · refine ⟨by omega, ?_⟩
    rw [if_neg (by omega)]; omega
  · refine ⟨by omega, ?_⟩
    rw [if_pos (by omega)]; omega
theorem place_word {k : Nat} (h : k < 32) : wordB (wordAt k) = true ∧ placeOf (wordAt k) = k := by
  unfold wordAt
  split
  · refine ⟨by simp [wordB, inB]; omega, ?_⟩
    unfold placeOf
    rw [if_neg (by omega)]; omega
  · refine ⟨by simp [wordB, inB]; omega, ?_⟩
    unfold placeOf
    rw [if_pos (by omega)]; omega
def wordList : List Int := (List.range 32).map wordAt
def cntB (y : Int → Bool) : Nat := (wordList.filter y).length
theorem wordList_mem {x : Int} : x ∈ wordList ↔ wordB x = true := by
  unfold wordList
  rw [List.mem_map]
  constructor
  · rintro ⟨k, hk, rfl⟩; exact (place_word (List.mem_range.1 hk)).1
  · intro h; exact ⟨_, List.mem_range.2 (word_place h).1, (word_place h).2⟩
theorem cnt_le (y : Int → Bool) : cntB y ≤ 32 := by
  have := List.length_filter_le y wordList
  simpa [cntB, wordList] using this
theorem filter_put (y : Int → Bool) (x : Int) : ∀ l : List Int, x ∈ l → y x = false → (l.filter y).length < (l.filter (putB y x)).length
  | [], h, _ => by cases h
  | a :: l, h, hx => by
    have hle : ∀ l : List Int, (l.filter y).length ≤ (l.filter (putB y x)).length := fun l => by
      induction l with
      | nil => exact Nat.le_refl _
      | cons b l ih =>
        rw [List.filter_cons, List.filter_cons]
        cases e : y b
        · simp only [Bool.false_eq_true, if_false]
          split
          · rw [List.length_cons]; omega
          · exact ih
        · rw [if_pos rfl, if_pos (le_put y x b e), List.length_cons, List.length_cons]; omega
    rw [List.filter_cons, List.filter_cons]
    by_cases e : a = x
    · subst e
      rw [hx, if_neg (by decide), if_pos (by simp [putB]), List.length_cons]
      have := hle l
      omega
    · have hm : x ∈ l := by
        rcases List.mem_cons.1 h with h | h
        · exact absurd h.symm e
        · exact h
      have ih := filter_put y x l hm hx
      cases e2 : y a
      · rw [if_neg (by decide), if_neg (by simp [putB, e2, e])]; exact ih
      · rw [if_pos rfl, if_pos (le_put y x a e2), List.length_cons, List.length_cons]; omega
theorem filter_put_eq (y : Int → Bool) (x : Int) (hx : y x = false) : ∀ l : List Int, l.Nodup → (l.filter (putB y x)).length = (l.filter y).length + (if x ∈ l then 1 else 0)
  | [], _ => rfl
  | a :: l, hn => by
    have ih := filter_put_eq y x hx l (List.nodup_cons.1 hn).2
    rw [List.filter_cons, List.filter_cons]
    by_cases e : a = x
    · subst e
      have hnl := (List.nodup_cons.1 hn).1
      rw [if_neg hnl] at ih
      have e1 : putB y a a = true := by simp [putB]
      rw [e1, hx, if_pos rfl, if_neg (by decide), List.length_cons, ih, if_pos (by simp)]
    · have hm : (x ∈ a :: l) ↔ x ∈ l := by
        rw [List.mem_cons]
        exact ⟨fun h => h.resolve_left fun h => e h.symm, .inr⟩
      cases e2 : y a
      · have e1 : putB y x a = false := by simp [putB, e2, e]
        rw [e1, if_neg (by decide), ih]; simp only [hm]; simp
      · have e1 : putB y x a = true := le_put y x a e2
        rw [e1, if_pos rfl, List.length_cons, ih]; simp only [hm]; simp; omega
theorem wordList_nodup : wordList.Nodup := by decide
theorem cnt_put_eq {y : Int → Bool} {x : Int} (hw : wordB x = true) (h : y x = false) : cntB (putB y x) = cntB y + 1 := by
  have := filter_put_eq y x h wordList wordList_nodup
  rw [if_pos (wordList_mem.2 hw)] at this
  exact this
theorem cnt_put {y : Int → Bool} {x : Int} (hw : wordB x = true) (h : y x = false) : cntB y < cntB (putB y x) := filter_put y x _ (wordList_mem.2 hw) h
end Go.Proofs.Ytmfglflahlddbaa
