/-
  ProofOf: plain laws. The rounds of taken rules; the rules that are needed, forward and backward.
-/
import Derived.Test.YtinocfehjdlohaaIsP
import Derived.Test.YtinocfehjdlohaaIsI
import Derived.Test.YtinocfehjdlohaaRegT
import Derived.Test.YtinocfehjdlohaaIsS
namespace Go.Proofs.Ytinocfehjdlohaa
set_option linter.unusedVariables false
set_option linter.unusedSimpArgs false

/-! ### which rules are needed -/
def tAt (T : List Rl) (p : Nat) : Rl := T[p]?.getD noRl
/-- the first rule with a head -/
def fstH (T : List Rl) (w : Int) : Option Nat := T.findIdx? fun r => r.hd == w
theorem fstH_some {T : List Rl} {w : Int} {p : Nat} (h : fstH T w = some p) : p < T.length ∧ (tAt T p).hd = w ∧ ∀ q, q < p → (tAt T q).hd ≠ w := by
  unfold fstH at h
  rw [List.findIdx?_eq_some_iff_getElem] at h
  obtain ⟨hl, h1, h2⟩ := h
  refine ⟨hl, ?_, fun q hq => ?_⟩
  · unfold tAt; rw [List.getElem?_eq_getElem hl]; simpa using h1
  · have := h2 q hq
    unfold tAt; rw [List.getElem?_eq_getElem (by omega)]; simpa using this
theorem fstH_of {T : List Rl} {w : Int} {p : Nat} (hl : p < T.length) (h1 : (tAt T p).hd = w) (h2 : ∀ q, q < p → (tAt T q).hd ≠ w) : fstH T w = some p := by
  unfold fstH
  rw [List.findIdx?_eq_some_iff_getElem]
  refine ⟨hl, ?_, fun q hq => ?_⟩
  · unfold tAt at h1; rw [List.getElem?_eq_getElem hl] at h1; simpa using h1
  · have := h2 q hq
    unfold tAt at this; rw [List.getElem?_eq_getElem (by omega)] at this; simpa using this
theorem fstH_le {T : List Rl} {w : Int} {p : Nat} (hl : p < T.length) (h1 : (tAt T p).hd = w) : ∃ q, q ≤ p ∧ fstH T w = some q := by
  cases h : fstH T w with
  | none =>
    unfold fstH at h
    rw [List.findIdx?_eq_none_iff] at h
    have := h T[p] (List.getElem_mem hl)
    unfold tAt at h1; rw [List.getElem?_eq_getElem hl] at h1
    simp at h1; simp [h1] at this
  | some q =>
    refine ⟨q, ?_, rfl⟩
    rcases Nat.lt_or_ge p q with hq | hq
    · exact absurd h1 ((fstH_some h).2.2 p hq)
    · exact hq
/-- the rules that a word's proof needs -/
inductive Rch (T : List Rl) (fac : Int → Bool) (x : Int) : Nat → Prop
  | root {p : Nat} : fac x = false → fstH T x = some p → Rch T fac x p
  | step {q p : Nat} {w : Int} : Rch T fac x q → w ∈ (tAt T q).ifs → fac w = false → fstH T w = some p → Rch T fac x p
section
variable {T : List Rl} {fac : Int → Bool} {x : Int}
theorem Rch.lt {p : Nat} (h : Rch T fac x p) : p < T.length := by
  cases h with
  | root _ h => exact (fstH_some h).1
  | step _ _ _ h => exact (fstH_some h).1
theorem Rch.first {p : Nat} (h : Rch T fac x p) : fstH T (tAt T p).hd = some p := by
  cases h with
  | root _ h => rw [(fstH_some h).2.1]; exact h
  | step _ _ _ h => rw [(fstH_some h).2.1]; exact h
theorem Rch.trans {q p : Nat} {v : Int} (h : Rch T fac x q) (hv : v ∈ (tAt T q).ifs) (k : Rch T fac v p) : Rch T fac x p := by
  induction k with
  | root h1 h2 => exact .step h hv h1 h2
  | step _ h2 h3 h4 ih => exact .step ih h2 h3 h4
/-! the program's way: a search that marks -/
structure Dfs (T : List Rl) (fac : Int → Bool) (w : Int) (N M : Nat → Prop) : Prop where
  grow : ∀ p, N p → M p
  hit : ∀ p, fac w = false → fstH T w = some p → M p
  clo : ∀ p, M p → ¬ N p → ∀ v ∈ (tAt T p).ifs, fac v = false → ∀ q, fstH T v = some q → M q
  src : ∀ p, M p → ¬ N p → Rch T fac w p
theorem Dfs.skip {w : Int} {N : Nat → Prop} (h : fac w = true ∨ fstH T w = none ∨ ∃ p, fstH T w = some p ∧ N p) : Dfs T fac w N N :=
  ⟨fun _ h => h, fun p h1 h2 => by
    rcases h with h | h | ⟨q, h, hn⟩
    · rw [h] at h1; cases h1
    · rw [h] at h2; cases h2
    · rw [h] at h2; cases h2; exact hn, fun p h1 h2 => absurd h1 h2, fun p h1 h2 => absurd h1 h2⟩
/-- the state of the loop over a rule's Ifs: the first k are done -/
structure DfsL (T : List Rl) (fac : Int → Bool) (p : Nat) (k : Nat) (N M : Nat → Prop) : Prop where
  grow : ∀ q, N q → M q
  me : M p
  hit : ∀ v ∈ (tAt T p).ifs.take k, fac v = false → ∀ q, fstH T v = some q → M q
  clo : ∀ r, M r → ¬ N r → r ≠ p → ∀ v ∈ (tAt T r).ifs, fac v = false → ∀ q, fstH T v = some q → M q
  src : ∀ r, M r → ¬ N r → r = p ∨ ∃ v ∈ (tAt T p).ifs, Rch T fac v r
theorem DfsL.start {p : Nat} {N : Nat → Prop} : DfsL T fac p 0 N (fun q => N q ∨ q = p) :=
  ⟨fun q h => .inl h, .inr rfl, fun v hv => by simp at hv, fun r h1 h2 h3 => by rcases h1 with h | h; exact absurd h h2; exact absurd h h3, fun r h1 h2 => by rcases h1 with h | h; exact absurd h h2; exact .inl h⟩
theorem DfsL.next {p k : Nat} {v : Int} {N M M' : Nat → Prop} (h : DfsL T fac p k N M) (hv : (tAt T p).ifs[k]? = some v) (d : Dfs T fac v M M') : DfsL T fac p (k + 1) N M' := by
  refine ⟨fun q hq => d.grow q (h.grow q hq), d.grow p h.me, fun u hu hf q hq => ?_, fun r h1 h2 h3 u hu hf q hq => ?_, fun r h1 h2 => ?_⟩
  · rw [List.take_add_one, hv] at hu
    rcases List.mem_append.1 hu with hu | hu
    · exact d.grow q (h.hit u hu hf q hq)
    · simp at hu; subst hu; exact d.hit q hf hq
  · by_cases hm : M r
    · exact d.grow q (h.clo r hm h2 h3 u hu hf q hq)
    · exact d.clo r h1 hm u hu hf q hq
  · by_cases hm : M r
    · exact h.src r hm h2
    · exact .inr ⟨v, List.mem_of_getElem? hv, d.src r h1 hm⟩
theorem DfsL.done {p k : Nat} {w : Int} {N M : Nat → Prop} (h : DfsL T fac p k N M) (hk : (tAt T p).ifs.length ≤ k) (hf : fac w = false) (hp : fstH T w = some p) (hn : ¬ N p) : Dfs T fac w N M := by
  have ht : (tAt T p).ifs.take k = (tAt T p).ifs := List.take_of_length_le hk
  refine ⟨h.grow, fun q _ hq => ?_, fun r h1 h2 v hv hfv q hq => ?_, fun r h1 h2 => ?_⟩
  · rw [hp] at hq; cases hq; exact h.me
  · by_cases hr : r = p
    · subst hr; exact h.hit v (by rw [ht]; exact hv) hfv q hq
    · exact h.clo r h1 h2 hr v hv hfv q hq
  · rcases h.src r h1 h2 with rfl | ⟨v, hv, hr⟩
    · exact .root hf hp
    · exact Rch.trans (.root hf hp) hv hr
theorem Dfs.all {M : Nat → Prop} (h : Dfs T fac x (fun _ => False) M) (p : Nat) : M p ↔ Rch T fac x p := by
  refine ⟨fun hm => h.src p hm (fun h => h), fun hr => ?_⟩
  induction hr with
  | root h1 h2 => exact h.hit _ h1 h2
  | step _ h2 h3 h4 ih => exact h.clo _ ih (fun h => h) _ h2 h3 _ h4
/-! the reference's way: backward -/
def Dag (T : List Rl) (fac : Int → Bool) : Prop := ∀ q w, q < T.length → w ∈ (tAt T q).ifs → fac w = false → ∃ p, p < q ∧ (tAt T p).hd = w
def Want (T : List Rl) (fac : Int → Bool) (x : Int) (j : Nat) (w : Int) : Prop := fac w = false ∧ (w = x ∨ ∃ q, j ≤ q ∧ Rch T fac x q ∧ w ∈ (tAt T q).ifs)
theorem ground_iff (hd : Dag T fac) {j : Nat} (hj : j < T.length) : Rch T fac x j ↔ Want T fac x (j + 1) (tAt T j).hd ∧ ∀ k, k < j → (tAt T k).hd ≠ (tAt T j).hd := by
  constructor
  · intro h
    refine ⟨?_, (fstH_some h.first).2.2⟩
    cases h with
    | root h1 h2 =>
      have e := (fstH_some h2).2.1
      exact ⟨by rw [e]; exact h1, .inl e⟩
    | step h1 h2 h3 h4 =>
      rename_i q w
      have e := (fstH_some h4).2.1
      refine ⟨by rw [e]; exact h3, .inr ⟨q, ?_, h1, by rw [e]; exact h2⟩⟩
      obtain ⟨p, hp, hh⟩ := hd q w h1.lt h2 h3
      obtain ⟨p2, hp2, h5⟩ := fstH_le (T := T) (w := w) (p := p) (Nat.lt_trans hp h1.lt) hh
      rw [h4] at h5
      cases h5
      omega
  · rintro ⟨⟨h1, h2⟩, h3⟩
    have hf := fstH_of hj rfl h3
    rcases h2 with h2 | ⟨q, _, hq, hw⟩
    · exact .root (by rw [← h2]; exact h1) (by rw [← h2]; exact hf)
    · exact .step hq hw h1 hf
theorem Want.step {j : Nat} {w : Int} : Want T fac x j w ↔ Want T fac x (j + 1) w ∨ (Rch T fac x j ∧ w ∈ (tAt T j).ifs ∧ fac w = false) := by
  unfold Want
  constructor
  · rintro ⟨h1, h2 | ⟨q, hq, hr, hw⟩⟩
    · exact .inl ⟨h1, .inl h2⟩
    · by_cases e : q = j
      · subst e; exact .inr ⟨hr, hw, h1⟩
      · exact .inl ⟨h1, .inr ⟨q, by omega, hr, hw⟩⟩
  · rintro (⟨h1, h2 | ⟨q, hq, hr, hw⟩⟩ | ⟨h1, h2, h3⟩)
    · exact ⟨h1, .inl h2⟩
    · exact ⟨h1, .inr ⟨q, by omega, hr, hw⟩⟩
    · exact ⟨h3, .inr ⟨j, Nat.le_refl _, h1, h2⟩⟩
theorem Want.top {j : Nat} {w : Int} (hj : T.length ≤ j) : Want T fac x j w ↔ fac w = false ∧ w = x := by
  unfold Want
  constructor
  · rintro ⟨h1, h2 | ⟨q, hq, hr, _⟩⟩
    · exact ⟨h1, h2⟩
    · have := hr.lt; omega
  · rintro ⟨h1, h2⟩
    exact ⟨h1, .inl h2⟩
end
end Go.Proofs.Ytinocfehjdlohaa
namespace Go.Proofs.Ytinocfehjdlohaa
set_option linter.unusedVariables false
set_option linter.unusedSimpArgs false

theorem filter_ne_len (a : Nat) : ∀ {l : List Nat}, l.Nodup → l.length ≤ (l.filter fun x => x != a).length + 1
  | [], _ => by simp
  | b :: l, h => by
    rw [List.nodup_cons] at h
    by_cases e : b = a
    · subst e
      have : (l.filter fun x => x != b) = l := by
        rw [List.filter_eq_self]
        intro x hx
        have hne : x ≠ b := fun e => h.1 (by rw [← e]; exact hx)
        simp [hne]
      rw [List.filter_cons]
      simp [this]
    · have ih := filter_ne_len a h.2
      rw [List.filter_cons]
      have hb : (b != a) = true := by simp [e]
      rw [if_pos hb, List.length_cons, List.length_cons]
      omega
theorem nodup_len : ∀ (n : Nat) {l : List Nat}, l.Nodup → (∀ x ∈ l, x < n) → l.length ≤ n
  | 0, l, _, h => by
    cases l with
    | nil => simp
    | cons a l => exact absurd (h a (by simp)) (by omega)
  | n + 1, l, hn, h => by
    have h1 := filter_ne_len n hn
    have h2 := nodup_len n (l := l.filter fun x => x != n) (hn.filter _) (fun x hx => by
      rw [List.mem_filter] at hx
      have := h x hx.1
      have hne : x ≠ n := by simpa using hx.2
      omega)
    omega
/-- a word that is a fact, or the head of a rule taken in a round before -/
def tkKn (fac : Int → Bool) (rs : List Rl) (out : List Nat) (w : Int) : Bool := fac w || out.any fun j => (tAt rs j).hd == w
def tkCond (rs : List Rl) (yes fac : Int → Bool) (pre : Nat → Bool) (out : List Nat) (i : Nat) : Bool :=
  pre i && (!out.contains i && (yes (tAt rs i).hd && (!fac (tAt rs i).hd && (tAt rs i).ifs.all (tkKn fac rs out))))
def tkNew (rs : List Rl) (yes fac : Int → Bool) (pre : Nat → Bool) (out : List Nat) : List Nat := (List.range rs.length).filter (tkCond rs yes fac pre out)
def tkRun (rs : List Rl) (yes fac : Int → Bool) (pre : Nat → Bool) : Nat → List Nat → List Nat
  | 0, out => out
  | f + 1, out => if tkNew rs yes fac pre out = [] then out else tkRun rs yes fac pre f (out ++ tkNew rs yes fac pre out)
def tk (rs : List Rl) (yes fac : Int → Bool) (pre : Nat → Bool) : List Nat := tkRun rs yes fac pre (rs.length + 1) []
structure TkI (rs : List Rl) (fac : Int → Bool) (out : List Nat) : Prop where
  nd : out.Nodup
  lt : ∀ i ∈ out, i < rs.length
  dag : Dag (out.map (tAt rs)) fac
section
variable {rs : List Rl} {yes fac : Int → Bool} {pre : Nat → Bool} {out : List Nat}
theorem TkI.nil : TkI rs fac [] := ⟨List.nodup_nil, fun i h => (by cases h), fun q w h => (by simp at h)⟩
theorem TkI.len (h : TkI rs fac out) : out.length ≤ rs.length := nodup_len _ h.nd h.lt
theorem tkNew_mem {i : Nat} : i ∈ tkNew rs yes fac pre out ↔ i < rs.length ∧ tkCond rs yes fac pre out i = true := by unfold tkNew; rw [List.mem_filter, List.mem_range]
theorem tkCond_iff {i : Nat} : tkCond rs yes fac pre out i = true ↔ pre i = true ∧ i ∉ out ∧ yes (tAt rs i).hd = true ∧ fac (tAt rs i).hd = false ∧ ∀ w ∈ (tAt rs i).ifs, tkKn fac rs out w = true := by
  unfold tkCond
  simp only [Bool.and_eq_true, Bool.not_eq_true', List.all_eq_true, List.contains_eq_mem, decide_eq_false_iff_not]
theorem tAt_map {out : List Nat} {q : Nat} (h : q < out.length) : tAt (out.map (tAt rs)) q = tAt rs (out[q]'h) := by
  unfold tAt
  rw [List.getElem?_map, List.getElem?_eq_getElem h]; rfl
theorem TkI.step (h : TkI rs fac out) : TkI rs fac (out ++ tkNew rs yes fac pre out) := by
  refine ⟨?_, fun i hi => ?_, fun q w hq hw hf => ?_⟩
  · rw [List.nodup_append]
    refine ⟨h.nd, List.nodup_range.filter _, fun a ha b hb e => ?_⟩
    subst e
    exact (tkCond_iff.1 (tkNew_mem.1 hb).2).2.1 ha
  · rcases List.mem_append.1 hi with hi | hi
    · exact h.lt i hi
    · exact (tkNew_mem.1 hi).1
  · rw [List.length_map] at hq
    rw [tAt_map hq] at hw
    by_cases hqo : q < out.length
    · have e : (out ++ tkNew rs yes fac pre out)[q] = out[q] := List.getElem_append_left hqo
      rw [e] at hw
      obtain ⟨p, hp, hh⟩ := h.dag q w (by rw [List.length_map]; exact hqo) (by rw [tAt_map hqo]; exact hw) hf
      refine ⟨p, hp, ?_⟩
      rw [tAt_map (by omega)] at hh ⊢
      rw [List.getElem_append_left (by omega)]; exact hh
    · have hm : (out ++ tkNew rs yes fac pre out)[q] ∈ tkNew rs yes fac pre out := by
        rw [List.getElem_append_right (by omega)]
        exact List.getElem_mem _
      have hk := (tkCond_iff.1 (tkNew_mem.1 hm).2).2.2.2.2 w hw
      unfold tkKn at hk
      rw [hf, Bool.false_or, List.any_eq_true] at hk
      obtain ⟨j, hj, hh⟩ := hk
      obtain ⟨p, hp, hpe⟩ := List.getElem_of_mem hj
      refine ⟨p, by omega, ?_⟩
      rw [tAt_map (by rw [List.length_append]; omega), List.getElem_append_left hp, hpe]
      simpa using hh
theorem tkRun_I : ∀ (f : Nat) {out : List Nat}, TkI rs fac out → TkI rs fac (tkRun rs yes fac pre f out)
  | 0, out, h => h
  | f + 1, out, h => by
    unfold tkRun
    split
    · exact h
    · exact tkRun_I f h.step
theorem tk_I : TkI rs fac (tk rs yes fac pre) := tkRun_I _ .nil
/-- where the rounds end -/
theorem tkRun_stop {f : Nat} (h : tkNew rs yes fac pre out = []) : tkRun rs yes fac pre (f + 1) out = out := by unfold tkRun; rw [if_pos h]
theorem tkRun_go {f : Nat} (h : tkNew rs yes fac pre out ≠ []) : tkRun rs yes fac pre (f + 1) out = tkRun rs yes fac pre f (out ++ tkNew rs yes fac pre out) := by
  conv => lhs; unfold tkRun
  rw [if_neg h]
theorem tkNew_room (h : TkI rs fac out) (hn : tkNew rs yes fac pre out ≠ []) : out.length < rs.length := by
  have h1 := (h.step (yes := yes) (pre := pre)).len
  rw [List.length_append] at h1
  have h2 := List.length_pos_iff.2 hn
  omega
end
/-! ### the rules in force, and the whole list -/
section
variable {ds : List Rl} {yes fac : Int → Bool} {day : Int}
def actN (ds : List Rl) (day : Int) : List Nat := (List.range ds.length).filter fun i => onB (tAt ds i) day
def aAt (ds : List Rl) (day : Int) (p : Nat) : Nat := (actN ds day)[p]?.getD 0
theorem actN_nodup : (actN ds day).Nodup := List.nodup_range.filter _
theorem actN_self : (List.range (actN ds day).length).map (aAt ds day) = actN ds day := by
  refine List.ext_getElem (by simp) fun i h1 h2 => ?_
  rw [List.getElem_map, List.getElem_range]
  unfold aAt
  rw [List.getElem?_eq_getElem h2]; rfl
theorem aAt_inj {p q : Nat} (hp : p < (actN ds day).length) (hq : q < (actN ds day).length) (h : aAt ds day p = aAt ds day q) : p = q := by
  unfold aAt at h
  rw [List.getElem?_eq_getElem hp, List.getElem?_eq_getElem hq] at h
  exact (List.getElem_inj actN_nodup).1 (by simpa using h)
theorem actF_is : actF ds day = (actN ds day).map (tAt ds) := by
  unfold actF actN
  have e : ds = (List.range ds.length).map (tAt ds) := by
    refine List.ext_getElem (by simp) fun i h1 h2 => ?_
    rw [List.getElem_map, List.getElem_range]
    unfold tAt
    rw [List.getElem?_eq_getElem h1]; rfl
  conv => lhs; rw [e]
  rw [List.filter_map]
  rfl
theorem actF_len : (actF ds day).length = (actN ds day).length := by rw [actF_is, List.length_map]
theorem tAt_act {p : Nat} (hp : p < (actN ds day).length) : tAt (actF ds day) p = tAt ds (aAt ds day p) := by
  rw [actF_is]
  unfold tAt aAt
  rw [List.getElem?_map, List.getElem?_eq_getElem hp]; rfl
theorem any_congr' {l : List Nat} {f g : Nat → Bool} (h : ∀ x ∈ l, f x = g x) : l.any f = l.any g := by
  induction l with
  | nil => rfl
  | cons a l ih => rw [List.any_cons, List.any_cons, h a (by simp), ih fun x hx => h x (List.mem_cons_of_mem _ hx)]
theorem tkKn_link {out : List Nat} (hl : ∀ p ∈ out, p < (actN ds day).length) (w : Int) : tkKn fac ds (out.map (aAt ds day)) w = tkKn fac (actF ds day) out w := by
  unfold tkKn
  rw [List.any_map]
  congr 1
  exact any_congr' fun p hp => by rw [tAt_act (hl p hp)]; rfl
theorem contains_link {out : List Nat} (hl : ∀ p ∈ out, p < (actN ds day).length) {p : Nat} (hp : p < (actN ds day).length) : (out.map (aAt ds day)).contains (aAt ds day p) = out.contains p := by
  rw [Bool.eq_iff_iff]
  simp only [List.contains_eq_mem, decide_eq_true_eq, List.mem_map]
  constructor
  · rintro ⟨q, hq, e⟩
    rw [← aAt_inj (hl q hq) hp e]; exact hq
  · intro h
    exact ⟨p, h, rfl⟩
theorem tkNew_link {out : List Nat} (hl : ∀ p ∈ out, p < (actN ds day).length) :
    tkNew ds yes fac (fun i => onB (tAt ds i) day) (out.map (aAt ds day)) = (tkNew (actF ds day) yes fac (fun _ => true) out).map (aAt ds day) := by
  have e1 : tkNew ds yes fac (fun i => onB (tAt ds i) day) (out.map (aAt ds day)) = (actN ds day).filter (tkCond ds yes fac (fun _ => true) (out.map (aAt ds day))) := by
    unfold tkNew actN
    rw [List.filter_filter]
    congr 1
    funext i
    unfold tkCond
    dsimp only
    cases onB (tAt ds i) day <;> simp
  rw [e1]
  conv => lhs; rw [← actN_self]
  rw [List.filter_map]
  unfold tkNew
  rw [actF_len]
  congr 1
  refine List.filter_congr fun p hp => ?_
  rw [List.mem_range] at hp
  show tkCond ds yes fac (fun _ => true) (out.map (aAt ds day)) (aAt ds day p) = _
  unfold tkCond
  rw [contains_link hl hp, tAt_act hp]
  congr 4
  rw [Bool.eq_iff_iff, List.all_eq_true, List.all_eq_true]
  constructor
  · intro h w hw; rw [← tkKn_link hl]; exact h w hw
  · intro h w hw; rw [tkKn_link hl]; exact h w hw
theorem tkRun_link : ∀ (f : Nat) {out : List Nat}, (∀ p ∈ out, p < (actN ds day).length) →
    tkRun ds yes fac (fun i => onB (tAt ds i) day) f (out.map (aAt ds day)) = (tkRun (actF ds day) yes fac (fun _ => true) f out).map (aAt ds day)
  | 0, out, _ => rfl
  | f + 1, out, hl => by
    unfold tkRun
    rw [tkNew_link hl]
    by_cases h : tkNew (actF ds day) yes fac (fun _ => true) out = []
    · rw [if_pos h, if_pos (by rw [h]; rfl)]
    · rw [if_neg h, if_neg (by simpa using h), ← List.map_append]
      refine tkRun_link f fun p hp => ?_
      rcases List.mem_append.1 hp with hp | hp
      · exact hl p hp
      · have := (tkNew_mem.1 hp).1
        rw [actF_len] at this; exact this
/-- more rounds change nothing -/
theorem tkRun_more {rs : List Rl} {pre : Nat → Bool} : ∀ (f g : Nat) {out : List Nat}, TkI rs fac out → rs.length < f + out.length → f ≤ g → tkRun rs yes fac pre g out = tkRun rs yes fac pre f out
  | 0, g, out, h, hf, _ => by have := h.len; omega
  | f + 1, 0, out, h, hf, hg => by omega
  | f + 1, g + 1, out, h, hf, hg => by
    by_cases hn : tkNew rs yes fac pre out = []
    · rw [tkRun_stop hn, tkRun_stop hn]
    · rw [tkRun_go hn, tkRun_go hn]
      refine tkRun_more f g h.step ?_ (by omega)
      have := List.length_pos_iff.2 hn
      rw [List.length_append]; omega
theorem tk_link : tk ds yes fac (fun i => onB (tAt ds i) day) = (tk (actF ds day) yes fac (fun _ => true)).map (aAt ds day) := by
  unfold tk
  have h := tkRun_link (ds := ds) (yes := yes) (fac := fac) (day := day) (ds.length + 1) (out := []) (fun p h => by cases h)
  rw [List.map_nil] at h
  rw [h]
  congr 1
  have hle : (actF ds day).length ≤ ds.length := by unfold actF; exact List.length_filter_le _ _
  exact tkRun_more _ _ .nil (by simp) (by omega)
end
end Go.Proofs.Ytinocfehjdlohaa
namespace Go.Proofs.Ytinocfehjdlohaa
open Go.ChangeShapes Go.WideShapes Go.ChangeAt Go.RowKit
set_option linter.unusedVariables false
set_option linter.unusedSimpArgs false

theorem indexJ_any (A : Option Addr) (n c : Nat) (zs : List Int) (x : Int) (w : World) (hr : Rd w w.heap.size 1 A n (ints zs)) (hn : n ≤ 2097152) :
    Calls Try.prog 113 #[.slice A n c, .int .i64 x] w fun e w' => e = .returned (.int .i64 (findI (fun z => x == z) zs)) ∧ w = w' := by
  go_enter Try.func113, Try.ntmps113
  go_wp2
  go_loop [5, 8] (fun _ i => ∃ k : Nat, k ≤ n ∧ i = .int .i64 k ∧ (zs.take k).any (fun z => x == z) = false) (fun _ i => n - (intOf i).toNat)
  case atStart => exact ⟨0, Nat.zero_le _, rfl, rfl⟩
  case round =>
    obtain ⟨k, hk, rfl, ha⟩ := hrel
    have HA := Lib.hid ha
    clear ha
    have hlen := hr.ilen
    have HL := Lib.hid hlen
    clear hlen
    by_cases hlt : k < n
    · obtain ⟨ad, rfl, hc⟩ := hr.int hlt
      clear hr
      obtain ⟨z, hz⟩ : ∃ z, z = zs[k]?.getD 0 := ⟨_, rfl⟩
      rw [← hz] at hc
      have HZ := Lib.hid hz
      clear hz
      by_cases hb : x = z
      · have hfin := Lib.hid (findI_hit (p := fun z => x == z) 0 HA.out (by have := HL.out; omega) (by rw [← HZ.out, hb]; simp))
        subst hb
        go_wp2
        go_ret
        exact ⟨by rw [hfin.out]; rfl, rfl⟩
      · have hs := Lib.hid (any_snoc (p := fun z => x == z) 0 HA.out (by have := HL.out; omega) (by rw [← HZ.out]; simpa using hb))
        go_wp2
        go_round
        case rel => exact ⟨k + 1, by omega, by go_num, hs.out⟩
        case measure => simp [intOf]; omega
    · obtain rfl : n = k := by omega
      have hfin := Lib.hid (findI_miss (p := fun z => x == z) (zs := zs) (by have := HA.out; rwa [List.take_of_length_le (by have := HL.out; omega)] at this))
      clear HA
      go_wp2
      go_ret
      exact ⟨by rw [hfin.out]; rfl, rfl⟩
theorem containsJ_is {b : Bool} (A : Option Addr) (n c : Nat) (zs : List Int) (x : Int) (w : World) (hr : Rd w w.heap.size 1 A n (ints zs)) (hn : n ≤ 2097152) (h : hasI zs x = b) :
    Calls Try.prog 89 #[.slice A n c, .int .i64 x] w fun e w' => e = .returned (.bool b) ∧ w = w' := by
  subst h
  have hfin := Lib.hid (findI_nonneg (p := fun z => x == z) (zs := zs))
  go_enter Try.func89, Try.ntmps89
  go_wp2_with (go_at_call 113; refine (indexJ_any _ _ _ zs _ _ hr hn).mono ?_; rintro e w' ⟨rfl, rfl⟩)
  go_ret
  exact ⟨ret_bool hfin.out, rfl⟩
set_option maxHeartbeats 800000 in
theorem tk_clo {cb : Nat} {A : Option Addr} {m c : Nat} {B : Option Addr} {k d : Nat} {bp bn : Nat} {rs : List Ru} {fs : List Int} {y n : Int → Bool} (z : Int) (g : Nat) (w : World) (hC : Court w cb A m c B k d bp bn rs fs y n) (hg : w.cell? ⟨g, 0, none⟩ = some (.pointer (some ⟨cb, 0, none⟩))) (gm g2 : Nat) (kn : Int → Bool) (hm : MapB w gm kn) (hg2 : w.cell? ⟨g2, 0, none⟩ = some (.map (some gm))) (hz : I64b z) :
    Calls Try.prog 90 #[.int .i64 z, .pointer (some ⟨g, 0, none⟩), .pointer (some ⟨g2, 0, none⟩)] w fun e w' => e = .returned (.bool ((!facB fs z && !kn z))) ∧ w = w' := by
  have h2 := hm.look hz
  have HC := Lib.hid hC
  clear hC hm
  cases hf : facB fs z
  · have HF := Lib.hid hf
    clear hf
    go_enter Try.func90, Try.ntmps90
    go_wp2_with (go_at_call 58; refine (isFact_is z _ HC.out HF.out).mono ?_; rintro e w' ⟨rfl, rfl⟩)
    go_ret
    exact ⟨ret_bool (by simp), rfl⟩
  · have HF := Lib.hid hf
    clear hf
    go_enter Try.func90, Try.ntmps90
    go_wp2_with (go_at_call 58; refine (isFact_is z _ HC.out HF.out).mono ?_; rintro e w' ⟨rfl, rfl⟩)
    go_ret
    exact ⟨ret_bool (by simp), rfl⟩
set_option maxHeartbeats 800000 in
theorem tk_index {cb : Nat} {A : Option Addr} {m c : Nat} {B : Option Addr} {k d : Nat} {bp bn : Nat} {rs : List Ru} {fs : List Int} {y n : Int → Bool} (D : Option Addr) (q e : Nat) (zs : List Int) (g : Nat) (w : World) (hr : Rd w w.heap.size 1 D q (ints zs)) (hq : q ≤ 1048576) (hz : I64s zs)
    (hC : Court w cb A m c B k d bp bn rs fs y n) (hg : w.cell? ⟨g, 0, none⟩ = some (.pointer (some ⟨cb, 0, none⟩))) (gm g2 : Nat) (kn : Int → Bool) (hm : MapB w gm kn) (hg2 : w.cell? ⟨g2, 0, none⟩ = some (.map (some gm))) :
    Calls Try.prog 87 #[.slice D q e, .func (.func 90) #[] #[.pointer (some ⟨g, 0, none⟩), .pointer (some ⟨g2, 0, none⟩)]] w fun e w' => e = .returned (.int .i64 (findI (fun z => (!facB fs z && !kn z)) zs)) ∧ w = w' := by
  have HC := Lib.hid hC
  have HB := Lib.hid hz
  have HG := Lib.hid hg
  have HM := Lib.hid hm
  have HG2 := Lib.hid hg2
  clear hC hz hg hm hg2
  go_enter Try.func87, Try.ntmps87
  go_wp2
  go_loop [5, 8] (fun _ i => ∃ k : Nat, k ≤ q ∧ i = .int .i64 k ∧ (zs.take k).any (fun z => (!facB fs z && !kn z)) = false) (fun _ i => q - (intOf i).toNat)
  case atStart => exact ⟨0, Nat.zero_le _, rfl, rfl⟩
  case round =>
    obtain ⟨k, hk, rfl, ha⟩ := hrel
    have HA := Lib.hid ha
    clear ha
    have hlen := hr.ilen
    have HL := Lib.hid hlen
    by_cases hlt : k < q
    · obtain ⟨ad, rfl, hcz⟩ := hr.int hlt
      have hzb := HB.out _ (getD_mem (zs := zs) (k := k) (by omega))
      clear hr hlen
      obtain ⟨z, hz⟩ : ∃ z, z = zs[k]?.getD 0 := ⟨_, rfl⟩
      rw [← hz] at hcz hzb
      have HZ := Lib.hid hz
      have HZB := Lib.hid hzb
      clear hz hzb
      cases ho : (!facB fs z && !kn z)
      · have hs := Lib.hid (any_snoc (p := fun z => (!facB fs z && !kn z)) 0 HA.out (by have := HL.out; omega) (by rw [← HZ.out]; exact ho))
        have HO := Lib.hid ho
        clear ho
        go_wp2_with (go_at_call 90; refine (tk_clo z g _ HC.out HG.out gm g2 kn HM.out HG2.out HZB.out).mono ?_; rintro e w' ⟨rfl, rfl⟩; rw [HO.out])
        go_round
        case rel => exact ⟨k + 1, by omega, by go_num, hs.out⟩
        case measure => simp [intOf]; omega
      · have hfin := Lib.hid (findI_hit (p := fun z => (!facB fs z && !kn z)) 0 HA.out (by have := HL.out; omega) (by rw [← HZ.out]; exact ho))
        have HO := Lib.hid ho
        clear ho
        go_wp2_with (go_at_call 90; refine (tk_clo z g _ HC.out HG.out gm g2 kn HM.out HG2.out HZB.out).mono ?_; rintro e w' ⟨rfl, rfl⟩; rw [HO.out])
        go_ret
        exact ⟨by rw [hfin.out]; rfl, rfl⟩
    · obtain rfl : q = k := by omega
      have hfin := Lib.hid (findI_miss (p := fun z => (!facB fs z && !kn z)) (zs := zs) (by have := HA.out; rwa [List.take_of_length_le (by have := HL.out; omega)] at this))
      clear HA hlen
      go_wp2
      go_ret
      exact ⟨by rw [hfin.out]; rfl, rfl⟩
theorem tk_contains {cb : Nat} {A : Option Addr} {m c : Nat} {B : Option Addr} {k d : Nat} {bp bn : Nat} {rs : List Ru} {fs : List Int} {y n : Int → Bool} {b : Bool} (D : Option Addr) (q e : Nat) (zs : List Int) (g : Nat) (w : World) (hr : Rd w w.heap.size 1 D q (ints zs)) (hq : q ≤ 1048576) (hz : I64s zs)
    (hC : Court w cb A m c B k d bp bn rs fs y n) (hg : w.cell? ⟨g, 0, none⟩ = some (.pointer (some ⟨cb, 0, none⟩))) (gm g2 : Nat) (kn : Int → Bool) (hm : MapB w gm kn) (hg2 : w.cell? ⟨g2, 0, none⟩ = some (.map (some gm))) (h : (zs.any fun z => (!facB fs z && !kn z)) = b) :
    Calls Try.prog 59 #[.slice D q e, .func (.func 90) #[] #[.pointer (some ⟨g, 0, none⟩), .pointer (some ⟨g2, 0, none⟩)]] w fun e w' => e = .returned (.bool b) ∧ w = w' := by
  subst h
  have hfin := Lib.hid (findI_nonneg (p := fun z => (!facB fs z && !kn z)) (zs := zs))
  have H := Lib.hid (tk_index D q e zs g w hr hq hz hC hg gm g2 kn hm hg2)
  clear hr hz hC hg hm hg2
  go_enter Try.func59, Try.ntmps59
  go_wp2_with (go_at_call 87; refine H.out.mono ?_; rintro e w' ⟨rfl, rfl⟩)
  go_ret
  exact ⟨ret_bool (by rw [← hfin.out]), rfl⟩

end Go.Proofs.Ytinocfehjdlohaa
namespace Go.Proofs.Ytinocfehjdlohaa
open Go.ChangeShapes Go.WideShapes Go.ChangeAt Go.RowKit
set_option linter.unusedVariables false
set_option linter.unusedSimpArgs false

def natI (l : List Nat) : List Int := l.map fun (n : Nat) => (n : Int)
theorem natI_append (a b : List Nat) : natI (a ++ b) = natI a ++ natI b := by simp [natI]
theorem natI_length (a : List Nat) : (natI a).length = a.length := by simp [natI]
theorem hasI_nat (l : List Nat) (i : Nat) : hasI (natI l) i = l.contains i := by
  unfold hasI natI
  rw [List.any_map]
  induction l with
  | nil => rfl
  | cons a l ih =>
    rw [List.any_cons, ih, List.contains_cons]
    congr 1
    show ((i : Int) == (a : Int)) = (i == a)
    rw [Bool.eq_iff_iff, beq_iff_eq, beq_iff_eq]; omega
/-- the heads of the rules taken in rounds before -/
def tkHd (rs : List Rl) (out : List Nat) (w : Int) : Bool := out.any fun j => (tAt rs j).hd == w
theorem tkKn_is (fac : Int → Bool) (rs : List Rl) (out : List Nat) (w : Int) : tkKn fac rs out w = (fac w || tkHd rs out w) := rfl
theorem tkHd_nil (rs : List Rl) : tkHd rs [] = fun _ => false := rfl
theorem tkHd_put (rs : List Rl) (out : List Nat) (i : Nat) : putB (tkHd rs out) (tAt rs i).hd = tkHd rs (out ++ [i]) := by
  funext z
  unfold putB tkHd
  rw [List.any_append]
  by_cases e : z = (tAt rs i).hd
  · subst e; simp
  · have : ((tAt rs i).hd == z) = false := by rw [beq_eq_false_iff_ne]; exact fun h => e h.symm
    simp [e, this]
/-- the rules taken in a round, among the first i -/
def tkTo (rs : List Rl) (yes fac : Int → Bool) (pre : Nat → Bool) (out : List Nat) (i : Nat) : List Nat := (List.range i).filter (tkCond rs yes fac pre out)
section
variable {rs : List Rl} {yes fac : Int → Bool} {pre : Nat → Bool} {out : List Nat} {i : Nat}
theorem tkTo_zero : tkTo rs yes fac pre out 0 = [] := rfl
theorem tkTo_succ : tkTo rs yes fac pre out (i + 1) = if tkCond rs yes fac pre out i then tkTo rs yes fac pre out i ++ [i] else tkTo rs yes fac pre out i := by
  unfold tkTo
  rw [List.range_succ, List.filter_append, List.filter_cons]
  split <;> simp
theorem tkTo_all : tkTo rs yes fac pre out rs.length = tkNew rs yes fac pre out := rfl
theorem tkTo_lt {j : Nat} (h : j ∈ tkTo rs yes fac pre out i) : j < i := by
  unfold tkTo at h
  rw [List.mem_filter, List.mem_range] at h
  exact h.1
theorem tkTo_len : (tkTo rs yes fac pre out i).length ≤ i := by
  unfold tkTo
  have := List.length_filter_le (tkCond rs yes fac pre out) (List.range i)
  rw [List.length_range] at this; exact this
theorem tk_contains_to : (out ++ tkTo rs yes fac pre out i).contains i = out.contains i := by
  rw [Bool.eq_iff_iff]
  simp only [List.contains_eq_mem, decide_eq_true_eq, List.mem_append]
  constructor
  · rintro (h | h)
    · exact h
    · have := tkTo_lt h; omega
  · exact .inl
def hdsI (rs : List Rl) (l : List Nat) : List Int := l.map fun j => (tAt rs j).hd
theorem hdsI_append (a b : List Nat) : hdsI rs (a ++ b) = hdsI rs a ++ hdsI rs b := by simp [hdsI]
theorem hdsI_length (a : List Nat) : (hdsI rs a).length = a.length := by simp [hdsI]
end
theorem info_intJ : (Try.prog.info? 3).map (fun i => (i.zero, i.size, i.bytes)) = some (some (.int .i64 0), 1, 8) := by kernel_rfl
theorem append_64 {ops : Array Oper} {rest : List Oper} {o : Oper} {a : Act} {Q : Exit → Act → World → Prop} {w1 : World} (hgd : o.guard = none) (s x : Operand)
    (ho : o.op = .call { callee := .builtin .append, args := #[s, x], argTypes := #[24, 24] }) (base : Nat) (hB : base ≤ w1.heap.size) (v : Value) (n : Nat) (zs : List Int) (hs : a.eval s = v)
    (hown : w1.ownsRow base 2 1 v n (ints zs)) (g : Nat) (c : Nat) (z : Int) (hx : a.eval x = .slice (some ⟨g, 0, none⟩) 1 c) (hc : w1.cell? ⟨g, 0, none⟩ = some (.int .i64 z)) (hn : n + 1 ≤ 4194304)
    (h : ∀ v' w', w'.ownsRow base 2 1 v' (n + 1) (ints (zs ++ [z])) → w1.grownBy w' v.ownBlock → wpList Try.prog ops Q rest (a.put o.dst v') w') : wpList Try.prog ops Q (o :: rest) a w1 := by
  obtain ⟨i0, hi, hz0, hz1, hz2⟩ := info_parts info_int
  refine wpList_append_own w1 hgd s x 24 ho base 2 i0 (.int .i64 0) 1 8 Try.underlying24 hi hz0 hz1 hz2 rfl (by decide) v n (ints zs) hs hown ⟨g, 0, none⟩ 1 c [.int .i64 z] hx rfl ?_ ?_ ?_ ?_ hB ?_
  · intro j u hj
    match j, hj with
    | 0, hj => simp at hj; subst hj; simpa [Addr.add] using hc
  · intro u hu; simp at hu; subst hu; rfl
  · unfold maxLen; omega
  · omega
  · intro v' w' h1 h2 _
    rw [← ints_one, ← ints_append] at h1
    exact h v' w' h1 h2
theorem append_J {ops : Array Oper} {rest : List Oper} {o : Oper} {a : Act} {Q : Exit → Act → World → Prop} {w1 : World} (hgd : o.guard = none) (s x : Operand)
    (ho : o.op = .call { callee := .builtin .append, args := #[s, x], argTypes := #[85, 85] }) (base : Nat) (hB : base ≤ w1.heap.size) (v : Value) (n : Nat) (zs : List Int) (hs : a.eval s = v)
    (hown : w1.ownsRow base 3 1 v n (ints zs)) (g : Nat) (c : Nat) (z : Int) (hx : a.eval x = .slice (some ⟨g, 0, none⟩) 1 c) (hc : w1.cell? ⟨g, 0, none⟩ = some (.int .i64 z)) (hn : n + 1 ≤ 4194304)
    (h : ∀ v' w', w'.ownsRow base 3 1 v' (n + 1) (ints (zs ++ [z])) → w1.grownBy w' v.ownBlock → wpList Try.prog ops Q rest (a.put o.dst v') w') : wpList Try.prog ops Q (o :: rest) a w1 := by
  obtain ⟨i0, hi, hz0, hz1, hz2⟩ := info_parts info_intJ
  refine wpList_append_own w1 hgd s x 85 ho base 3 i0 (.int .i64 0) 1 8 Try.underlying85 hi hz0 hz1 hz2 rfl (by decide) v n (ints zs) hs hown ⟨g, 0, none⟩ 1 c [.int .i64 z] hx rfl ?_ ?_ ?_ ?_ hB ?_
  · intro j u hj
    match j, hj with
    | 0, hj => simp at hj; subst hj; simpa [Addr.add] using hc
  · intro u hu; simp at hu; subst hu; rfl
  · unfold maxLen; omega
  · omega
  · intro v' w' h1 h2 _
    rw [← ints_one, ← ints_append] at h1
    exact h v' w' h1 h2
theorem tk_eq (rs : List Rl) (yes fac : Int → Bool) (pre : Nat → Bool) : tk rs yes fac pre = tkRun rs yes fac pre (rs.length + 1) [] := rfl
theorem natI_nil : natI [] = [] := rfl
theorem hdsI_nil (rs : List Rl) : hdsI rs [] = [] := rfl
theorem natI_one (t : Nat) : natI [t] = [(t : Int)] := rfl
theorem hdsI_one (rs : List Rl) (t : Nat) : hdsI rs [t] = [(tAt rs t).hd] := rfl
attribute [irreducible] tkTo tkHd natI hdsI
end Go.Proofs.Ytinocfehjdlohaa
namespace Go.Proofs.Ytinocfehjdlohaa
open Go.ChangeShapes Go.WideShapes Go.ChangeAt Go.RowKit
set_option linter.unusedVariables false
set_option linter.unusedSimpArgs false

attribute [local irreducible] tkNew tkRun tk
abbrev tJ : TypeId := 3
theorem own_obj {w : World} {base : Nat} {e : TypeId} {size n g : Nat} {v : Value} {xs : List Value} (h : w.ownsRow base e size v n xs) (hg : v.ownBlock = some g) : ∃ cs fz, w.heap[g]? = some (.cells cs e fz) := by
  rcases h.2 with ⟨rfl, _⟩ | ⟨g', cap, cur, rfl, _, hgg, _⟩
  · cases hg
  · have e2 : g' = g := by simpa [Value.ownBlock] using hg
    subst e2
    exact ⟨_, _, hgg⟩
theorem alloc_obj (w : World) (o : Go.Obj) : (w.alloc o).heap[w.heap.size]? = some o := by
  show (w.heap.push o)[w.heap.size]? = some o
  simp
def slN : Value → Nat
  | .slice _ n _ => n
  | _ => 0
/-- what the rounds keep: the boxes and the map, and the places taken so far -/
structure TW (W w : World) (cb gm g1 g2 : Nat) (kn : Int → Bool) (v : Value) (o : List Nat) : Prop where
  iw : IW W w cb gm g1 g2 kn
  ow : w.ownsRow W.heap.size tJ 1 v o.length (ints (natI o))
  b1 : ∃ cs fz, w.heap[g1]? = some (.cells cs 75 fz)
  b2 : ∃ cs fz, w.heap[g2]? = some (.cells cs tM fz)
section
variable {W w w' : World} {cb gm g1 g2 : Nat} {kn kn' : Int → Bool} {v v' : Value} {o o' : List Nat}
/-- the places lie in a block of their own -/
theorem TW.far (h : TW W w cb gm g1 g2 kn v o) (g : Nat) (hg : v.ownBlock = some g) : g ≠ gm ∧ g ≠ g1 ∧ g ≠ g2 := by
  obtain ⟨cs, fz, hc⟩ := own_obj h.ow hg
  obtain ⟨c1, f1, h1⟩ := h.b1
  obtain ⟨c2, f2, h2⟩ := h.b2
  obtain ⟨es, c3, h3⟩ := h.iw.mp.cells
  refine ⟨fun e => ?_, fun e => ?_, fun e => ?_⟩
  · subst e; rw [h3] at hc; cases hc
  · subst e; rw [h1] at hc; injection hc with hc; injection hc with _ hc _; exact absurd hc (by decide)
  · subst e; rw [h2] at hc; injection hc with hc; injection hc with _ hc _; exact absurd hc (by decide)
theorem TW.on (h : TW W w cb gm g1 g2 kn v o) (hb : Below w.heap.size w w') : TW W w' cb gm g1 g2 kn v o := by
  obtain ⟨c1, f1, h1⟩ := h.b1
  obtain ⟨c2, f2, h2⟩ := h.b2
  exact ⟨h.iw.on hb, own_on h.ow hb, ⟨c1, f1, (hb.block g1 h.iw.l1).trans h1⟩, ⟨c2, f2, (hb.block g2 h.iw.l2).trans h2⟩⟩
theorem TW.put (h : TW W w cb gm g1 g2 kn v o) (hp : MapB w' gm kn') (hg : w.grownBy w' (some gm)) : TW W w' cb gm g1 g2 kn' v o := by
  obtain ⟨c1, f1, h1⟩ := h.b1
  obtain ⟨c2, f2, h2⟩ := h.b2
  exact ⟨h.iw.put hp hg, World.ownsRow.kept h.ow hg (.inr fun e => (h.far gm e).1 rfl), ⟨c1, f1, (hg.block g1 h.iw.l1 (by intro e; injection e with e; exact h.iw.n1 e)).trans h1⟩, ⟨c2, f2, (hg.block g2 h.iw.l2 (by intro e; injection e with e; exact h.iw.n2 e)).trans h2⟩⟩
theorem IW.grow {row : Option Nat} (h : IW W w cb gm g1 g2 kn) (hg : w.grownBy w' row) (hr : ∀ g, row = some g → g ≠ gm ∧ g ≠ g1 ∧ g ≠ g2 ∧ W.heap.size ≤ g) : IW W w' cb gm g1 g2 kn :=
  ⟨below_grown h.be hg fun k hk => (hr k hk).2.2.2, h.mp.kept hg (fun e => (hr gm e.symm).1 rfl), hg.cell h.c1 (fun e => (hr g1 e.symm).2.1 rfl), hg.cell h.c2 (fun e => (hr g2 e.symm).2.2.1 rfl), Nat.lt_of_lt_of_le h.l1 hg.size, Nat.lt_of_lt_of_le h.l2 hg.size, h.n1, h.n2, h.hm⟩
theorem TW.app (h : TW W w cb gm g1 g2 kn v o) (hg : w.grownBy w' v.ownBlock) (ho : w'.ownsRow W.heap.size tJ 1 v' o'.length (ints (natI o'))) : TW W w' cb gm g1 g2 kn v' o' := by
  obtain ⟨c1, f1, h1⟩ := h.b1
  obtain ⟨c2, f2, h2⟩ := h.b2
  refine ⟨h.iw.grow hg fun g hg => ?_, ho, ⟨c1, f1, (hg.block g1 h.iw.l1 (fun e => (h.far g1 e.symm).2.1 rfl)).trans h1⟩, ⟨c2, f2, (hg.block g2 h.iw.l2 (fun e => (h.far g2 e.symm).2.2 rfl)).trans h2⟩⟩
  have := h.far g hg
  exact ⟨this.1, this.2.1, this.2.2, (h.ow.lt g hg).1⟩
/-- another row of the call's own grows -/
theorem TW.grow {row : Option Nat} (h : TW W w cb gm g1 g2 kn v o) (hg : w.grownBy w' row) (hr : ∀ g, row = some g → g ≠ gm ∧ g ≠ g1 ∧ g ≠ g2 ∧ W.heap.size ≤ g ∧ v.ownBlock ≠ some g) : TW W w' cb gm g1 g2 kn v o := by
  obtain ⟨c1, f1, h1⟩ := h.b1
  obtain ⟨c2, f2, h2⟩ := h.b2
  refine ⟨h.iw.grow hg fun g e => ⟨(hr g e).1, (hr g e).2.1, (hr g e).2.2.1, (hr g e).2.2.2.1⟩, World.ownsRow.kept h.ow hg ?_, ⟨c1, f1, (hg.block g1 h.iw.l1 (fun e => (hr g1 e.symm).2.1 rfl)).trans h1⟩, ⟨c2, f2, (hg.block g2 h.iw.l2 (fun e => (hr g2 e.symm).2.2.1 rfl)).trans h2⟩⟩
  cases hv : v.ownBlock with
  | none => exact .inl rfl
  | some q => exact .inr fun e => (hr q e.symm).2.2.2.2 hv
end
theorem ne_kind {w : World} {base n gb : Nat} {e t : TypeId} {size : Nat} {v : Value} {xs : List Value} (h : w.ownsRow base e size v n xs) (hb : ∃ cs fz, w.heap[gb]? = some (.cells cs t fz)) (ht : t ≠ e) : some gb ≠ v.ownBlock := by
  intro e'
  obtain ⟨cs, fz, hc⟩ := own_obj h e'.symm
  obtain ⟨c2, f2, h2⟩ := hb
  rw [h2] at hc
  injection hc with hc
  injection hc with _ hc _
  exact ht hc
theorem kinds_ne {w : World} {b1 b2 n1 n2 s1 s2 : Nat} {e1 e2 : TypeId} {v1 v2 : Value} {x1 x2 : List Value} (h1 : w.ownsRow b1 e1 s1 v1 n1 x1) (h2 : w.ownsRow b2 e2 s2 v2 n2 x2) (he : e1 ≠ e2) : v1.ownBlock = none ∨ v1.ownBlock ≠ v2.ownBlock := by
  cases hv : v1.ownBlock with
  | none => exact .inl rfl
  | some g =>
    refine .inr fun e => ?_
    exact ne_kind h2 (own_obj h1 hv) he e
/-- one taken rule: the places, the heads, the rule's box -/
structure ES (W w : World) (cb gm g1 g2 gh gb : Nat) (kn : Int → Bool) (v h : Value) (o : List Nat) (q : Nat) (zs : List Int) (hd : Int) : Prop where
  tw : TW W w cb gm g1 g2 kn v o
  oh : w.ownsRow gh tI 1 h q (ints zs)
  cx : w.cell? ⟨gb, 0, none⟩ = some (.int .i64 hd)
  bx : ∃ cs fz, w.heap[gb]? = some (.cells cs tR fz)
  lt : gb < w.heap.size
  hg : W.heap.size ≤ gh ∧ gm < gh ∧ g1 < gh ∧ g2 < gh
  ghl : gh ≤ w.heap.size
section
variable {W w w' : World} {cb gm g1 g2 gh gb q : Nat} {kn : Int → Bool} {v h v' h' : Value} {o o' : List Nat} {zs zs' : List Int} {hd : Int}
theorem ES.on (e : ES W w cb gm g1 g2 gh gb kn v h o q zs hd) (hb : Below w.heap.size w w') : ES W w' cb gm g1 g2 gh gb kn v h o q zs hd := by
  obtain ⟨c1, f1, h1⟩ := e.bx
  exact ⟨e.tw.on hb, own_on e.oh hb, (hb.cell (p := ⟨gb, 0, none⟩) e.lt).trans e.cx, ⟨c1, f1, (hb.block gb e.lt).trans h1⟩, Nat.lt_of_lt_of_le e.lt hb.size, e.hg, Nat.le_trans e.ghl hb.size⟩
theorem ES.appJ (e : ES W w cb gm g1 g2 gh gb kn v h o q zs hd) (hg : w.grownBy w' v.ownBlock) (ho : w'.ownsRow W.heap.size tJ 1 v' o'.length (ints (natI o'))) : ES W w' cb gm g1 g2 gh gb kn v' h o' q zs hd := by
  obtain ⟨c1, f1, h1⟩ := e.bx
  have hne := ne_kind e.tw.ow e.bx (by decide)
  exact ⟨e.tw.app hg ho, World.ownsRow.kept e.oh hg (kinds_ne e.oh e.tw.ow (by decide)), hg.cell e.cx hne, ⟨c1, f1, (hg.block gb e.lt hne).trans h1⟩, Nat.lt_of_lt_of_le e.lt hg.size, e.hg, Nat.le_trans e.ghl hg.size⟩
theorem ES.app64 {q' : Nat} (e : ES W w cb gm g1 g2 gh gb kn v h o q zs hd) (hg : w.grownBy w' h.ownBlock) (ho : w'.ownsRow gh tI 1 h' q' (ints zs')) : ES W w' cb gm g1 g2 gh gb kn v h' o q' zs' hd := by
  obtain ⟨c1, f1, h1⟩ := e.bx
  have hne := ne_kind e.oh e.bx (by decide)
  refine ⟨e.tw.grow hg fun g hgg => ?_, ho, hg.cell e.cx hne, ⟨c1, f1, (hg.block gb e.lt hne).trans h1⟩, Nat.lt_of_lt_of_le e.lt hg.size, e.hg, Nat.le_trans e.ghl hg.size⟩
  have hl := (e.oh.lt g hgg).1
  obtain ⟨a, b, c, d⟩ := e.hg
  refine ⟨by omega, by omega, by omega, by omega, fun ev => ?_⟩
  rcases kinds_ne e.tw.ow e.oh (by decide) with h0 | h0
  · rw [h0] at ev; cases ev
  · exact h0 (by rw [ev, hgg])
end
theorem step_appJ {ops : Array Oper} {o : Oper} {a : Act} {K : Act → World → Prop} {Q : Exit → Act → World → Prop} {E : Prop} {w1 : World} (hgd : o.guard = none) (s x : Operand)
    (ho : o.op = .call { callee := .builtin .append, args := #[s, x], argTypes := #[85, 85] }) (B : Nat) (v : Value) (n : Nat) (zs : List Int) (hs : a.eval s = v)
    (hown : w1.ownsRow B 3 1 v n (ints zs)) (hB : B ≤ w1.heap.size) (g : Nat) (c : Nat) (z : Int) (hx : a.eval x = .slice (some ⟨g, 0, none⟩) 1 c) (hc : w1.cell? ⟨g, 0, none⟩ = some (.int .i64 z)) (hn : n + 1 ≤ 4194304)
    (h : ∀ v' w', w'.ownsRow B 3 1 v' (n + 1) (ints (zs ++ [z])) → w1.grownBy w' v.ownBlock → K (a.put o.dst v') w') :
    if Region.wanted o (yielded ops a.tmps) = true then Oper.wp Try.prog o a w1 K Q else E := by
  have hw : Region.wanted o (yielded ops a.tmps) = true := by simp [Region.wanted, hgd]
  rw [if_pos hw]
  obtain ⟨i0, hi, hz0, hz1, hz2⟩ := info_parts info_intJ
  refine wp_append_own (w := w1) s x 85 ho B 3 i0 (.int .i64 0) 1 8 Try.underlying85 hi hz0 hz1 hz2 rfl (by decide) v n (ints zs) hs hown ⟨g, 0, none⟩ 1 c [.int .i64 z] hx rfl ?_ ?_ ?_ ?_ hB ?_
  · intro j u hj
    match j, hj with
    | 0, hj => simp at hj; subst hj; simpa [Addr.add] using hc
  · intro u hu; simp at hu; subst hu; rfl
  · unfold maxLen; omega
  · omega
  · intro v' w' h1 h2 _
    rw [← ints_one, ← ints_append] at h1
    exact h v' w' h1 h2
theorem step_app64 {ops : Array Oper} {o : Oper} {a : Act} {K : Act → World → Prop} {Q : Exit → Act → World → Prop} {E : Prop} {w1 : World} (hgd : o.guard = none) (s x : Operand)
    (ho : o.op = .call { callee := .builtin .append, args := #[s, x], argTypes := #[24, 24] }) (B : Nat) (v : Value) (n : Nat) (zs : List Int) (hs : a.eval s = v)
    (hown : w1.ownsRow B 2 1 v n (ints zs)) (hB : B ≤ w1.heap.size) (g : Nat) (c : Nat) (z : Int) (hx : a.eval x = .slice (some ⟨g, 0, none⟩) 1 c) (hc : w1.cell? ⟨g, 0, none⟩ = some (.int .i64 z)) (hn : n + 1 ≤ 4194304)
    (h : ∀ v' w', w'.ownsRow B 2 1 v' (n + 1) (ints (zs ++ [z])) → w1.grownBy w' v.ownBlock → K (a.put o.dst v') w') :
    if Region.wanted o (yielded ops a.tmps) = true then Oper.wp Try.prog o a w1 K Q else E := by
  have hw : Region.wanted o (yielded ops a.tmps) = true := by simp [Region.wanted, hgd]
  rw [if_pos hw]
  obtain ⟨i0, hi, hz0, hz1, hz2⟩ := info_parts info_int
  refine wp_append_own (w := w1) s x 24 ho B 2 i0 (.int .i64 0) 1 8 Try.underlying24 hi hz0 hz1 hz2 rfl (by decide) v n (ints zs) hs hown ⟨g, 0, none⟩ 1 c [.int .i64 z] hx rfl ?_ ?_ ?_ ?_ hB ?_
  · intro j u hj
    match j, hj with
    | 0, hj => simp at hj; subst hj; simpa [Addr.add] using hc
  · intro u hu; simp at hu; subst hu; rfl
  · unfold maxLen; omega
  · omega
  · intro v' w' h1 h2 _
    rw [← ints_one, ← ints_append] at h1
    exact h v' w' h1 h2
end Go.Proofs.Ytinocfehjdlohaa
namespace Go.Proofs.Ytinocfehjdlohaa
open Go.ChangeShapes Go.WideShapes Go.ChangeAt Go.RowKit Go.Maps
set_option linter.unusedVariables false
set_option linter.unusedSimpArgs false

abbrev tMJ : TypeId := 87
theorem mlawJ : Keyed Try.prog tJ := int_keyed Try.underlying3
theorem mkeyJ (x : Int) (h : I64b x) : keyOf Try.prog tJ (.int .i64 x) = some (.int .i64 x) := keyOf_int_mk Try.underlying3 (WalkArith.wf_i64 (by unfold I64b at h; omega))
theorem own_tightJ {w : World} {b n : Nat} {D : DataW Unit} {R : Value → Option (DataW Unit × List MemPlace)} (h : w.ownsMap Try.prog tJ R b n D) : w.ownsMap Try.prog tJ R b (Maps.size D) D := by
  obtain ⟨es, clock, hb, F, hs, rfl⟩ := h
  exact ⟨es, clock, hb, F, by simp [Maps.size, length_sorted], rfl⟩
def idxB (x : Int) : Bool := decide (0 ≤ x) && decide (x < 32)
theorem idxB_iff {x : Int} : idxB x = true ↔ 0 ≤ x ∧ x < 32 := by simp [idxB]
def idxList : List Int := (List.range 32).map fun (k : Nat) => (k : Int)
theorem idxList_nodup : idxList.Nodup := by decide
theorem idxList_mem {x : Int} : x ∈ idxList ↔ idxB x = true := by
  unfold idxList
  rw [List.mem_map, idxB_iff]
  constructor
  · rintro ⟨k, hk, rfl⟩; have := List.mem_range.1 hk; omega
  · intro h; exact ⟨x.toNat, List.mem_range.2 (by omega), by omega⟩
def cntJ (y : Int → Bool) : Nat := (idxList.filter y).length
theorem cntJ_le (y : Int → Bool) : cntJ y ≤ 32 := by
  have := List.length_filter_le y idxList
  simpa [cntJ, idxList] using this
theorem cntJ_none : cntJ (fun _ => false) = 0 := by unfold cntJ; rw [List.filter_eq_nil_iff.2 (fun a _ h => by cases h)]; rfl
theorem cntJ_put_eq {y : Int → Bool} {x : Int} (hw : idxB x = true) (h : y x = false) : cntJ (putB y x) = cntJ y + 1 := by
  have := filter_put_eq y x h idxList idxList_nodup
  rw [if_pos (idxList_mem.2 hw)] at this
  exact this
/-- block b of w is a map that holds 'true' at just the words of y -/
def MapJ (w : World) (b : Nat) (y : Int → Bool) : Prop :=
  ∃ D : DataW Unit, w.ownsMap Try.prog tJ (plainElem Try.prog tB) b (Maps.size D) D ∧ (∀ x, I64b x → D.atKey (.int .i64 x) (.lit (.bool false)) = .lit (.bool (y x))) ∧ (∀ x, I64b x → Maps.has D (.int .i64 x) = y x) ∧ Maps.size D = cntJ y
theorem MapJ.lt {w : World} {b : Nat} {y : Int → Bool} (h : MapJ w b y) : b < w.heap.size := by obtain ⟨D, h1, _⟩ := h; exact h1.lt
theorem MapJ.kept {w w' : World} {row : Option Nat} {b : Nat} {y : Int → Bool} (h : MapJ w b y) (hg : w.grownBy w' row) (hne : some b ≠ row) : MapJ w' b y := by
  obtain ⟨D, h1, h2⟩ := h; exact ⟨D, h1.kept hg hne, h2⟩
theorem MapJ.below {w w' : World} {b B : Nat} {y : Int → Bool} (h : MapJ w b y) (hb : Below B w w') (hB : b < B) : MapJ w' b y := by
  obtain ⟨D, h1, h2⟩ := h
  obtain ⟨es, clock, hbl, F, hs, hD⟩ := h1
  exact ⟨D, ⟨es, clock, (hb.block b hB).trans hbl, F, hs, hD⟩, h2⟩
theorem MapJ.alloc {w : World} {b : Nat} {y : Int → Bool} (h : MapJ w b y) (o : Go.Obj) : MapJ (w.alloc o) b y := h.kept (World.grownBy_alloc w o none) (by simp)
theorem mapJ_made (w : World) : MapJ (w.alloc (.map #[] 0)) w.heap.size fun _ => false :=
  ⟨.map [], World.ownsMap_made w _ _ _, fun x _ => rfl, fun x _ => rfl, by rw [cntJ_none]; rfl⟩
theorem MapJ.look {w : World} {b : Nat} {y : Int → Bool} (h : MapJ w b y) {x : Int} (hx : I64b x) : (Instr.lookup tMJ (.map (some b)) (.int .i64 x) false).run Try.prog w = .ok (.bool (y x)) w := by
  obtain ⟨D, h1, h2, _⟩ := h
  obtain ⟨v, ps, hrun, hv⟩ := h1.lookup mlawJ Try.underlying87 (zeroB w) (plainElem_bool Try.underlying4 false) (mkeyJ x hx)
  rw [hrun, plain_bool_inv Try.underlying4 hv (h2 x hx)]
theorem MapJ.len {w : World} {b : Nat} {y : Int → Bool} (h : MapJ w b y) (ty : TypeId) : (Builtin.len_ #[tMJ] ty #[.map (some b)]).run Try.prog w = .ok (.int .i64 (cntJ y)) w := by
  obtain ⟨D, h1, _, _, h4⟩ := h
  rw [h1.len Try.underlying87, h4]
theorem MapJ.put {w : World} {b : Nat} {y : Int → Bool} (h : MapJ w b y) {x : Int} (hx : idxB x = true) : ∃ w', (Instr.mapUpdate tMJ (.map (some b)) (.int .i64 x) (.bool true)).run Try.prog w = .ok () w' ∧ MapJ w' b (putB y x) ∧ w.grownBy w' (some b) := by
  obtain ⟨D, h1, h2, h3, h4⟩ := h
  have hw := idxB_iff.1 hx
  have hx6 : I64b x := by unfold I64b; omega
  have hlen := cntJ_le y
  have htd := h1.tidy mlawJ
  obtain ⟨w', hrun, hown, hg⟩ := h1.update mlawJ Try.underlying87 (by unfold maxLen; omega) (mkeyJ x hx6) (plainElem_bool Try.underlying4 true)
  have hkl : WideAt.IsKeyLit (Lit.int .i64 x) := by
    first
      | exact trivial
      | exact (keyOf_lit (mkeyJ x hx6))
      | (unfold WideAt.IsKeyLit; trivial)
  refine ⟨w', hrun, ⟨_, own_tightJ hown, fun z hz => ?_, fun z hz => ?_, ?_⟩, hg⟩
  · by_cases e : z = x
    · subst e; rw [atKey_put_same htd.isMap hkl]; simp [putB]
    · rw [atKey_put_other (fun h => e (by injection h)), h2 z hz]; simp [putB, e]
  · by_cases e : z = x
    · subst e; rw [has_put_same htd.isMap hkl]; simp [putB]
    · rw [has_put_other (fun h => e (by injection h)), h3 z hz]; simp [putB, e]
  · rw [size_put htd, h3 x hx6]
    cases hy : y x
    · rw [if_neg (by decide), h4, cntJ_put_eq hx hy]
    · rw [if_pos rfl, h4, put_self hy]
end Go.Proofs.Ytinocfehjdlohaa
namespace Go.Proofs.Ytinocfehjdlohaa
open Go.ChangeShapes Go.WideShapes Go.ChangeAt Go.RowKit
set_option linter.unusedVariables false
set_option linter.unusedSimpArgs false

/-- the first rule with a head, as a number -/
def fstI (T : List Rl) (z : Int) : Int := findI (fun r : Rl => r.hd == z) T
theorem fstI_some {T : List Rl} {z : Int} {p : Nat} (h : fstH T z = some p) : fstI T z = p := by
  unfold fstH at h
  unfold fstI findI
  rw [h]
theorem fstI_none {T : List Rl} {z : Int} (h : fstH T z = none) : fstI T z = -1 := by
  unfold fstH at h
  unfold fstI findI
  rw [h]
theorem tAt_mapN {D : List Rl} {o : List Nat} {p : Nat} (h : p < o.length) : tAt (o.map (tAt D)) p = tAt D o[p] := tAt_map h
theorem natI_get {o : List Nat} {p : Nat} (h : p < o.length) : (natI o)[p]?.getD 0 = (o[p] : Int) := by
  unfold natI
  rw [List.getElem?_map, List.getElem?_eq_getElem h]; rfl
theorem nd_clo {cb : Nat} {A : Option Addr} {m c : Nat} {B : Option Addr} {k d : Nat} {bp bn : Nat} {rs : List Ru} {fs : List Int} {y n : Int → Bool} {b : Bool} (t : Nat) (z : Int) (gc gw : Nat) (w : World) (hC : Court w cb A m c B k d bp bn rs fs y n) (hg : w.cell? ⟨gc, 0, none⟩ = some (.pointer (some ⟨cb, 0, none⟩))) (hz : w.cell? ⟨gw, 0, none⟩ = some (.int .i64 z)) (ht : t < m)
    (h : ((tAt (rs.map Ru.dat) t).hd == z) = b) :
    Calls Try.prog 69 #[.int .i64 (t : Int), .pointer (some ⟨gc, 0, none⟩), .pointer (some ⟨gw, 0, none⟩)] w fun e w' => e = .returned (.bool b) ∧ ∃ j, w' = w.drewN j := by
  have e0 := hC.c0
  obtain ⟨ad, r, rfl, hrk, ha, _⟩ := hC.rr.at ht
  have hdk : tAt (rs.map Ru.dat) t = r.dat := by unfold tAt; exact dat_at hrk
  rw [hdk] at h
  obtain ⟨hd, fr, tt, rk, Ai, ni, ci, ifs⟩ := r
  obtain ⟨c0, _⟩ := ha
  simp only at c0
  have h' : (hd == z) = b := h
  have i1 : (0 : Int) ≤ t := by omega
  have i2 : (t : Int) < m := by omega
  clear hC hrk hdk h
  go_enter Try.func69, Try.ntmps69
  go_wp2_with fail
  go_quiet (fail)
  go_wp2_with fail
  go_ret
  exact ⟨ret_bool (by rw [← h']), ⟨_, rfl⟩⟩
set_option maxHeartbeats 800000 in
theorem nd_index {cb : Nat} {A : Option Addr} {m c : Nat} {B : Option Addr} {k d : Nat} {bp bn : Nat} {rs : List Ru} {fs : List Int} {y n : Int → Bool} (Ao : Option Addr) (q co : Nat) (o : List Nat) (z : Int) (gc gw : Nat) (w : World) (hr : Rd w w.heap.size 1 Ao q (ints (natI o))) (hq : q ≤ 100) (hl : ∀ i ∈ o, i < m)
    (hC : Court w cb A m c B k d bp bn rs fs y n) (hg : w.cell? ⟨gc, 0, none⟩ = some (.pointer (some ⟨cb, 0, none⟩))) (hgl : gc < w.heap.size) (hz : w.cell? ⟨gw, 0, none⟩ = some (.int .i64 z)) (hzl : gw < w.heap.size) :
    Calls Try.prog 68 #[.slice Ao q co, .func (.func 69) #[] #[.pointer (some ⟨gc, 0, none⟩), .pointer (some ⟨gw, 0, none⟩)]] w fun e w' => e = .returned (.int .i64 (fstI (o.map (tAt (rs.map Ru.dat))) z)) ∧ Below w.heap.size w w' := by
  obtain ⟨T, hT⟩ : ∃ T, T = o.map (tAt (rs.map Ru.dat)) := ⟨_, rfl⟩
  have HT := Lib.hid hT
  rw [← hT]
  clear hT
  have HLO := Lib.hid (show o.length = q by have := hr.ilen; unfold natI at this; simpa using this)
  have HLT := Lib.hid (show T.length = q by rw [HT.out, List.length_map]; exact HLO.out)
  have HC := Lib.hid hC
  have HG := Lib.hid hg
  have HZ := Lib.hid hz
  have HR := Lib.hid hr
  have HL := Lib.hid hl
  clear hC hg hz hr hl
  go_enter Try.func68, Try.ntmps68
  go_wp2
  go_loopw [5, 8] (fun _ i wr => ∃ t : Nat, t ≤ q ∧ i = .int .i64 t ∧ (T.take t).any (fun r : Rl => r.hd == z) = false ∧ Below w.heap.size w wr) (fun _ i _ => q - (intOf i).toNat)
  case atStart => exact ⟨0, Nat.zero_le _, rfl, rfl, Below.refl _ _⟩
  case round =>
    obtain ⟨t, ht, rfl, ha, hb⟩ := hrel
    have HA := Lib.hid ha
    have HB := Lib.hid hb
    clear ha hb
    by_cases hlt : t < q
    · have hlo : t < o.length := by rw [HLO.out]; exact hlt
      obtain ⟨ad, rfl, hcz⟩ := (HR.out.below HB.out).int hlt
      rw [natI_get hlo] at hcz
      have him := HL.out _ (List.getElem_mem hlo)
      have hT2 : T[t]?.getD noRl = tAt (rs.map Ru.dat) o[t] := by
        have := tAt_mapN (D := rs.map Ru.dat) hlo
        rw [← HT.out] at this
        exact this
      obtain ⟨i, hi⟩ : ∃ i, i = o[t] := ⟨_, rfl⟩
      rw [← hi] at hcz him hT2
      have HIM := Lib.hid him
      clear hi him hlo
      cases hh : (tAt (rs.map Ru.dat) i).hd == z
      · have hs := Lib.hid (any_snoc (p := fun r : Rl => r.hd == z) noRl HA.out (by have := HLT.out; omega) (by rw [hT2]; exact hh))
        have HH := Lib.hid hh
        clear hh hT2
        go_wp2_with (go_at_call 69; refine (nd_clo i z gc gw _ (HC.out.on HB.out) ((HB.out.cell (p := ⟨gc, 0, none⟩) hgl).trans HG.out) ((HB.out.cell (p := ⟨gw, 0, none⟩) hzl).trans HZ.out) HIM.out HH.out).mono ?_; rintro e w' ⟨rfl, j, rfl⟩)
        go_roundw
        case rel => exact ⟨t + 1, by omega, by go_num, hs.out, below_drewN HB.out _⟩
        case measure => simp [intOf]; omega
      · have hfin := Lib.hid (findI_hit (p := fun r : Rl => r.hd == z) noRl HA.out (by have := HLT.out; omega) (by rw [hT2]; exact hh))
        have HH := Lib.hid hh
        clear hh hT2
        go_wp2_with (go_at_call 69; refine (nd_clo i z gc gw _ (HC.out.on HB.out) ((HB.out.cell (p := ⟨gc, 0, none⟩) hgl).trans HG.out) ((HB.out.cell (p := ⟨gw, 0, none⟩) hzl).trans HZ.out) HIM.out HH.out).mono ?_; rintro e w' ⟨rfl, j, rfl⟩)
        go_ret
        exact ⟨by rw [fstI, hfin.out]; rfl, below_drewN HB.out _⟩
    · obtain rfl : q = t := by omega
      have hfin := Lib.hid (findI_miss (p := fun r : Rl => r.hd == z) (zs := T) (by have := HA.out; rwa [List.take_of_length_le (by have := HLT.out; omega)] at this))
      clear HA
      go_wp2
      go_ret
      exact ⟨by rw [fstI, hfin.out]; rfl, HB.out⟩
/-- what stands while the rules are marked; W is the world just ahead of the making of the map -/
structure NS (W w : World) (go gn gf : Nat) (Ao : Option Addr) (q co gc : Nat) (kn : Int → Bool) : Prop where
  be : Below W.heap.size W w
  mp : MapJ w W.heap.size kn
  co : w.cell? ⟨go, 0, none⟩ = some (.slice Ao q co)
  cn : w.cell? ⟨gn, 0, none⟩ = some (.map (some W.heap.size))
  cf : w.cell? ⟨gf, 0, none⟩ = some (.func (.func 67) #[] #[.pointer (some ⟨go, 0, none⟩), .pointer (some ⟨gc, 0, none⟩), .pointer (some ⟨gn, 0, none⟩), .pointer (some ⟨gf, 0, none⟩)])
  lo : W.heap.size < go ∧ go < w.heap.size
  ln : W.heap.size < gn ∧ gn < w.heap.size
  lf : W.heap.size < gf ∧ gf < w.heap.size
section
variable {W w w' : World} {go gn gf : Nat} {Ao : Option Addr} {q co gc : Nat} {kn kn' : Int → Bool}
theorem NS.on (h : NS W w go gn gf Ao q co gc kn) (hb : Below w.heap.size w w') : NS W w' go gn gf Ao q co gc kn :=
  ⟨below_step h.be hb, h.mp.below hb h.mp.lt, (hb.cell (p := ⟨go, 0, none⟩) h.lo.2).trans h.co, (hb.cell (p := ⟨gn, 0, none⟩) h.ln.2).trans h.cn, (hb.cell (p := ⟨gf, 0, none⟩) h.lf.2).trans h.cf,
    ⟨h.lo.1, Nat.lt_of_lt_of_le h.lo.2 hb.size⟩, ⟨h.ln.1, Nat.lt_of_lt_of_le h.ln.2 hb.size⟩, ⟨h.lf.1, Nat.lt_of_lt_of_le h.lf.2 hb.size⟩⟩
theorem NS.put (h : NS W w go gn gf Ao q co gc kn) (hp : MapJ w' W.heap.size kn') (hg : w.grownBy w' (some W.heap.size)) : NS W w' go gn gf Ao q co gc kn' :=
  ⟨below_grown h.be hg fun k hk => by injection hk with hk; subst hk; exact Nat.le_refl _, hp, hg.cell h.co (by intro e; injection e with e; exact absurd e (Nat.ne_of_gt h.lo.1)), hg.cell h.cn (by intro e; injection e with e; exact absurd e (Nat.ne_of_gt h.ln.1)), hg.cell h.cf (by intro e; injection e with e; exact absurd e (Nat.ne_of_gt h.lf.1)),
    ⟨h.lo.1, Nat.lt_of_lt_of_le h.lo.2 hg.size⟩, ⟨h.ln.1, Nat.lt_of_lt_of_le h.ln.2 hg.size⟩, ⟨h.lf.1, Nat.lt_of_lt_of_le h.lf.2 hg.size⟩⟩
end
/-- the places that are marked -/
def Np (o : List Nat) (kn : Int → Bool) (p : Nat) : Prop := ∃ h : p < o.length, kn (o[p] : Int) = true
def un (o : List Nat) (kn : Int → Bool) : Nat := (o.filter fun (i : Nat) => !kn (i : Int)).length
theorem Np.put {o : List Nat} (hn : o.Nodup) {kn : Int → Bool} {p : Nat} (hp : p < o.length) : Np o (putB kn (o[p] : Int)) = fun r => Np o kn r ∨ r = p := by
  funext r
  apply propext
  unfold Np putB
  constructor
  · rintro ⟨h, e⟩
    rw [Bool.or_eq_true, beq_iff_eq] at e
    rcases e with e | e
    · exact .inl ⟨h, e⟩
    · exact .inr ((List.getElem_inj hn).1 (by omega))
  · rintro (⟨h, e⟩ | rfl)
    · exact ⟨h, by rw [e]; rfl⟩
    · exact ⟨hp, by simp⟩
theorem un_put {o : List Nat} {kn : Int → Bool} {p : Nat} (hp : p < o.length) (h : kn (o[p] : Int) = false) : un o (putB kn (o[p] : Int)) < un o kn := by
  unfold un
  have hle : ∀ l : List Nat, (l.filter fun (i : Nat) => !putB kn (o[p] : Int) (i : Int)).length ≤ (l.filter fun (i : Nat) => !kn (i : Int)).length := by
    intro l
    induction l with
    | nil => simp
    | cons a l ih =>
      have hp : (!putB kn (o[p] : Int) (a : Int)) = true → (!kn (a : Int)) = true := by unfold putB; cases kn (a : Int) <;> simp
      rw [List.filter_cons, List.filter_cons]
      split <;> split <;> (try simp only [List.length_cons]) <;> first | omega | (rename_i h1 h2; exact absurd (hp h1) h2)
  have hlt : ∀ l : List Nat, o[p] ∈ l → (l.filter fun (i : Nat) => !putB kn (o[p] : Int) (i : Int)).length < (l.filter fun (i : Nat) => !kn (i : Int)).length := by
    intro l
    induction l with
    | nil => intro h; cases h
    | cons a l ih =>
      intro hm
      rw [List.filter_cons, List.filter_cons]
      by_cases e : a = o[p]
      · have h1 : (!putB kn (o[p] : Int) (a : Int)) = false := by rw [e]; simp [putB]
        have h2 : (!kn (a : Int)) = true := by rw [e, h]; rfl
        rw [h1, h2]
        have := hle l
        simp; omega
      · have hm2 : o[p] ∈ l := by
          rcases List.mem_cons.1 hm with h | h
          · exact absurd h.symm e
          · exact h
        have ih := ih hm2
        have e2 : ((a : Int) == (o[p] : Int)) = false := by simp; omega
        have h1 : (!putB kn (o[p] : Int) (a : Int)) = (!kn (a : Int)) := by unfold putB; rw [e2, Bool.or_false]
        rw [h1]
        cases hk : kn (a : Int) <;> simp <;> omega
  exact hlt o (List.getElem_mem hp)
end Go.Proofs.Ytinocfehjdlohaa
namespace Go.Proofs.Ytinocfehjdlohaa
open Go.ChangeShapes Go.WideShapes Go.ChangeAt Go.RowKit
set_option linter.unusedVariables false
set_option linter.unusedSimpArgs false

set_option maxRecDepth 100000 in
set_option maxHeartbeats 3200000 in
theorem need_is {cb : Nat} {A : Option Addr} {m c : Nat} {B : Option Addr} {k9 d : Nat} {bp bn : Nat} {rs : List Ru} {fs : List Int} {y n : Int → Bool} (W : World) (hC : Court W cb A m c B k9 d bp bn rs fs y n) (hv : ∀ r ∈ rs, (∀ z ∈ r.ifs, wordB z = true) ∧ wordB r.hd = true) (hm : m ≤ 24)
    (gc : Nat) (hgc : W.cell? ⟨gc, 0, none⟩ = some (.pointer (some ⟨cb, 0, none⟩))) (hgl : gc < W.heap.size) (Ao : Option Addr) (q co : Nat) (o : List Nat) (hr : Rd W W.heap.size 1 Ao q (ints (natI o))) (hq : q ≤ 100) (hl : ∀ i ∈ o, i < m) (hnd : o.Nodup) (go gn gf : Nat) :
    ∀ (k : Nat) (z : Int) (kn : Int → Bool) (w : World), wordB z = true → NS W w go gn gf Ao q co gc kn → un o kn = k →
    Calls Try.prog 67 #[.int .i64 z, .pointer (some ⟨go, 0, none⟩), .pointer (some ⟨gc, 0, none⟩), .pointer (some ⟨gn, 0, none⟩), .pointer (some ⟨gf, 0, none⟩)] w fun e w' => e = .returned (.tuple #[]) ∧ ∃ kn', NS W w' go gn gf Ao q co gc kn' ∧ un o kn' ≤ k ∧ Dfs (o.map (tAt (rs.map Ru.dat))) (facB fs) z (Np o kn) (Np o kn') := by
  obtain ⟨T, hT⟩ : ∃ T, T = o.map (tAt (rs.map Ru.dat)) := ⟨_, rfl⟩
  have HT := Lib.hid hT
  have HC := Lib.hid hC
  have HV := Lib.hid hv
  have HGC := Lib.hid hgc
  have HR := Lib.hid hr
  have HL := Lib.hid hl
  have HND := Lib.hid hnd
  have HLO := Lib.hid (show o.length = q by have := hr.ilen; rw [natI_length] at this; exact this)
  rw [← hT]
  clear hT hC hv hgc hr hl hnd
  intro k
  induction k using Nat.strongRecOn with
  | _ k ih =>
  intro z kn w hz hN hk
  have IH := Lib.hid ih
  have HK := Lib.hid hk
  have HZW := Lib.hid hz
  have HN := Lib.hid hN
  have hN1 := hN.on (bl_a (w := w) (.cells #[.int .i64 z] tI))
  have hN2 := Lib.hid hN1
  have e1 := hN1.co
  have hz1 : (w.alloc (.cells #[.int .i64 z] tI)).cell? ⟨w.heap.size, 0, none⟩ = some (.int .i64 z) := by go_simp
  have HIX := Lib.hid (nd_index Ao q co o z gc w.heap.size (w.alloc (.cells #[.int .i64 z] tI)) ((HR.out.below hN1.be).more hN1.be.size) hq HL.out (HC.out.on hN1.be) ((hN1.be.cell (p := ⟨gc, 0, none⟩) hgl).trans HGC.out) (Nat.lt_of_lt_of_le hgl hN1.be.size) hz1 (by simp))
  clear ih hk hz hN hN1
  have hmf := run_makeFn
  go_enter Try.func67, Try.ntmps67
  go_wp2_with fail
  refine HIX.out.mono ?_
  rintro e w2 ⟨rfl, hb2⟩
  have HZ2 := Lib.hid ((hb2.cell (p := ⟨w.heap.size, 0, none⟩) (by simp)).trans hz1)
  have HN2 := Lib.hid (hN2.out.on hb2)
  have HZL := Lib.hid (show w.heap.size < w2.heap.size from Nat.lt_of_lt_of_le (by simp) hb2.size)
  have HZ0 := Lib.hid (show W.heap.size ≤ w.heap.size from HN.out.be.size)
  obtain ⟨gz, hgz⟩ : ∃ g, g = w.heap.size := ⟨_, rfl⟩
  rw [← hgz] at HZ2 HZL HZ0 ⊢
  rw [← HT.out] at HIX ⊢
  clear hb2 hN2 e1 hz1 HIX hgz HN
  have HC2 := Lib.hid (HC.out.on (below_drewN HN2.out.be 1))
  have hgc2 : w2.cell? ⟨gc, 0, none⟩ = some (.pointer (some ⟨cb, 0, none⟩)) := (HN2.out.be.cell (p := ⟨gc, 0, none⟩) hgl).trans HGC.out
  cases hf : facB fs z
  case true =>
    have HF := Lib.hid hf
    have hfin := Lib.hid (Dfs.skip (T := T) (N := Np o kn) (.inl hf))
    have KEEP := Lib.hid (show (fun w' => w'.cell? ⟨gz, 0, none⟩ = some (.int .i64 z) ∧ w'.cell? ⟨gc, 0, none⟩ = some (.pointer (some ⟨cb, 0, none⟩)) ∧ w'.cell? ⟨go, 0, none⟩ = some (.slice Ao q co) ∧ w'.cell? ⟨gn, 0, none⟩ = some (.map (some W.heap.size)) ∧ True) (w2.drewN 1) from ⟨HZ2.out, hgc2, HN2.out.co, HN2.out.cn, trivial⟩)
    clear hf hgc2
    go_wp2_with fail
    refine wp_region_held_drew (S := (fun w' => w'.cell? ⟨gz, 0, none⟩ = some (.int .i64 z) ∧ w'.cell? ⟨gc, 0, none⟩ = some (.pointer (some ⟨cb, 0, none⟩)) ∧ w'.cell? ⟨go, 0, none⟩ = some (.slice Ao q co) ∧ w'.cell? ⟨gn, 0, none⟩ = some (.map (some W.heap.size)) ∧ True)) (by kernel_rfl) KEEP.out (fun hHeld => ?_)
    (refine take_dst (i := 0) (v := _) (some 12) rfl rfl (by kernel_rfl) (by kernel_rfl) (by kernel_rfl) (fun _ _ _ h => h) (Or.inl ⟨by rfl, by (intro w3 hw; (try dsimp only at hw); go_simp; try with_reducible rfl)⟩) (by assumption) ?_; try simp only [Act.put, List.setIfInBounds_toArray, List.set_cons_zero, List.set_cons_succ])
    (refine take_dst (i := 1) (v := _) (some 13) rfl rfl (by kernel_rfl) (by kernel_rfl) (by kernel_rfl) (fun _ _ _ h => h) (Or.inl ⟨by rfl, by (intro w3 hw; (try dsimp only at hw); go_simp; try with_reducible rfl)⟩) (by assumption) ?_; try simp only [Act.put, List.setIfInBounds_toArray, List.set_cons_zero, List.set_cons_succ])
    (refine wpAnyH_ready (rs := [2]) (by kernel_rfl) (by simp) (AllReadyH.cons (i := 2) rfl (fun K hK => ?_) AllReadyH.nil); go_simp)
    refine (isFact_is z _ HC2.out HF.out).mono ?_
    rintro e w3 ⟨rfl, rfl⟩
    go_wp2_with fail
    refine hK.out _ _ hHeld (fun hHeld => ?_)
    clear hK K
    try simp only [Act.put, List.setIfInBounds_toArray, List.set_cons_zero, List.set_cons_succ]
    (refine take_dst (i := 3) (v := _) (some 15) rfl rfl (by kernel_rfl) (by kernel_rfl) (by kernel_rfl) (fun _ _ _ h => h) (Or.inl ⟨by rfl, by (intro w3 hw; (try dsimp only at hw); go_simp; try with_reducible rfl)⟩) (by assumption) ?_; try simp only [Act.put, List.setIfInBounds_toArray, List.set_cons_zero, List.set_cons_succ])
    (refine take_dst (i := 4) (v := undef) (some 16) rfl rfl (by kernel_rfl) (by kernel_rfl) (by kernel_rfl) (fun _ _ _ h => h) (Or.inr ⟨by rfl, rfl⟩) (by assumption) ?_; try simp only [Act.put, List.setIfInBounds_toArray, List.set_cons_zero, List.set_cons_succ])
    (refine take_dst (i := 5) (v := undef) (some 17) rfl rfl (by kernel_rfl) (by kernel_rfl) (by kernel_rfl) (fun _ _ _ h => h) (Or.inr ⟨by rfl, rfl⟩) (by assumption) ?_; try simp only [Act.put, List.setIfInBounds_toArray, List.set_cons_zero, List.set_cons_succ])
    (refine take_dst (i := 6) (v := _) (some 18) rfl rfl (by kernel_rfl) (by kernel_rfl) (by kernel_rfl) (fun _ _ _ h => h) (Or.inl ⟨by rfl, by (intro w3 hw; (try dsimp only at hw); go_simp; try with_reducible rfl)⟩) (by assumption) ?_; try simp only [Act.put, List.setIfInBounds_toArray, List.set_cons_zero, List.set_cons_succ])
    (refine take_dst (i := 7) (v := _) (some 19) rfl rfl (by kernel_rfl) (by kernel_rfl) (by kernel_rfl) (fun _ _ _ h => h) (Or.inl ⟨by rfl, by (intro w3 hw; (try dsimp only at hw); go_simp; try with_reducible rfl)⟩) (by assumption) ?_; try simp only [Act.put, List.setIfInBounds_toArray, List.set_cons_zero, List.set_cons_succ])
    (refine take_dst (i := 8) (v := undef) (some 20) rfl rfl (by kernel_rfl) (by kernel_rfl) (by kernel_rfl) (fun _ _ _ h => h) (Or.inr ⟨by rfl, rfl⟩) (by assumption) ?_; try simp only [Act.put, List.setIfInBounds_toArray, List.set_cons_zero, List.set_cons_succ])
    (refine take_dst (i := 9) (v := undef) (some 21) rfl rfl (by kernel_rfl) (by kernel_rfl) (by kernel_rfl) (fun _ _ _ h => h) (Or.inr ⟨by rfl, rfl⟩) (by assumption) ?_; try simp only [Act.put, List.setIfInBounds_toArray, List.set_cons_zero, List.set_cons_succ])
    (refine take_dst (i := 10) (v := undef) (some 22) rfl rfl (by kernel_rfl) (by kernel_rfl) (by kernel_rfl) (fun _ _ _ h => h) (Or.inr ⟨by rfl, rfl⟩) (by assumption) ?_; try simp only [Act.put, List.setIfInBounds_toArray, List.set_cons_zero, List.set_cons_succ])
    (refine take_dst (i := 11) (v := undef) (some 23) rfl rfl (by kernel_rfl) (by kernel_rfl) (by kernel_rfl) (fun _ _ _ h => h) (Or.inr ⟨by rfl, rfl⟩) (by assumption) ?_; try simp only [Act.put, List.setIfInBounds_toArray, List.set_cons_zero, List.set_cons_succ])
    (refine take_dst (i := 12) (v := undef) (some 24) rfl rfl (by kernel_rfl) (by kernel_rfl) (by kernel_rfl) (fun _ _ _ h => h) (Or.inr ⟨by rfl, rfl⟩) (by assumption) ?_; try simp only [Act.put, List.setIfInBounds_toArray, List.set_cons_zero, List.set_cons_succ])
    (refine take_dst (i := 13) (v := undef) (some 25) rfl rfl (by kernel_rfl) (by kernel_rfl) (by kernel_rfl) (fun _ _ _ h => h) (Or.inr ⟨by rfl, rfl⟩) (by assumption) ?_; try simp only [Act.put, List.setIfInBounds_toArray, List.set_cons_zero, List.set_cons_succ])
    (refine take_dst (i := 14) (v := _) (some 26) rfl rfl (by kernel_rfl) (by kernel_rfl) (by kernel_rfl) (fun _ _ _ h => h) (Or.inl ⟨by rfl, by (intro w3 hw; (try dsimp only at hw); go_simp; try with_reducible rfl)⟩) (by assumption) ?_; try simp only [Act.put, List.setIfInBounds_toArray, List.set_cons_zero, List.set_cons_succ])
    refine wpAnyH_done (by kernel_rfl) ?_ _
    clear hHeld KEEP
    go_wp2_with fail
    refine bodyPost_ret (results_none rfl _ _ _) rfl ?_
    exact ⟨rfl, kn, HN2.out.on (below_drewN (Below.refl _ _) 1), Nat.le_of_eq HK.out, hfin.out⟩
  case false =>
  have HF := Lib.hid hf
  cases hfst : fstH T z with
  | none =>
    have hfin := Lib.hid (Dfs.skip (T := T) (fac := facB fs) (w := z) (N := Np o kn) (.inr (.inl hfst)))
    have KEEP := Lib.hid (show (fun w' => w'.cell? ⟨gz, 0, none⟩ = some (.int .i64 z) ∧ w'.cell? ⟨gc, 0, none⟩ = some (.pointer (some ⟨cb, 0, none⟩)) ∧ w'.cell? ⟨go, 0, none⟩ = some (.slice Ao q co) ∧ w'.cell? ⟨gn, 0, none⟩ = some (.map (some W.heap.size)) ∧ True) (w2.drewN 1) from ⟨HZ2.out, hgc2, HN2.out.co, HN2.out.cn, trivial⟩)
    rw [fstI_none hfst]
    clear hf hgc2 hfst
    go_wp2_with fail
    (
    refine wp_region_held_drew (S := (fun w' => w'.cell? ⟨gz, 0, none⟩ = some (.int .i64 z) ∧ w'.cell? ⟨gc, 0, none⟩ = some (.pointer (some ⟨cb, 0, none⟩)) ∧ w'.cell? ⟨go, 0, none⟩ = some (.slice Ao q co) ∧ w'.cell? ⟨gn, 0, none⟩ = some (.map (some W.heap.size)) ∧ True)) (by kernel_rfl) KEEP.out (fun hHeld => ?_)
    (refine take_dst (i := 0) (v := _) (some 12) rfl rfl (by kernel_rfl) (by kernel_rfl) (by kernel_rfl) (fun _ _ _ h => h) (Or.inl ⟨by rfl, by (intro w3 hw; (try dsimp only at hw); go_simp; try with_reducible rfl)⟩) (by assumption) ?_; try simp only [Act.put, List.setIfInBounds_toArray, List.set_cons_zero, List.set_cons_succ])
    (refine take_dst (i := 1) (v := _) (some 13) rfl rfl (by kernel_rfl) (by kernel_rfl) (by kernel_rfl) (fun _ _ _ h => h) (Or.inl ⟨by rfl, by (intro w3 hw; (try dsimp only at hw); go_simp; try with_reducible rfl)⟩) (by assumption) ?_; try simp only [Act.put, List.setIfInBounds_toArray, List.set_cons_zero, List.set_cons_succ])
    (refine wpAnyH_ready (rs := [2]) (by kernel_rfl) (by simp) (AllReadyH.cons (i := 2) rfl (fun K hK => ?_) AllReadyH.nil); go_simp)
    refine (isFact_is z _ HC2.out HF.out).mono ?_
    rintro e w3 ⟨rfl, rfl⟩
    go_wp2_with fail
    refine hK.out _ _ hHeld (fun hHeld => ?_)
    clear hK K
    try simp only [Act.put, List.setIfInBounds_toArray, List.set_cons_zero, List.set_cons_succ]
    (refine take_dst (i := 3) (v := _) (some 15) rfl rfl (by kernel_rfl) (by kernel_rfl) (by kernel_rfl) (fun _ _ _ h => h) (Or.inl ⟨by rfl, by (intro w3 hw; (try dsimp only at hw); go_simp; try with_reducible rfl)⟩) (by assumption) ?_; try simp only [Act.put, List.setIfInBounds_toArray, List.set_cons_zero, List.set_cons_succ])
    )
    (refine take_dst (i := 4) (v := _) (some 16) rfl rfl (by kernel_rfl) (by kernel_rfl) (by kernel_rfl) (fun _ _ _ h => h) (Or.inl ⟨by rfl, by (intro w3 hw; (try dsimp only at hw); go_simp; try with_reducible rfl)⟩) (by assumption) ?_; try simp only [Act.put, List.setIfInBounds_toArray, List.set_cons_zero, List.set_cons_succ])
    (refine take_dst (i := 5) (v := _) (some 17) rfl rfl (by kernel_rfl) (by kernel_rfl) (by kernel_rfl) (fun _ _ _ h => h) (Or.inl ⟨by rfl, by (intro w3 hw; (try dsimp only at hw); go_simp; try with_reducible rfl)⟩) (by assumption) ?_; try simp only [Act.put, List.setIfInBounds_toArray, List.set_cons_zero, List.set_cons_succ])
    (refine take_dst (i := 6) (v := _) (some 18) rfl rfl (by kernel_rfl) (by kernel_rfl) (by kernel_rfl) (fun _ _ _ h => h) (Or.inl ⟨by rfl, by (intro w3 hw; (try dsimp only at hw); go_simp; try with_reducible rfl)⟩) (by assumption) ?_; try simp only [Act.put, List.setIfInBounds_toArray, List.set_cons_zero, List.set_cons_succ])
    (refine take_dst (i := 7) (v := _) (some 19) rfl rfl (by kernel_rfl) (by kernel_rfl) (by kernel_rfl) (fun _ _ _ h => h) (Or.inl ⟨by rfl, by (intro w3 hw; (try dsimp only at hw); go_simp; try with_reducible rfl)⟩) (by assumption) ?_; try simp only [Act.put, List.setIfInBounds_toArray, List.set_cons_zero, List.set_cons_succ])
    (refine take_dst (i := 8) (v := undef) (some 20) rfl rfl (by kernel_rfl) (by kernel_rfl) (by kernel_rfl) (fun _ _ _ h => h) (Or.inr ⟨by rfl, rfl⟩) (by assumption) ?_; try simp only [Act.put, List.setIfInBounds_toArray, List.set_cons_zero, List.set_cons_succ])
    (refine take_dst (i := 9) (v := undef) (some 21) rfl rfl (by kernel_rfl) (by kernel_rfl) (by kernel_rfl) (fun _ _ _ h => h) (Or.inr ⟨by rfl, rfl⟩) (by assumption) ?_; try simp only [Act.put, List.setIfInBounds_toArray, List.set_cons_zero, List.set_cons_succ])
    (refine take_dst (i := 10) (v := undef) (some 22) rfl rfl (by kernel_rfl) (by kernel_rfl) (by kernel_rfl) (fun _ _ _ h => h) (Or.inr ⟨by rfl, rfl⟩) (by assumption) ?_; try simp only [Act.put, List.setIfInBounds_toArray, List.set_cons_zero, List.set_cons_succ])
    (refine take_dst (i := 11) (v := undef) (some 23) rfl rfl (by kernel_rfl) (by kernel_rfl) (by kernel_rfl) (fun _ _ _ h => h) (Or.inr ⟨by rfl, rfl⟩) (by assumption) ?_; try simp only [Act.put, List.setIfInBounds_toArray, List.set_cons_zero, List.set_cons_succ])
    (refine take_dst (i := 12) (v := undef) (some 24) rfl rfl (by kernel_rfl) (by kernel_rfl) (by kernel_rfl) (fun _ _ _ h => h) (Or.inr ⟨by rfl, rfl⟩) (by assumption) ?_; try simp only [Act.put, List.setIfInBounds_toArray, List.set_cons_zero, List.set_cons_succ])
    (refine take_dst (i := 13) (v := undef) (some 25) rfl rfl (by kernel_rfl) (by kernel_rfl) (by kernel_rfl) (fun _ _ _ h => h) (Or.inr ⟨by rfl, rfl⟩) (by assumption) ?_; try simp only [Act.put, List.setIfInBounds_toArray, List.set_cons_zero, List.set_cons_succ])
    (refine take_dst (i := 14) (v := _) (some 26) rfl rfl (by kernel_rfl) (by kernel_rfl) (by kernel_rfl) (fun _ _ _ h => h) (Or.inl ⟨by rfl, by (intro w3 hw; (try dsimp only at hw); go_simp; try with_reducible rfl)⟩) (by assumption) ?_; try simp only [Act.put, List.setIfInBounds_toArray, List.set_cons_zero, List.set_cons_succ])
    refine wpAnyH_done (by kernel_rfl) ?_ _
    clear hHeld KEEP
    go_wp2_with fail
    refine bodyPost_ret (results_none rfl _ _ _) rfl ?_
    exact ⟨rfl, kn, HN2.out.on (below_drewN (Below.refl _ _) 1), Nat.le_of_eq HK.out, hfin.out⟩
  | some p =>
    have hpT := (fstH_some hfst).1
    have hpo : p < o.length := by rw [HT.out, List.length_map] at hpT; exact hpT
    have hpq : p < q := by rw [← HLO.out]; exact hpo
    have hTp : tAt T p = tAt (rs.map Ru.dat) o[p] := by rw [HT.out]; exact tAt_mapN hpo
    obtain ⟨ad, rfl, hcp⟩ := (HR.out.below HN2.out.be).int hpq
    rw [natI_get hpo] at hcp
    have him := HL.out _ (List.getElem_mem hpo)
    have hidx : idxB (o[p] : Int) = true := idxB_iff.2 (by omega)
    have hi6 : I64b (o[p] : Int) := by unfold I64b; omega
    have hlk := (HN2.out.on (below_drewN (Below.refl _ _) 1)).mp.look hi6
    have hp0 : decide ((p : Int) < 0) = false := by simp
    have i1 : (0 : Int) ≤ p := by omega
    have i2 : (p : Int) < q := by omega
    have HPUT := Lib.hid (Np.put (kn := kn) HND.out hpo)
    have HUN := Lib.hid (un_put (kn := kn) hpo)
    have HFST := Lib.hid hfst
    rw [fstI_some hfst]
    have HNP := Lib.hid (show Np o kn p ↔ kn (o[p] : Int) = true from ⟨fun ⟨_, h⟩ => h, fun h => ⟨hpo, h⟩⟩)
    have HCELL := Lib.hid (fun (w' : World) (hb : Below W.heap.size W w') => show w'.cell? (ad.add p) = some (.int .i64 (o[p] : Int)) from by
      obtain ⟨ad', e, h⟩ := (HR.out.below hb).int hpq
      cases e
      rw [natI_get hpo] at h
      exact h)
    obtain ⟨i, hi⟩ : ∃ i, i = o[p] := ⟨_, rfl⟩
    rw [← hi] at HCELL hcp him hidx hi6 hlk HPUT HUN hTp HNP
    have HTP := Lib.hid hTp
    have HIDX := Lib.hid hidx
    have HIM := Lib.hid him
    clear hi him hidx hi6 hpT hpo hTp hfst hf
    cases hkb : kn (i : Int)
    case true =>
      rw [hkb] at hlk
      have hfin := Lib.hid (Dfs.skip (T := T) (fac := facB fs) (w := z) (N := Np o kn) (.inr (.inr ⟨p, HFST.out, HNP.out.2 hkb⟩)))
      have KEEP := Lib.hid (show (fun w' => w'.cell? ⟨gz, 0, none⟩ = some (.int .i64 z) ∧ w'.cell? ⟨gc, 0, none⟩ = some (.pointer (some ⟨cb, 0, none⟩)) ∧ w'.cell? ⟨go, 0, none⟩ = some (.slice (some ad) q co) ∧ w'.cell? ⟨gn, 0, none⟩ = some (.map (some W.heap.size)) ∧ w'.cell? (ad.add p) = some (.int .i64 (i : Int)) ∧ (Instr.lookup tMJ (.map (some W.heap.size)) (.int .i64 (i : Int)) false).run Try.prog w' = .ok (.bool true) w') (w2.drewN 1) from ⟨HZ2.out, hgc2, HN2.out.co, HN2.out.cn, hcp, hlk⟩)
      clear hgc2 hcp hlk hkb
      go_wp2_with fail
      (
    refine wp_region_held_drew (S := (fun w' => w'.cell? ⟨gz, 0, none⟩ = some (.int .i64 z) ∧ w'.cell? ⟨gc, 0, none⟩ = some (.pointer (some ⟨cb, 0, none⟩)) ∧ w'.cell? ⟨go, 0, none⟩ = some (.slice (some ad) q co) ∧ w'.cell? ⟨gn, 0, none⟩ = some (.map (some W.heap.size)) ∧ w'.cell? (ad.add p) = some (.int .i64 (i : Int)) ∧ (Instr.lookup tMJ (.map (some W.heap.size)) (.int .i64 (i : Int)) false).run Try.prog w' = .ok (.bool true) w')) (by kernel_rfl) KEEP.out (fun hHeld => ?_)
    (refine take_dst (i := 0) (v := _) (some 12) rfl rfl (by kernel_rfl) (by kernel_rfl) (by kernel_rfl) (fun _ _ _ h => h) (Or.inl ⟨by rfl, by (intro w3 hw; (try dsimp only at hw); go_simp; try with_reducible rfl)⟩) (by assumption) ?_; try simp only [Act.put, List.setIfInBounds_toArray, List.set_cons_zero, List.set_cons_succ])
    (refine take_dst (i := 1) (v := _) (some 13) rfl rfl (by kernel_rfl) (by kernel_rfl) (by kernel_rfl) (fun _ _ _ h => h) (Or.inl ⟨by rfl, by (intro w3 hw; (try dsimp only at hw); go_simp; try with_reducible rfl)⟩) (by assumption) ?_; try simp only [Act.put, List.setIfInBounds_toArray, List.set_cons_zero, List.set_cons_succ])
    (refine wpAnyH_ready (rs := [2]) (by kernel_rfl) (by simp) (AllReadyH.cons (i := 2) rfl (fun K hK => ?_) AllReadyH.nil); go_simp)
    refine (isFact_is z _ HC2.out HF.out).mono ?_
    rintro e w3 ⟨rfl, rfl⟩
    go_wp2_with fail
    refine hK.out _ _ hHeld (fun hHeld => ?_)
    clear hK K
    try simp only [Act.put, List.setIfInBounds_toArray, List.set_cons_zero, List.set_cons_succ]
    (refine take_dst (i := 3) (v := _) (some 15) rfl rfl (by kernel_rfl) (by kernel_rfl) (by kernel_rfl) (fun _ _ _ h => h) (Or.inl ⟨by rfl, by (intro w3 hw; (try dsimp only at hw); go_simp; try with_reducible rfl)⟩) (by assumption) ?_; try simp only [Act.put, List.setIfInBounds_toArray, List.set_cons_zero, List.set_cons_succ])
    )
      (refine take_dst (i := 4) (v := _) (some 16) rfl rfl (by kernel_rfl) (by kernel_rfl) (by kernel_rfl) (fun _ _ _ h => h) (Or.inl ⟨by rfl, by (intro w3 hw; (try dsimp only at hw); go_simp; try with_reducible rfl)⟩) (by assumption) ?_; try simp only [Act.put, List.setIfInBounds_toArray, List.set_cons_zero, List.set_cons_succ])
      (refine take_dst (i := 5) (v := _) (some 17) rfl rfl (by kernel_rfl) (by kernel_rfl) (by kernel_rfl) (fun _ _ _ h => h) (Or.inl ⟨by rfl, by (intro w3 hw; (try dsimp only at hw); go_simp; try with_reducible rfl)⟩) (by assumption) ?_; try simp only [Act.put, List.setIfInBounds_toArray, List.set_cons_zero, List.set_cons_succ])
      (refine take_dst (i := 6) (v := _) (some 18) rfl rfl (by kernel_rfl) (by kernel_rfl) (by kernel_rfl) (fun _ _ _ h => h) (Or.inl ⟨by rfl, by (intro w3 hw; (try dsimp only at hw); go_simp; try with_reducible rfl)⟩) (by assumption) ?_; try simp only [Act.put, List.setIfInBounds_toArray, List.set_cons_zero, List.set_cons_succ])
      (refine take_dst (i := 7) (v := _) (some 19) rfl rfl (by kernel_rfl) (by kernel_rfl) (by kernel_rfl) (fun _ _ _ h => h) (Or.inl ⟨by rfl, by (intro w3 hw; (try dsimp only at hw); go_simp; try with_reducible rfl)⟩) (by assumption) ?_; try simp only [Act.put, List.setIfInBounds_toArray, List.set_cons_zero, List.set_cons_succ])
      (refine take_dst (i := 8) (v := _) (some 20) rfl rfl (by kernel_rfl) (by kernel_rfl) (by kernel_rfl) (fun _ _ _ h => h) (Or.inl ⟨by rfl, by (intro w3 hw; (try dsimp only at hw); go_simp; try with_reducible rfl)⟩) (by assumption) ?_; try simp only [Act.put, List.setIfInBounds_toArray, List.set_cons_zero, List.set_cons_succ])
      (refine take_dst (i := 9) (v := _) (some 21) rfl rfl (by kernel_rfl) (by kernel_rfl) (by kernel_rfl) (fun _ _ _ h => h) (Or.inl ⟨by rfl, by (intro w3 hw; (try dsimp only at hw); go_simp; try with_reducible rfl)⟩) (by assumption) ?_; try simp only [Act.put, List.setIfInBounds_toArray, List.set_cons_zero, List.set_cons_succ])
      (refine take_dst (i := 10) (v := _) (some 22) rfl rfl (by kernel_rfl) (by kernel_rfl) (by kernel_rfl) (fun _ _ _ h => h) (Or.inl ⟨by rfl, by (intro w3 hw; (try dsimp only at hw); go_simp; try with_reducible rfl)⟩) (by assumption) ?_; try simp only [Act.put, List.setIfInBounds_toArray, List.set_cons_zero, List.set_cons_succ])
      (refine take_dst (i := 11) (v := _) (some 23) rfl rfl (by kernel_rfl) (by kernel_rfl) (by kernel_rfl) (fun _ _ _ h => h) (Or.inl ⟨by rfl, by (intro w3 hw; (try dsimp only at hw); go_simp; try with_reducible rfl)⟩) (by assumption) ?_; try simp only [Act.put, List.setIfInBounds_toArray, List.set_cons_zero, List.set_cons_succ])
      (refine take_dst (i := 12) (v := _) (some 24) rfl rfl (by kernel_rfl) (by kernel_rfl) (by kernel_rfl) (fun _ _ _ h => h) (Or.inl ⟨by rfl, by (intro w3 hw; (try dsimp only at hw); go_simp; try with_reducible rfl)⟩) (by assumption) ?_; try simp only [Act.put, List.setIfInBounds_toArray, List.set_cons_zero, List.set_cons_succ])
      (refine take_dst (i := 13) (v := _) (some 25) rfl rfl (by kernel_rfl) (by kernel_rfl) (by kernel_rfl) (fun _ _ _ h => h) (Or.inl ⟨by rfl, by (intro w3 hw; (try dsimp only at hw); go_simp; try with_reducible rfl)⟩) (by assumption) ?_; try simp only [Act.put, List.setIfInBounds_toArray, List.set_cons_zero, List.set_cons_succ])
      (refine take_dst (i := 14) (v := _) (some 26) rfl rfl (by kernel_rfl) (by kernel_rfl) (by kernel_rfl) (fun _ _ _ h => h) (Or.inl ⟨by rfl, by (intro w3 hw; (try dsimp only at hw); go_simp; try with_reducible rfl)⟩) (by assumption) ?_; try simp only [Act.put, List.setIfInBounds_toArray, List.set_cons_zero, List.set_cons_succ])
      refine wpAnyH_done (by kernel_rfl) ?_ _
      clear hHeld KEEP
      go_wp2_with fail
      refine bodyPost_ret (results_none rfl _ _ _) rfl ?_
      exact ⟨rfl, kn, HN2.out.on (below_drewN (Below.refl _ _) 1), Nat.le_of_eq HK.out, hfin.out⟩
    case false =>
    rw [hkb] at hlk
    have HKB := Lib.hid hkb
    have KEEP := Lib.hid (show (fun w' => w'.cell? ⟨gz, 0, none⟩ = some (.int .i64 z) ∧ w'.cell? ⟨gc, 0, none⟩ = some (.pointer (some ⟨cb, 0, none⟩)) ∧ w'.cell? ⟨go, 0, none⟩ = some (.slice (some ad) q co) ∧ w'.cell? ⟨gn, 0, none⟩ = some (.map (some W.heap.size)) ∧ w'.cell? (ad.add p) = some (.int .i64 (i : Int)) ∧ (Instr.lookup tMJ (.map (some W.heap.size)) (.int .i64 (i : Int)) false).run Try.prog w' = .ok (.bool false) w') (w2.drewN 1) from ⟨HZ2.out, hgc2, HN2.out.co, HN2.out.cn, hcp, hlk⟩)
    clear hlk hkb
    have HCP := Lib.hid hcp
    clear hcp hgc2
    go_wp2_with fail
    (
    refine wp_region_held_drew (S := (fun w' => w'.cell? ⟨gz, 0, none⟩ = some (.int .i64 z) ∧ w'.cell? ⟨gc, 0, none⟩ = some (.pointer (some ⟨cb, 0, none⟩)) ∧ w'.cell? ⟨go, 0, none⟩ = some (.slice (some ad) q co) ∧ w'.cell? ⟨gn, 0, none⟩ = some (.map (some W.heap.size)) ∧ w'.cell? (ad.add p) = some (.int .i64 (i : Int)) ∧ (Instr.lookup tMJ (.map (some W.heap.size)) (.int .i64 (i : Int)) false).run Try.prog w' = .ok (.bool false) w')) (by kernel_rfl) KEEP.out (fun hHeld => ?_)
    (refine take_dst (i := 0) (v := _) (some 12) rfl rfl (by kernel_rfl) (by kernel_rfl) (by kernel_rfl) (fun _ _ _ h => h) (Or.inl ⟨by rfl, by (intro w3 hw; (try dsimp only at hw); go_simp; try with_reducible rfl)⟩) (by assumption) ?_; try simp only [Act.put, List.setIfInBounds_toArray, List.set_cons_zero, List.set_cons_succ])
    (refine take_dst (i := 1) (v := _) (some 13) rfl rfl (by kernel_rfl) (by kernel_rfl) (by kernel_rfl) (fun _ _ _ h => h) (Or.inl ⟨by rfl, by (intro w3 hw; (try dsimp only at hw); go_simp; try with_reducible rfl)⟩) (by assumption) ?_; try simp only [Act.put, List.setIfInBounds_toArray, List.set_cons_zero, List.set_cons_succ])
    (refine wpAnyH_ready (rs := [2]) (by kernel_rfl) (by simp) (AllReadyH.cons (i := 2) rfl (fun K hK => ?_) AllReadyH.nil); go_simp)
    refine (isFact_is z _ HC2.out HF.out).mono ?_
    rintro e w3 ⟨rfl, rfl⟩
    go_wp2_with fail
    refine hK.out _ _ hHeld (fun hHeld => ?_)
    clear hK K
    try simp only [Act.put, List.setIfInBounds_toArray, List.set_cons_zero, List.set_cons_succ]
    (refine take_dst (i := 3) (v := _) (some 15) rfl rfl (by kernel_rfl) (by kernel_rfl) (by kernel_rfl) (fun _ _ _ h => h) (Or.inl ⟨by rfl, by (intro w3 hw; (try dsimp only at hw); go_simp; try with_reducible rfl)⟩) (by assumption) ?_; try simp only [Act.put, List.setIfInBounds_toArray, List.set_cons_zero, List.set_cons_succ])
    )
    (refine take_dst (i := 4) (v := _) (some 16) rfl rfl (by kernel_rfl) (by kernel_rfl) (by kernel_rfl) (fun _ _ _ h => h) (Or.inl ⟨by rfl, by (intro w3 hw; (try dsimp only at hw); go_simp; try with_reducible rfl)⟩) (by assumption) ?_; try simp only [Act.put, List.setIfInBounds_toArray, List.set_cons_zero, List.set_cons_succ])
    (refine take_dst (i := 5) (v := _) (some 17) rfl rfl (by kernel_rfl) (by kernel_rfl) (by kernel_rfl) (fun _ _ _ h => h) (Or.inl ⟨by rfl, by (intro w3 hw; (try dsimp only at hw); go_simp; try with_reducible rfl)⟩) (by assumption) ?_; try simp only [Act.put, List.setIfInBounds_toArray, List.set_cons_zero, List.set_cons_succ])
    (refine take_dst (i := 6) (v := _) (some 18) rfl rfl (by kernel_rfl) (by kernel_rfl) (by kernel_rfl) (fun _ _ _ h => h) (Or.inl ⟨by rfl, by (intro w3 hw; (try dsimp only at hw); go_simp; try with_reducible rfl)⟩) (by assumption) ?_; try simp only [Act.put, List.setIfInBounds_toArray, List.set_cons_zero, List.set_cons_succ])
    (refine take_dst (i := 7) (v := _) (some 19) rfl rfl (by kernel_rfl) (by kernel_rfl) (by kernel_rfl) (fun _ _ _ h => h) (Or.inl ⟨by rfl, by (intro w3 hw; (try dsimp only at hw); go_simp; try with_reducible rfl)⟩) (by assumption) ?_; try simp only [Act.put, List.setIfInBounds_toArray, List.set_cons_zero, List.set_cons_succ])
    (refine take_dst (i := 8) (v := _) (some 20) rfl rfl (by kernel_rfl) (by kernel_rfl) (by kernel_rfl) (fun _ _ _ h => h) (Or.inl ⟨by rfl, by (intro w3 hw; (try dsimp only at hw); go_simp; try with_reducible rfl)⟩) (by assumption) ?_; try simp only [Act.put, List.setIfInBounds_toArray, List.set_cons_zero, List.set_cons_succ])
    (refine take_dst (i := 9) (v := _) (some 21) rfl rfl (by kernel_rfl) (by kernel_rfl) (by kernel_rfl) (fun _ _ _ h => h) (Or.inl ⟨by rfl, by (intro w3 hw; (try dsimp only at hw); go_simp; try with_reducible rfl)⟩) (by assumption) ?_; try simp only [Act.put, List.setIfInBounds_toArray, List.set_cons_zero, List.set_cons_succ])
    (refine take_dst (i := 10) (v := _) (some 22) rfl rfl (by kernel_rfl) (by kernel_rfl) (by kernel_rfl) (fun _ _ _ h => h) (Or.inl ⟨by rfl, by (intro w3 hw; (try dsimp only at hw); go_simp; try with_reducible rfl)⟩) (by assumption) ?_; try simp only [Act.put, List.setIfInBounds_toArray, List.set_cons_zero, List.set_cons_succ])
    (refine take_dst (i := 11) (v := _) (some 23) rfl rfl (by kernel_rfl) (by kernel_rfl) (by kernel_rfl) (fun _ _ _ h => h) (Or.inl ⟨by rfl, by (intro w3 hw; (try dsimp only at hw); go_simp; try with_reducible rfl)⟩) (by assumption) ?_; try simp only [Act.put, List.setIfInBounds_toArray, List.set_cons_zero, List.set_cons_succ])
    (refine take_dst (i := 12) (v := _) (some 24) rfl rfl (by kernel_rfl) (by kernel_rfl) (by kernel_rfl) (fun _ _ _ h => h) (Or.inl ⟨by rfl, by (intro w3 hw; (try dsimp only at hw); go_simp; try with_reducible rfl)⟩) (by assumption) ?_; try simp only [Act.put, List.setIfInBounds_toArray, List.set_cons_zero, List.set_cons_succ])
    (refine take_dst (i := 13) (v := _) (some 25) rfl rfl (by kernel_rfl) (by kernel_rfl) (by kernel_rfl) (fun _ _ _ h => h) (Or.inl ⟨by rfl, by (intro w3 hw; (try dsimp only at hw); go_simp; try with_reducible rfl)⟩) (by assumption) ?_; try simp only [Act.put, List.setIfInBounds_toArray, List.set_cons_zero, List.set_cons_succ])
    (refine take_dst (i := 14) (v := _) (some 26) rfl rfl (by kernel_rfl) (by kernel_rfl) (by kernel_rfl) (fun _ _ _ h => h) (Or.inl ⟨by rfl, by (intro w3 hw; (try dsimp only at hw); go_simp; try with_reducible rfl)⟩) (by assumption) ?_; try simp only [Act.put, List.setIfInBounds_toArray, List.set_cons_zero, List.set_cons_succ])
    refine wpAnyH_done (by kernel_rfl) ?_ _
    clear hHeld KEEP HC2
    have HN3 := Lib.hid (HN2.out.on (below_drewN (Below.refl _ _) 1))
    have HCP3 := Lib.hid (show (w2.drewN 1).cell? (ad.add p) = some (.int .i64 (i : Int)) from HCP.out)
    clear HN2 HZ2 HZL HCP
    generalize w2.drewN 1 = w3 at HN3 HCP3 ⊢
    obtain ⟨w5, hmu, hmp, hgr⟩ := (HN3.out.on (below_drewN (Below.refl _ _) 1)).mp.put HIDX.out
    have HN5 := Lib.hid ((HN3.out.on (below_drewN (Below.refl _ _) 1)).put hmp hgr)
    have hcp5 : w5.cell? (ad.add p) = some (.int .i64 (i : Int)) := HCELL.out _ HN5.out.be
    clear hmp hgr
    have KEEP := Lib.hid (show (fun w' => w'.cell? ⟨go, 0, none⟩ = some (.slice (some ad) q co) ∧ w'.cell? ⟨gn, 0, none⟩ = some (.map (some W.heap.size)) ∧ w'.cell? (ad.add p) = some (.int .i64 (i : Int))) (w3.drewN 1) from ⟨HN3.out.co, HN3.out.cn, HCP3.out⟩)
    have KEEP5 := Lib.hid (show (fun w' => w'.cell? ⟨go, 0, none⟩ = some (.slice (some ad) q co) ∧ w'.cell? ⟨gn, 0, none⟩ = some (.map (some W.heap.size)) ∧ w'.cell? (ad.add p) = some (.int .i64 (i : Int))) w5 from ⟨HN5.out.co, HN5.out.cn, hcp5⟩)
    clear hcp5
    go_wp2_with fail
    refine wp_region_held_drew (S := (fun w' => w'.cell? ⟨go, 0, none⟩ = some (.slice (some ad) q co) ∧ w'.cell? ⟨gn, 0, none⟩ = some (.map (some W.heap.size)) ∧ w'.cell? (ad.add p) = some (.int .i64 (i : Int)))) (by kernel_rfl) KEEP.out (fun hHeld => ?_)
    (refine take_dst (i := 0) (v := _) (some 27) rfl rfl (by kernel_rfl) (by kernel_rfl) (by kernel_rfl) (fun _ _ _ h => h) (Or.inl ⟨by rfl, by (intro w3 hw; (try dsimp only at hw); go_simp; try with_reducible rfl)⟩) (by assumption) ?_; try simp only [Act.put, List.setIfInBounds_toArray, List.set_cons_zero, List.set_cons_succ])
    (refine take_dst (i := 1) (v := _) (some 28) rfl rfl (by kernel_rfl) (by kernel_rfl) (by kernel_rfl) (fun _ _ _ h => h) (Or.inl ⟨by rfl, by (intro w3 hw; (try dsimp only at hw); go_simp; try with_reducible rfl)⟩) (by assumption) ?_; try simp only [Act.put, List.setIfInBounds_toArray, List.set_cons_zero, List.set_cons_succ])
    (refine take_dst (i := 2) (v := _) (some 29) rfl rfl (by kernel_rfl) (by kernel_rfl) (by kernel_rfl) (fun _ _ _ h => h) (Or.inl ⟨by rfl, by (intro w3 hw; (try dsimp only at hw); go_simp; try with_reducible rfl)⟩) (by assumption) ?_; try simp only [Act.put, List.setIfInBounds_toArray, List.set_cons_zero, List.set_cons_succ])
    (refine take_dst (i := 3) (v := _) (some 30) rfl rfl (by kernel_rfl) (by kernel_rfl) (by kernel_rfl) (fun _ _ _ h => h) (Or.inl ⟨by rfl, by (intro w3 hw; (try dsimp only at hw); go_simp; try with_reducible rfl)⟩) (by assumption) ?_; try simp only [Act.put, List.setIfInBounds_toArray, List.set_cons_zero, List.set_cons_succ])
    (refine take_dst (i := 4) (v := _) (some 31) rfl rfl (by kernel_rfl) (by kernel_rfl) (by kernel_rfl) (fun _ _ _ h => h) (Or.inl ⟨by rfl, by (intro w3 hw; (try dsimp only at hw); go_simp; try with_reducible rfl)⟩) (by assumption) ?_; try simp only [Act.put, List.setIfInBounds_toArray, List.set_cons_zero, List.set_cons_succ])
    (refine wpAnyH_ready (rs := [5]) (by kernel_rfl) (by simp) (AllReadyH.cons (i := 5) rfl (fun K hK => ?_) AllReadyH.nil); go_simp)
    have hmu1 : (Instr.mapUpdate tMJ (.map (some W.heap.size)) (.int .i64 (i : Int)) (.bool true)).run Try.prog w3.drew = .ok () w5 := hmu
    clear hmu
    rw [hmu1]
    go_simp
    refine hK.out _ _ KEEP5.out (fun hHeld => ?_)
    clear hK K hmu1
    try simp only [Act.put, List.setIfInBounds_toArray, List.set_cons_zero, List.set_cons_succ]
    refine wpAnyH_done (by kernel_rfl) ?_ _
    clear hHeld KEEP KEEP5 HN3 HCP3
    have hcell := HCELL.out _ HN5.out.be
    have e1 := HN5.out.co
    have hC5 := HC.out.on HN5.out.be
    have e0 := hC5.c0
    have hgc5 : w5.cell? ⟨gc, 0, none⟩ = some (.pointer (some ⟨cb, 0, none⟩)) := (HN5.out.be.cell (p := ⟨gc, 0, none⟩) hgl).trans HGC.out
    obtain ⟨a2, r, rfl, hrk, ha, hri⟩ := (HC.out.rr.below HN5.out.be).at HIM.out
    have hdk : tAt (rs.map Ru.dat) i = r.dat := by unfold tAt; exact dat_at hrk
    have hvr := (HV.out r (List.mem_of_getElem? hrk)).1
    have hrn := (HC.out.rn r (List.mem_of_getElem? hrk)).1
    obtain ⟨hd, fr, tt, rk, Ai, ni, ci, ifs⟩ := r
    simp only at hri hrn hvr
    obtain ⟨c0, c1, _⟩ := ha
    simp only at c1
    have hil := hri.ilen
    have HIF := Lib.hid (show (tAt T p).ifs = ifs by rw [HTP.out, hdk]; rfl)
    have HVR := Lib.hid hvr
    have HRI := Lib.hid (fun (w' : World) (hb : Below W.heap.size W w') => (show Rd w' W.heap.size 1 Ai ni (ints ifs) from (HC.out.rr.below hb).2 _ (List.mem_of_getElem? hrk)))
    have j1 : (0 : Int) ≤ i := by omega
    have j2 : (i : Int) < m := by have := HIM.out; omega
    clear hC5 hrk hri hdk hvr c0
    go_wp2_with fail
    go_quiet (fail)
    go_wp2_with fail
    have HN6 := Lib.hid (HN5.out.on (below_drewN (Below.refl _ _) nq))
    have HUN2 := Lib.hid (show un o (putB kn (i : Int)) < k by have := HUN.out HKB.out; rw [HK.out] at this; exact this)
    have HL0 := Lib.hid (show DfsL T (facB fs) p 0 (Np o kn) (Np o (putB kn (i : Int))) from by rw [HPUT.out]; exact .start)
    clear hcell e1 e0 hgc5 c1 HN5
    generalize w5.drewN nq = w6 at HN6 ⊢
    go_loopw [8, 44] (fun _ j wr => ∃ (t : Nat) (kn1 : Int → Bool), t ≤ ni ∧ j = .int .i64 t ∧ NS W wr go gn gf (some ad) q co gc kn1 ∧ un o kn1 < k ∧ DfsL T (facB fs) p t (Np o kn) (Np o kn1)) (fun _ j _ => ni - (intOf j).toNat)
    case atStart => exact ⟨0, _, Nat.zero_le _, rfl, HN6.out, HUN2.out, HL0.out⟩
    case round =>
      clear HN6
      obtain ⟨t, kn1, ht, rfl, hN, hun, hd⟩ := hrel
      have HNR := Lib.hid hN
      have HUR := Lib.hid hun
      have HDR := Lib.hid hd
      clear hN hun hd
      by_cases hlt : t < ni
      · obtain ⟨aj, rfl, hcz⟩ := (HRI.out _ HNR.out.be).int hlt
        have hvm : ifs[t]?.getD 0 ∈ ifs := getD_mem (zs := ifs) (k := t) (by omega)
        have hvs : ifs[t]? = some (ifs[t]?.getD 0) := by rw [List.getElem?_eq_getElem (by omega)]; rfl
        have HVW := Lib.hid (HVR.out _ hvm)
        obtain ⟨v, hv⟩ : ∃ v, v = ifs[t]?.getD 0 := ⟨_, rfl⟩
        rw [← hv] at hcz hvs HVW
        have HVS := Lib.hid hvs
        have e2 := HNR.out.cf
        have i3 : (0 : Int) ≤ t := by omega
        have i4 : (t : Int) < ni := by omega
        have HCALL := Lib.hid (IH.out _ HUR.out v kn1 wr HVW.out HNR.out rfl)
        clear hvm hvs hv
        go_wp2_with (go_at_call 67; refine HCALL.out.mono ?_; rintro e w7 ⟨rfl, kn2, hN2, hun2, hd2⟩)
        refine ⟨⟨t + 1, kn2, by omega, by go_num, hN2, Nat.lt_of_le_of_lt hun2 HUR.out, HDR.out.next (by rw [HIF.out]; exact HVS.out) hd2⟩, ?_⟩
        simp [intOf]; omega
      · obtain rfl : t = ni := by omega
        have HFIN := Lib.hid (HDR.out.done (by rw [HIF.out]; omega) HF.out HFST.out (fun h => by have := HNP.out.1 h; rw [HKB.out] at this; cases this))
        go_wp2_with fail
        refine bodyPost_end (results_none rfl _ _ _) rfl ?_
        exact ⟨rfl, kn1, HNR.out, Nat.le_of_lt HUR.out, HFIN.out⟩
end Go.Proofs.Ytinocfehjdlohaa
namespace Go.Proofs.Ytinocfehjdlohaa
set_option linter.unusedVariables false
set_option linter.unusedSimpArgs false

noncomputable def needB (T : List Rl) (fac : Int → Bool) (x : Int) (p : Nat) : Bool := @decide (Rch T fac x p) (Classical.propDecidable _)
theorem needB_iff {T : List Rl} {fac : Int → Bool} {x : Int} {p : Nat} : needB T fac x p = true ↔ Rch T fac x p := by unfold needB; exact @decide_eq_true_iff _ (Classical.propDecidable _)
theorem needB_not {T : List Rl} {fac : Int → Bool} {x : Int} {p : Nat} : needB T fac x p = false ↔ ¬ Rch T fac x p := by rw [← needB_iff, Bool.not_eq_true]
noncomputable def wantB (T : List Rl) (fac : Int → Bool) (x : Int) (j : Nat) (w : Int) : Bool := @decide (Want T fac x j w) (Classical.propDecidable _)
theorem wantB_iff {T : List Rl} {fac : Int → Bool} {x : Int} {j : Nat} {w : Int} : wantB T fac x j w = true ↔ Want T fac x j w := by unfold wantB; exact @decide_eq_true_iff _ (Classical.propDecidable _)
theorem wantB_top (T : List Rl) (fac : Int → Bool) (x : Int) (w : Int) : wantB T fac x T.length w = (!fac w && (w == x)) := by
  rw [Bool.eq_iff_iff, wantB_iff, Want.top (Nat.le_refl _)]
  simp
theorem wantB_step (T : List Rl) (fac : Int → Bool) (x : Int) (j : Nat) (w : Int) : wantB T fac x j w = (wantB T fac x (j + 1) w || (needB T fac x j && (hasI (tAt T j).ifs w && !fac w))) := by
  rw [Bool.eq_iff_iff, Bool.or_eq_true, Bool.and_eq_true, Bool.and_eq_true, wantB_iff, wantB_iff, needB_iff, Want.step]
  have : hasI (tAt T j).ifs w = true ↔ w ∈ (tAt T j).ifs := by
    unfold hasI
    rw [List.any_eq_true]
    constructor
    · rintro ⟨v, hv, e⟩
      have : w = v := by simpa using e
      rw [this]; exact hv
    · intro h; exact ⟨w, h, by simp⟩
  rw [this]
  simp
/-- no earlier rule has the head of rule j -/
def freshTo (T : List Rl) (j k : Nat) : Bool := (List.range k).all fun i => !((tAt T i).hd == (tAt T j).hd)
theorem freshTo_zero (T : List Rl) (j : Nat) : freshTo T j 0 = true := rfl
theorem freshTo_succ (T : List Rl) (j k : Nat) : freshTo T j (k + 1) = (freshTo T j k && !((tAt T k).hd == (tAt T j).hd)) := by
  unfold freshTo
  rw [List.range_succ, List.all_append]; simp
theorem ground_is {T : List Rl} {fac : Int → Bool} {x : Int} (hd : Dag T fac) {j : Nat} (hj : j < T.length) : needB T fac x j = (wantB T fac x (j + 1) (tAt T j).hd && freshTo T j j) := by
  rw [Bool.eq_iff_iff, Bool.and_eq_true, needB_iff, wantB_iff, ground_iff hd hj]
  have : freshTo T j j = true ↔ ∀ k, k < j → (tAt T k).hd ≠ (tAt T j).hd := by
    unfold freshTo
    rw [List.all_eq_true]
    constructor
    · intro h k hk
      simpa using h k (List.mem_range.2 hk)
    · intro h k hk
      simpa using h k (List.mem_range.1 hk)
  rw [this]
noncomputable def pO (ds : List Rl) (fs : List Int) (day : Int) : List Nat := tk ds (yesB ds fs day) (facB fs) (fun i => onB (tAt ds i) day)
noncomputable def pT (ds : List Rl) (fs : List Int) (day : Int) : List Rl := (pO ds fs day).map (tAt ds)
noncomputable def pOut (ds : List Rl) (fs : List Int) (day x : Int) (k : Nat) : List Nat := ((List.range k).filter (needB (pT ds fs day) (facB fs) x)).map fun p => (pO ds fs day)[p]?.getD 0
noncomputable def pBack (ds : List Rl) (fs : List Int) (day x : Int) (j : Nat) : List Nat := (((List.range (pO ds fs day).length).drop j).filter (needB (pT ds fs day) (facB fs) x)).map fun p => (pO ds fs day)[p]?.getD 0
section
variable (ds : List Rl) (fs : List Int) (day x : Int)
theorem pO_I : TkI ds (facB fs) (pO ds fs day) := tk_I
theorem pO_len : (pO ds fs day).length ≤ ds.length := (pO_I ds fs day).len
theorem pT_len : (pT ds fs day).length = (pO ds fs day).length := by unfold pT; rw [List.length_map]
theorem pT_dag : Dag (pT ds fs day) (facB fs) := (pO_I ds fs day).dag
theorem pT_at {p : Nat} (h : p < (pO ds fs day).length) : tAt (pT ds fs day) p = tAt ds (pO ds fs day)[p] := tAt_map h
theorem pOut_zero : pOut ds fs day x 0 = [] := rfl
theorem pOut_yes {k : Nat} (h : needB (pT ds fs day) (facB fs) x k = true) : pOut ds fs day x (k + 1) = pOut ds fs day x k ++ [(pO ds fs day)[k]?.getD 0] := by
  unfold pOut
  rw [List.range_succ, List.filter_append, List.filter_cons, if_pos h]; simp
theorem pOut_no {k : Nat} (h : needB (pT ds fs day) (facB fs) x k = false) : pOut ds fs day x (k + 1) = pOut ds fs day x k := by
  unfold pOut
  rw [List.range_succ, List.filter_append, List.filter_cons, if_neg (by rw [h]; decide)]; simp
theorem pOut_len (k : Nat) : (pOut ds fs day x k).length ≤ k := by
  unfold pOut
  rw [List.length_map]
  have := List.length_filter_le (needB (pT ds fs day) (facB fs) x) (List.range k)
  rwa [List.length_range] at this
theorem pBack_top : pBack ds fs day x (pO ds fs day).length = [] := by
  unfold pBack
  rw [List.drop_of_length_le (by simp)]; rfl
theorem pBack_bot : pBack ds fs day x 0 = pOut ds fs day x (pO ds fs day).length := rfl
theorem range_drop {n j : Nat} (h : j < n) : (List.range n).drop j = j :: (List.range n).drop (j + 1) := by
  have := List.drop_eq_getElem_cons (l := List.range n) (i := j) (by simpa using h)
  rw [this, List.getElem_range]
theorem pBack_yes {j : Nat} (hj : j < (pO ds fs day).length) (h : needB (pT ds fs day) (facB fs) x j = true) : pBack ds fs day x j = [(pO ds fs day)[j]?.getD 0] ++ pBack ds fs day x (j + 1) := by
  unfold pBack
  rw [range_drop hj, List.filter_cons, if_pos h]; rfl
theorem pBack_no {j : Nat} (hj : j < (pO ds fs day).length) (h : needB (pT ds fs day) (facB fs) x j = false) : pBack ds fs day x j = pBack ds fs day x (j + 1) := by
  unfold pBack
  rw [range_drop hj, List.filter_cons, if_neg (by rw [h]; decide)]
theorem pBack_len (j : Nat) : (pBack ds fs day x j).length ≤ (pO ds fs day).length := by
  unfold pBack
  rw [List.length_map]
  have h1 := List.length_filter_le (needB (pT ds fs day) (facB fs) x) ((List.range (pO ds fs day).length).drop j)
  rw [List.length_drop, List.length_range] at h1
  omega
/-! the program's list, over the rules in force -/
noncomputable def iO : List Nat := tk (actF ds day) (yesB ds fs day) (facB fs) (fun _ => true)
theorem iO_I : TkI (actF ds day) (facB fs) (iO ds fs day) := tk_I
theorem iO_lt {i : Nat} (h : i ∈ iO ds fs day) : i < (actN ds day).length := by
  have := (iO_I ds fs day).lt i h
  rw [actF_len] at this; exact this
theorem pO_is : pO ds fs day = (iO ds fs day).map (aAt ds day) := tk_link
theorem pO_iO : (pO ds fs day).length = (iO ds fs day).length := by rw [pO_is, List.length_map]
theorem pT_is : (iO ds fs day).map (tAt (actF ds day)) = pT ds fs day := by
  unfold pT
  rw [pO_is, List.map_map]
  refine List.map_congr_left fun i hi => ?_
  exact tAt_act (iO_lt ds fs day hi)
theorem actTo_is (k : Nat) : actTo ds day k = natI ((List.range k).filter fun i => onB (tAt ds i) day) := by
  unfold natI
  induction k with
  | zero => rfl
  | succ k ih =>
    rw [actTo, List.range_succ, List.filter_append, List.filter_cons]
    by_cases h : onB (tAt ds k) day = true
    · rw [if_pos h, if_pos (by exact h), ih]; simp
    · rw [if_neg h, if_neg (by exact h), ih]; simp
theorem actTo_all : actTo ds day ds.length = natI (actN ds day) := actTo_is ds day _
theorem actTo_get {p : Nat} (h : p < (iO ds fs day).length) : (actTo ds day ds.length)[(iO ds fs day)[p]]?.getD 0 = (((pO ds fs day)[p]?.getD 0 : Nat) : Int) := by
  have hl := iO_lt ds fs day (List.getElem_mem h)
  rw [actTo_all, natI_get hl]
  congr 1
  have e : (pO ds fs day)[p]? = some (aAt ds day (iO ds fs day)[p]) := by
    rw [pO_is, List.getElem?_map, List.getElem?_eq_getElem h]; rfl
  rw [e]
  show _ = aAt ds day (iO ds fs day)[p]
  unfold aAt
  rw [List.getElem?_eq_getElem hl]; rfl
noncomputable def poOk : Bool := courtOk ds fs day && (wordB x && yesB ds fs day x)
noncomputable def ProofOf_r0 : List Int := if poOk ds fs day x then natI (pOut ds fs day x (pO ds fs day).length) else []
noncomputable def ProofOf_r1 : Bool := poOk ds fs day x
theorem po_no (h : poOk ds fs day x = false) : ProofOf_r0 ds fs day x = [] ∧ ProofOf_r1 ds fs day x = false := by
  unfold ProofOf_r0 ProofOf_r1
  rw [h]; exact ⟨rfl, rfl⟩
theorem po_yes (h1 : courtOk ds fs day = true) (h2 : wordB x = true) (h3 : yesB ds fs day x = true) : ProofOf_r0 ds fs day x = natI (pOut ds fs day x (pO ds fs day).length) ∧ ProofOf_r1 ds fs day x = true := by
  have h : poOk ds fs day x = true := by unfold poOk; rw [h1, h2, h3]; rfl
  unfold ProofOf_r0 ProofOf_r1
  rw [h]; exact ⟨rfl, rfl⟩
theorem ProofOf_len : (ProofOf_r0 ds fs day x).length ≤ 32 := by
  unfold ProofOf_r0
  split
  · rename_i h
    unfold poOk at h
    rw [Bool.and_eq_true] at h
    have h24 := rulesB_len (courtOk_iff.1 h.1).1
    have h1 := pOut_len ds fs day x (pO ds fs day).length
    have h2 := pO_len ds fs day
    rw [natI_length]; omega
  · simp
end
attribute [irreducible] pO pT pOut pBack iO needB wantB freshTo
end Go.Proofs.Ytinocfehjdlohaa
