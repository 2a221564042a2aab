/-
  How many days a word is proved: the plain law.
-/
import Derived.Test.YtinocfehjdlohaaChg
namespace Go.Proofs.Ytinocfehjdlohaa
set_option linter.unusedVariables false
set_option linter.unusedSimpArgs false

def daysOk (ds : List Rl) (fs : List Int) (x fr tu : Int) : Bool := courtOk ds fs fr && (wordB x && (inB tu 0 100000 && decide (fr ≤ tu)))
def inSpan (fr tu : Int) (d : Int) : Bool := decide (fr < d) && decide (d ≤ tu)
/-- the days on which a span begins -/
def startsOf (ds : List Rl) (fr tu : Int) : List Int := fr :: (chg ds).filter (inSpan fr tu)
def nxtAt (L : List Int) (e : Int) (k : Nat) : Int := L[k + 1]?.getD e
def stpAt (L : List Int) (e : Int) (g : Int → Bool) (k : Nat) : Int := if g (L[k]?.getD 0) then nxtAt L e k - L[k]?.getD 0 else 0
def totTo (L : List Int) (e : Int) (g : Int → Bool) : Nat → Int
  | 0 => 0
  | k + 1 => totTo L e g k + stpAt L e g k
theorem courtOk_day {ds : List Rl} {fs : List Int} {fr day : Int} (h : courtOk ds fs fr = true) (h2 : 0 ≤ day ∧ day ≤ 100000) : courtOk ds fs day = true := by
  obtain ⟨a, b, _⟩ := courtOk_iff.1 h
  exact courtOk_iff.2 ⟨a, b, by simp [inB]; omega⟩
theorem starts_mem {ds : List Rl} {fr tu x : Int} (h0 : 0 ≤ fr ∧ fr ≤ tu ∧ tu ≤ 100000) (hx : x ∈ startsOf ds fr tu) : fr ≤ x ∧ x ≤ tu := by
  unfold startsOf at hx
  rcases List.mem_cons.1 hx with rfl | hx
  · omega
  · have := (List.mem_filter.1 hx).2
    simp [inSpan] at this; omega
theorem starts_len {ds : List Rl} {fr tu : Int} (h : rulesB ds = true) : (startsOf ds fr tu).length ≤ 49 := by
  unfold startsOf
  have h1 := List.length_filter_le (inSpan fr tu) (chg ds)
  have h2 := chg_len (rules_len h)
  simp; omega
theorem stp_small {ds : List Rl} {fr tu : Int} (h0 : 0 ≤ fr ∧ fr ≤ tu ∧ tu ≤ 100000) (g : Int → Bool) (k : Nat) (hk : k < (startsOf ds fr tu).length) : -100001 ≤ stpAt (startsOf ds fr tu) (tu + 1) g k ∧ stpAt (startsOf ds fr tu) (tu + 1) g k ≤ 100001 := by
  have h1 := starts_mem h0 (getD_mem hk)
  have h2 : 0 ≤ nxtAt (startsOf ds fr tu) (tu + 1) k ∧ nxtAt (startsOf ds fr tu) (tu + 1) k ≤ 100001 := by
    unfold nxtAt
    cases e : (startsOf ds fr tu)[k + 1]? with
    | none => simp; omega
    | some y => have := starts_mem h0 (List.mem_of_getElem? e); simp; omega
  unfold stpAt
  split <;> omega
theorem tot_small {ds : List Rl} {fr tu : Int} (h0 : 0 ≤ fr ∧ fr ≤ tu ∧ tu ≤ 100000) (g : Int → Bool) : ∀ k, k ≤ (startsOf ds fr tu).length → -(100001 * (k : Int)) ≤ totTo (startsOf ds fr tu) (tu + 1) g k ∧ totTo (startsOf ds fr tu) (tu + 1) g k ≤ 100001 * (k : Int)
  | 0, _ => by simp [totTo]
  | k + 1, h => by
    have h1 := tot_small (ds := ds) h0 g k (by omega)
    have h2 := stp_small (ds := ds) h0 g k (by omega)
    rw [totTo]
    omega
/-- the reference's state: where it is in the span, what it has counted -/
def SpSt (ds : List Rl) (fr tu : Int) (g : Int → Bool) (k : Nat) (at_ cnt : Int) : Prop :=
  (at_ = (startsOf ds fr tu)[(((chg ds).take k).filter (inSpan fr tu)).length]?.getD 0 ∧ (((chg ds).take k).filter (inSpan fr tu)).length < (startsOf ds fr tu).length ∧ cnt = totTo (startsOf ds fr tu) (tu + 1) g (((chg ds).take k).filter (inSpan fr tu)).length ∧ ∀ d ∈ (chg ds).take k, d ≤ tu) ∨
  (at_ = tu + 1 ∧ cnt = totTo (startsOf ds fr tu) (tu + 1) g (startsOf ds fr tu).length ∧ ∃ d ∈ (chg ds).take k, tu < d)
theorem sp_start (ds : List Rl) (fr tu : Int) (g : Int → Bool) : SpSt ds fr tu g 0 fr 0 :=
  .inl ⟨by simp [startsOf], by simp [startsOf], rfl, fun d h => by simp at h⟩
theorem fk_at {ds : List Rl} {fr tu : Int} {k : Nat} {d : Int} (h : (chg ds)[k]? = some d) : startsOf ds fr tu = (fr :: ((chg ds).take k).filter (inSpan fr tu)) ++ (d :: (chg ds).drop (k + 1)).filter (inSpan fr tu) := by
  have hk : k < (chg ds).length := (List.getElem?_eq_some_iff.1 h).1
  have hd : (chg ds)[k] = d := (List.getElem?_eq_some_iff.1 h).2
  unfold startsOf
  rw [List.cons_append, ← List.filter_append]
  congr 2
  rw [← hd, ← List.drop_eq_getElem_cons hk, List.take_append_drop]
theorem before_lt {ds : List Rl} {k : Nat} {d x : Int} (h : (chg ds)[k]? = some d) (hx : x ∈ (chg ds).take k) : x < d := by
  have hk : k < (chg ds).length := (List.getElem?_eq_some_iff.1 h).1
  have hd : (chg ds)[k] = d := (List.getElem?_eq_some_iff.1 h).2
  obtain ⟨i, hi, rfl⟩ := List.getElem_of_mem hx
  rw [List.length_take] at hi
  rw [List.getElem_take, ← hd]
  exact List.pairwise_iff_getElem.1 (chg_strict ds) i k (by omega) hk (by omega)
theorem after_gt {ds : List Rl} {k : Nat} {d x : Int} (h : (chg ds)[k]? = some d) (hx : x ∈ (chg ds).drop (k + 1)) : d < x := by
  have hk : k < (chg ds).length := (List.getElem?_eq_some_iff.1 h).1
  have hd : (chg ds)[k] = d := (List.getElem?_eq_some_iff.1 h).2
  obtain ⟨i, hi, rfl⟩ := List.getElem_of_mem hx
  rw [List.length_drop] at hi
  rw [List.getElem_drop, ← hd]
  exact List.pairwise_iff_getElem.1 (chg_strict ds) k (k + 1 + i) hk (by omega) (by omega)
theorem at_bounds {ds : List Rl} {fr tu : Int} {g : Int → Bool} {k : Nat} {a c : Int} (h0 : 0 ≤ fr ∧ fr ≤ tu ∧ tu ≤ 100000) (h : SpSt ds fr tu g k a c) : fr ≤ a ∧ a ≤ tu + 1 := by
  rcases h with ⟨rfl, hl, _, _⟩ | ⟨rfl, _, _⟩
  · have := starts_mem h0 (getD_mem hl); omega
  · omega
theorem cnt_bounds {ds : List Rl} {fr tu : Int} {g : Int → Bool} {k : Nat} {a c : Int} (hr : rulesB ds = true) (h0 : 0 ≤ fr ∧ fr ≤ tu ∧ tu ≤ 100000) (h : SpSt ds fr tu g k a c) : -10000000 ≤ c ∧ c ≤ 10000000 := by
  have h49 := starts_len (fr := fr) (tu := tu) hr
  rcases h with ⟨_, hl, rfl, _⟩ | ⟨_, rfl, _⟩
  · have := tot_small (ds := ds) h0 g (((chg ds).take k).filter (inSpan fr tu)).length (by omega); omega
  · have := tot_small (ds := ds) h0 g (startsOf ds fr tu).length (Nat.le_refl _); omega
/-- a day that lies no further than where it is: it is passed over -/
theorem sp_skip {ds : List Rl} {fr tu : Int} {g : Int → Bool} {k : Nat} {a c d : Int} (h0 : 0 ≤ fr ∧ fr ≤ tu ∧ tu ≤ 100000) (h : SpSt ds fr tu g k a c) (hd : (chg ds)[k]? = some d) (hle : min d (tu + 1) ≤ a) : SpSt ds fr tu g (k + 1) a c := by
  have htk : (chg ds).take (k + 1) = (chg ds).take k ++ [d] := by rw [List.take_add_one, hd]; rfl
  rcases h with ⟨rfl, hl, rfl, hall⟩ | ⟨rfl, rfl, y, hy, hyt⟩
  · have hat := starts_mem h0 (getD_mem hl)
    have hdt : d ≤ tu := by omega
    have hno : inSpan fr tu d = false := by
      rcases Bool.eq_false_or_eq_true (inSpan fr tu d) with e | e
      · exfalso
        have hs := fk_at (fr := fr) (tu := tu) hd
        have hlt : (startsOf ds fr tu)[(((chg ds).take k).filter (inSpan fr tu)).length]?.getD 0 < d := by
          rw [hs, List.getElem?_append_left (by simp)]
          rcases Nat.eq_zero_or_pos (((chg ds).take k).filter (inSpan fr tu)).length with h1 | h1
          · rw [h1]; simp; simp [inSpan] at e; omega
          · have hm : (fr :: ((chg ds).take k).filter (inSpan fr tu))[(((chg ds).take k).filter (inSpan fr tu)).length]?.getD 0 ∈ ((chg ds).take k).filter (inSpan fr tu) := by
              obtain ⟨i, hi⟩ : ∃ i, (((chg ds).take k).filter (inSpan fr tu)).length = i + 1 := ⟨_, (Nat.succ_pred_eq_of_pos h1).symm⟩
              rw [hi, List.getElem?_cons_succ]
              exact getD_mem (by omega)
            exact before_lt hd (List.mem_filter.1 hm).1
        omega
      · exact e
    refine .inl ?_
    rw [htk, List.filter_append, show [d].filter (inSpan fr tu) = [] by simp [hno], List.append_nil]
    exact ⟨rfl, hl, rfl, fun z hz => by
      rcases List.mem_append.1 hz with hz | hz
      · exact hall z hz
      · rw [List.mem_singleton.1 hz]; exact hdt⟩
  · exact .inr ⟨rfl, rfl, y, by rw [htk]; exact List.mem_append_left _ hy, hyt⟩
theorem sp_step {ds : List Rl} {fr tu : Int} {g : Int → Bool} {k : Nat} {a c d : Int} (h0 : 0 ≤ fr ∧ fr ≤ tu ∧ tu ≤ 100000) (h : SpSt ds fr tu g k a c) (hd : (chg ds)[k]? = some d) (hgt : a < min d (tu + 1)) : a ≤ tu ∧ SpSt ds fr tu g (k + 1) (min d (tu + 1)) (c + (if g a then min d (tu + 1) - a else 0)) := by
  have htk : (chg ds).take (k + 1) = (chg ds).take k ++ [d] := by rw [List.take_add_one, hd]; rfl
  rcases h with ⟨rfl, hl, rfl, hall⟩ | ⟨rfl, rfl, y, hy, hyt⟩
  · have hat := starts_mem h0 (getD_mem hl)
    have hs := fk_at (fr := fr) (tu := tu) hd
    refine ⟨by omega, ?_⟩
    obtain ⟨n, hn⟩ : ∃ n, n = (((chg ds).take k).filter (inSpan fr tu)).length := ⟨_, rfl⟩
    rw [← hn] at hgt hl hat ⊢
    by_cases hdt : d ≤ tu
    · have hmin : min d (tu + 1) = d := by omega
      rw [hmin] at hgt ⊢
      have hin : inSpan fr tu d = true := by simp [inSpan]; omega
      have hf : ((chg ds).take (k + 1)).filter (inSpan fr tu) = ((chg ds).take k).filter (inSpan fr tu) ++ [d] := by rw [htk, List.filter_append]; simp [hin]
      have hL1 : (startsOf ds fr tu)[n + 1]? = some d := by
        rw [hs, List.getElem?_append_right (by simp [hn]), show n + 1 - (fr :: ((chg ds).take k).filter (inSpan fr tu)).length = 0 by simp [hn], List.filter_cons_of_pos (by simpa using hin)]
        rfl
      refine .inl ?_
      rw [hf, List.length_append, List.length_singleton, ← hn]
      refine ⟨by rw [hL1]; rfl, (List.getElem?_eq_some_iff.1 hL1).1, ?_, fun z hz => ?_⟩
      · rw [totTo]; unfold stpAt nxtAt; rw [hL1]; rfl
      · rw [htk] at hz
        rcases List.mem_append.1 hz with hz | hz
        · exact hall z hz
        · rw [List.mem_singleton.1 hz]; exact hdt
    · have hmin : min d (tu + 1) = tu + 1 := by omega
      rw [hmin]
      have hrest : (d :: (chg ds).drop (k + 1)).filter (inSpan fr tu) = [] := by
        rw [List.filter_eq_nil_iff]
        intro z hz
        rcases List.mem_cons.1 hz with rfl | hz
        · simp [inSpan]; omega
        · have := after_gt hd hz
          simp [inSpan]; omega
      rw [hrest, List.append_nil] at hs
      have hlen : (startsOf ds fr tu).length = n + 1 := by rw [hs, List.length_cons, hn]
      refine .inr ⟨rfl, ?_, d, by rw [htk]; simp, by omega⟩
      rw [hlen, totTo]
      congr 1
      unfold stpAt nxtAt
      rw [show (startsOf ds fr tu)[n + 1]? = none from List.getElem?_eq_none (by omega)]; rfl
  · omega
/-- the last day -/
theorem sp_end {ds : List Rl} {fr tu : Int} {g : Int → Bool} {a c : Int} (h0 : 0 ≤ fr ∧ fr ≤ tu ∧ tu ≤ 100000) (h : SpSt ds fr tu g (chg ds).length a c) :
    (a = tu + 1 ∧ c = totTo (startsOf ds fr tu) (tu + 1) g (startsOf ds fr tu).length) ∨ (a ≤ tu ∧ c + (if g a then tu + 1 - a else 0) = totTo (startsOf ds fr tu) (tu + 1) g (startsOf ds fr tu).length) := by
  rcases h with ⟨rfl, hl, rfl, hall⟩ | ⟨rfl, rfl, _⟩
  · right
    have hat := starts_mem h0 (getD_mem hl)
    refine ⟨by omega, ?_⟩
    rw [List.take_length] at *
    have hlen : (startsOf ds fr tu).length = ((chg ds).filter (inSpan fr tu)).length + 1 := by simp [startsOf]
    rw [hlen, totTo]
    congr 1
    unfold stpAt nxtAt
    rw [show (startsOf ds fr tu)[((chg ds).filter (inSpan fr tu)).length + 1]? = none from List.getElem?_eq_none (by omega)]; rfl
  · exact .inl ⟨rfl, rfl⟩
noncomputable def DaysProved_r0 (ds : List Rl) (fs : List Int) (x fr tu : Int) : Int := if daysOk ds fs x fr tu then totTo (startsOf ds fr tu) (tu + 1) (fun day => yesB ds fs day x) (startsOf ds fr tu).length else 0
def DaysProved_r1 (ds : List Rl) (fs : List Int) (x fr tu : Int) : Bool := daysOk ds fs x fr tu
theorem dp_no {ds : List Rl} {fs : List Int} {x fr tu : Int} (h : daysOk ds fs x fr tu = false) : DaysProved_r0 ds fs x fr tu = 0 ∧ DaysProved_r1 ds fs x fr tu = false := by simp [DaysProved_r0, DaysProved_r1, h]
theorem dp_yes {ds : List Rl} {fs : List Int} {x fr tu : Int} (h : daysOk ds fs x fr tu = true) : DaysProved_r0 ds fs x fr tu = totTo (startsOf ds fr tu) (tu + 1) (fun day => yesB ds fs day x) (startsOf ds fr tu).length ∧ DaysProved_r1 ds fs x fr tu = true := by simp [DaysProved_r0, DaysProved_r1, h]
end Go.Proofs.Ytinocfehjdlohaa
