/-
  READING RULES: plain laws.
-/
import Derived.Test.YtinocfehjdlohaaDoorTxtW
import Derived.Test.YtinocfehjdlohaaDoorReadW
namespace Go.Proofs.YtinocfehjdlohaaDoor
set_option linter.unusedVariables false
set_option linter.unusedSimpArgs false

theorem ruleTx_nl {d : Rl} : (10 : UInt8) ∉ ruleTx d := by
  unfold ruleTx
  have h1 : ∀ n : Int, (10 : UInt8) ∉ itoa n := fun n => itoa_not (by decide) (by decide)
  have h2 : (10 : UInt8) ∉ ifsTx2 d.ifs := ifsTx2_bytes (by decide) (by decide) (by decide) (by decide)
  simp [h1, h2]
theorem join_more (x : List UInt8) {xs : List (List UInt8)} (sep : List UInt8) (h : xs ≠ []) : Lib.join (x :: xs) sep = x ++ sep ++ Lib.join xs sep := by
  cases xs with
  | nil => exact absurd rfl h
  | cons y ys =>
    rw [Lib.join_cons, Lib.join_cons]
    unfold Lib.joinTail
    simp [List.append_assoc]
theorem rulesTx_cons (d : Rl) (ds : List Rl) : rulesTx (d :: ds) = ruleTx d ++ 10 :: rulesTx ds := by simp [rulesTx]
theorem rulesTx_join (ds : List Rl) : Lib.join (ds.map ruleTx ++ [[]]) [10] = rulesTx ds := by
  induction ds with
  | nil => rfl
  | cons d ds ih =>
    rw [List.map_cons, List.cons_append, join_more _ _ (by simp), ih, rulesTx_cons]
    simp
def lns (s : List UInt8) : List (List UInt8) := Lib.split s [10]
theorem lns_tx (ds : List Rl) : lns (rulesTx ds) = ds.map ruleTx ++ [[]] := by
  rw [← rulesTx_join]
  unfold lns
  refine split_join (by simp) ?_
  intro x hx
  rcases List.mem_append.1 hx with h | h
  · obtain ⟨d, _, rfl⟩ := List.mem_map.1 h
    exact ruleTx_nl
  · rw [List.mem_singleton.1 h]; simp
def preL (s : List UInt8) : List (List UInt8) := (lns s).dropLast
def rrDs (s : List UInt8) : List Rl := (preL s).map parseR
def rrB (s : List UInt8) : Bool := (preL s).all goodB && (rulesB (rrDs s) && (rulesTx (rrDs s) == s))
def ReadRules_r0 (s : List UInt8) : List Rl := if rrB s then rrDs s else []
def ReadRules_r1 (s : List UInt8) : Bool := rrB s
theorem preL_tx (ds : List Rl) : preL (rulesTx ds) = ds.map ruleTx := by
  unfold preL; rw [lns_tx]; simp
theorem rrDs_tx {ds : List Rl} (h : ds.all validB = true) : rrDs (rulesTx ds) = ds := by
  unfold rrDs
  rw [preL_tx, List.map_map]
  conv => rhs; rw [← List.map_id ds]
  refine List.map_congr_left fun d hd => ?_
  rw [List.all_eq_true] at h
  exact parseR_tx (h d hd)
theorem rr_of {ds : List Rl} (h : rulesB ds = true) : ReadRules_r0 (rulesTx ds) = ds ∧ ReadRules_r1 (rulesTx ds) = true := by
  have hv := rules_all' h
  have hb : rrB (rulesTx ds) = true := by
    unfold rrB
    rw [rrDs_tx hv, h, preL_tx]
    simp only [Bool.true_and, Bool.and_eq_true, beq_self_eq_true, and_true]
    rw [List.all_eq_true]
    intro x hx
    obtain ⟨d, hd, rfl⟩ := List.mem_map.1 hx
    rw [List.all_eq_true] at hv
    exact good_tx (hv d hd)
  unfold ReadRules_r0 ReadRules_r1
  rw [hb, if_pos rfl, rrDs_tx hv]
  exact ⟨rfl, rfl⟩
theorem rr_false {s : List UInt8} (h : rrB s = false) : ReadRules_r0 s = [] ∧ ReadRules_r1 s = false := by
  unfold ReadRules_r0 ReadRules_r1; rw [h]; exact ⟨rfl, rfl⟩
theorem rr_none {s : List UInt8} (h : ∀ ds, rulesB ds = true → rulesTx ds ≠ s) : ReadRules_r0 s = [] ∧ ReadRules_r1 s = false := by
  refine rr_false ?_
  cases hb : rrB s with
  | false => rfl
  | true =>
    unfold rrB at hb
    simp only [Bool.and_eq_true, beq_iff_eq] at hb
    exact absurd hb.2.2 (h _ hb.2.1)
theorem rulesTx_short {ds : List Rl} (h : ds.all validB = true) : (rulesTx ds).length ≤ 200 * ds.length := by
  induction ds with
  | nil => simp [rulesTx]
  | cons d ds ih =>
    rw [List.all_cons, Bool.and_eq_true] at h
    have h1 := ih h.2
    have h2 := ruleTx_short h.1
    rw [rulesTx_cons, List.length_append, List.length_cons, List.length_cons]
    omega
theorem rr_long {s : List UInt8} (h : 4800 < s.length) : rrB s = false := by
  cases hb : rrB s with
  | false => rfl
  | true =>
    unfold rrB at hb
    simp only [Bool.and_eq_true, beq_iff_eq] at hb
    have h1 := rulesTx_short (rules_all' hb.2.1)
    have h2 := rules_len' hb.2.1
    rw [hb.2.2] at h1
    omega
/-! ### the scan -/
theorem sep_one {c : UInt8} : ∀ {a b x y : List UInt8}, a ++ c :: x = b ++ c :: y → c ∉ a → c ∉ b → a = b ∧ x = y
  | [], [], x, y, h, _, _ => ⟨rfl, by simpa using h⟩
  | [], e :: b, x, y, h, _, hb => by
    simp only [List.nil_append, List.cons_append, List.cons.injEq] at h
    exact absurd (by rw [h.1]; simp) hb
  | e :: a, [], x, y, h, ha, _ => by
    simp only [List.nil_append, List.cons_append, List.cons.injEq] at h
    exact absurd (by rw [h.1]; simp) ha
  | e :: a, f :: b, x, y, h, ha, hb => by
    simp only [List.cons_append, List.cons.injEq] at h
    obtain ⟨h1, h2⟩ := sep_one h.2 (fun h => ha (List.mem_cons_of_mem _ h)) (fun h => hb (List.mem_cons_of_mem _ h))
    exact ⟨by rw [h.1, h1], h2⟩
theorem tx_prefix : ∀ {out ds : List Rl} {t : List UInt8}, out.all validB = true → ds.all validB = true → rulesTx ds = rulesTx out ++ t → ∃ ds', ds = out ++ ds' ∧ t = rulesTx ds'
  | [], ds, t, _, _, h => ⟨ds, rfl, by simpa [rulesTx_nil] using h.symm⟩
  | d :: out, [], t, _, _, h => by
    rw [rulesTx_cons] at h
    have := congrArg List.length h
    simp [rulesTx_nil] at this
  | d :: out, e :: ds, t, ho, hd, h => by
    rw [List.all_cons, Bool.and_eq_true] at ho hd
    rw [rulesTx_cons, rulesTx_cons, List.append_assoc, List.cons_append] at h
    obtain ⟨h1, h2⟩ := sep_one h ruleTx_nl ruleTx_nl
    obtain ⟨ds', rfl, h3⟩ := tx_prefix ho.2 hd.2 h2
    refine ⟨ds', ?_, h3⟩
    have := parseR_tx hd.1
    rw [h1, parseR_tx ho.1] at this
    rw [this]; rfl
def seg (s : List UInt8) (p i : Nat) : List UInt8 := (s.drop p).take (i - p)
/-- where the reference's scan stands -/
structure SI (s : List UInt8) (p i : Nat) (out : List Rl) : Prop where
  tx : s.take p = rulesTx out
  va : out.all validB = true
  n : out.length ≤ 24
  h1 : p ≤ i
  h2 : i ≤ s.length
  nn : ∀ j, p ≤ j → j < i → gB s j ≠ 10
theorem seg_len {s : List UInt8} {p i : Nat} (h1 : p ≤ i) (h2 : i ≤ s.length) : (seg s p i).length = i - p := by
  unfold seg; rw [List.length_take, List.length_drop]; omega
theorem seg_not {s : List UInt8} {p i : Nat} (h : ∀ j, p ≤ j → j < i → gB s j ≠ 10) : (10 : UInt8) ∉ seg s p i := by
  intro hm
  obtain ⟨k, hk⟩ := List.getElem?_of_mem hm
  unfold seg at hk
  rw [List.getElem?_take] at hk
  split at hk
  · rw [List.getElem?_drop] at hk
    exact h (p + k) (by omega) (by omega) (by unfold gB; rw [hk]; rfl)
  · cases hk
theorem drop_seg {s : List UInt8} {p i : Nat} (h1 : p ≤ i) (h2 : i < s.length) (h : gB s i = 10) : s.drop p = seg s p i ++ 10 :: s.drop (i + 1) := by
  unfold seg
  have e : (s.drop p).drop (i - p) = 10 :: s.drop (i + 1) := by
    rw [List.drop_drop, show p + (i - p) = i by omega, List.drop_eq_getElem_cons h2]
    congr 1
    unfold gB at h
    rw [List.getElem?_eq_getElem h2] at h
    exact h
  rw [← e, List.take_append_drop]
theorem SI.start (s : List UInt8) : SI s 0 0 [] := ⟨by simp [rulesTx_nil], rfl, by simp, Nat.le_refl _, Nat.zero_le _, fun j h1 h2 => by omega⟩
theorem SI.skip {s : List UInt8} {p i : Nat} {out : List Rl} (h : SI s p i out) (hi : i < s.length) (hg : gB s i ≠ 10) : SI s p (i + 1) out :=
  ⟨h.tx, h.va, h.n, by have := h.h1; omega, by omega, fun j h1 h2 => by
    by_cases e : j = i
    · rw [e]; exact hg
    · exact h.nn j h1 (by omega)⟩
theorem SI.step {s : List UInt8} {p i : Nat} {out : List Rl} (h : SI s p i out) (hi : i < s.length) (hg : gB s i = 10) (hb : goodB (seg s p i) = true) (hn : out.length < 24) : SI s (i + 1) (i + 1) (out ++ [parseR (seg s p i)]) := by
  obtain ⟨d, hv, hd⟩ := good_iff.1 hb
  have hp : parseR (seg s p i) = d := by rw [← hd, parseR_tx hv]
  rw [hp]
  refine ⟨?_, ?_, by simp; omega, Nat.le_refl _, by omega, fun j h1 h2 => by omega⟩
  · have e : s = s.take p ++ (seg s p i ++ 10 :: s.drop (i + 1)) := by rw [← drop_seg h.h1 hi hg, List.take_append_drop]
    have hl : (s.take p ++ (seg s p i ++ [10])).length = i + 1 := by
      rw [List.length_append, List.length_append, List.length_take, seg_len h.h1 h.h2]
      have := h.h1; simp; omega
    have e2 : s = (s.take p ++ (seg s p i ++ [10])) ++ s.drop (i + 1) := by
      conv => lhs; rw [e]
      simp
    conv => lhs; rw [e2, ← hl, List.take_left]
    rw [h.tx, rulesTx_append, rulesTx_one, hd]
  · rw [List.all_append, h.va]; simp [hv]
theorem SI.tail {s : List UInt8} {p i : Nat} {out ds : List Rl} (h : SI s p i out) (hd : rulesB ds = true) (e : rulesTx ds = s) : ∃ ds', ds = out ++ ds' ∧ s.drop p = rulesTx ds' := by
  refine tx_prefix h.va (rules_all' hd) ?_
  rw [← h.tx, List.take_append_drop, e]
theorem SI.bad {s : List UInt8} {p i : Nat} {out : List Rl} (h : SI s p i out) (hi : i < s.length) (hg : gB s i = 10) (hb : goodB (seg s p i) = false ∨ out.length = 24) : ReadRules_r0 s = [] ∧ ReadRules_r1 s = false := by
  refine rr_none fun ds hd e => ?_
  obtain ⟨ds', rfl, ht⟩ := h.tail hd e
  rw [drop_seg h.h1 hi hg] at ht
  cases ds' with
  | nil =>
    have := congrArg List.length ht
    simp [rulesTx_nil] at this
  | cons d ds' =>
    rw [rulesTx_cons] at ht
    obtain ⟨h1, _⟩ := sep_one ht (seg_not h.nn) ruleTx_nl
    have hv := rules_all' hd
    rw [List.all_append, List.all_cons, Bool.and_eq_true, Bool.and_eq_true] at hv
    rcases hb with hb | hb
    · rw [h1, good_tx hv.2.1] at hb; cases hb
    · have := rules_len' hd
      rw [List.length_append, List.length_cons] at this
      omega
theorem SI.yes {s : List UInt8} {i : Nat} {out : List Rl} (h : SI s s.length i out) : ReadRules_r0 s = out ∧ ReadRules_r1 s = true := by
  have e : rulesTx out = s := by rw [← h.tx, List.take_length]
  have hb : rulesB out = true := by unfold rulesB; rw [h.va]; simp [h.n]
  have := rr_of hb
  rw [e] at this
  exact this
theorem SI.no {s : List UInt8} {p : Nat} {out : List Rl} (h : SI s p s.length out) (hp : p ≠ s.length) : ReadRules_r0 s = [] ∧ ReadRules_r1 s = false := by
  refine rr_none fun ds hd e => ?_
  obtain ⟨ds', rfl, ht⟩ := h.tail hd e
  have hs : seg s p s.length = s.drop p := by unfold seg; rw [List.take_of_length_le (by rw [List.length_drop]; omega)]
  have hn := seg_not h.nn
  rw [hs, ht] at hn
  cases ds' with
  | nil =>
    have := congrArg List.length ht
    have h1 := h.h1
    simp [rulesTx_nil] at this
    omega
  | cons d ds' => exact hn (by rw [rulesTx_cons]; simp)
end Go.Proofs.YtinocfehjdlohaaDoor
