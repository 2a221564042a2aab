/-
  A RULE READ FROM A TEXT, the plain laws: numbers read back; what the program's way of reading gives at a rule's text.
-/
import Derived.Test.YtinocfehjdlohaaDoorTxtV
import Derived.Lib.ParseIntB
import Derived.Lib.Split
import Derived.Lib.IndexLaws
import Derived.Lib.Strings
namespace Go.Proofs.YtinocfehjdlohaaDoor
set_option linter.unusedVariables false
set_option linter.unusedSimpArgs false

/-! ### the bytes of numbers -/
def isDg (c : UInt8) : Bool := decide (48 ≤ c.toNat) && decide (c.toNat ≤ 57)
theorem dg_val {r : Nat} (h : r < 10) : (UInt8.ofNat (48 + r)).toNat = 48 + r := by rw [UInt8.toNat_ofNat']; omega
theorem dec_digits (u : Nat) : ∀ c ∈ Lib.decDigits u, isDg c = true := by
  induction u using Nat.strongRecOn with
  | _ u ih =>
    intro c hc
    by_cases h : u < 10
    · rw [Lib.decDigits_one h] at hc
      rw [List.mem_singleton.1 hc]
      unfold isDg
      rw [dg_val h]
      simp; omega
    · rw [dec_big h] at hc
      rcases List.mem_append.1 hc with h1 | h1
      · exact ih (u / 10) (by omega) c h1
      · rw [List.mem_singleton.1 h1]
        unfold isDg
        rw [dg_val (by omega)]
        simp; omega
theorem itoa_bytes (n : Int) : ∀ c ∈ itoa n, isDg c = true ∨ c = 45 := by
  intro c hc
  unfold itoa Lib.itoa at hc
  split at hc
  · rcases List.mem_cons.1 hc with h | h
    · exact .inr h
    · exact .inl (dec_digits _ c h)
  · exact .inl (dec_digits _ c hc)
theorem itoa_not {n : Int} {c : UInt8} (h : isDg c = false) (h2 : c ≠ 45) : c ∉ itoa n := fun hc => by
  rcases itoa_bytes n c hc with h1 | h1
  · rw [h] at h1; cases h1
  · exact h2 h1
theorem itoa_nonneg_bytes {n : Int} (h : 0 ≤ n) : ∀ c ∈ itoa n, isDg c = true := by
  intro c hc
  unfold itoa Lib.itoa at hc
  rw [if_neg (by omega)] at hc
  exact dec_digits _ c hc

/-! ### the number read back -/
theorem parse_append (M : Nat) (l r : List UInt8) : ∀ acc a, Lib.parseUintM M acc l = .ok a → Lib.parseUintM M acc (l ++ r) = Lib.parseUintM M a r := by
  induction l with
  | nil => intro acc a h; simp only [Lib.parseUintM] at h; cases h; rfl
  | cons c l ih =>
    intro acc a h
    rw [List.cons_append]
    unfold Lib.parseUintM at h
    conv => lhs; unfold Lib.parseUintM
    split at h
    · split at h
      · cases h
      · split at h
        · cases h
        · rename_i h1 h2 h3
          rw [if_pos h1, if_neg h2, if_neg h3]
          exact ih _ _ h
    · cases h
theorem parse_dec {M : Nat} (hM : 10000000000000000 ≤ M) (u : Nat) : u ≤ 10000000000000000 → Lib.parseUintM M 0 (Lib.decDigits u) = .ok u := by
  induction u using Nat.strongRecOn with
  | _ u ih =>
    intro hu
    have one : ∀ (acc r : Nat), r < 10 → acc ≤ 1000000000000000 → acc * 10 + r ≤ M → Lib.parseUintM M acc (dgt r) = .ok (acc * 10 + r) := by
      intro acc r hr ha hm
      unfold dgt Lib.parseUintM
      rw [dg_val hr, if_pos (by omega), if_neg (by omega), if_neg (by omega)]
      unfold Lib.parseUintM
      congr 1; omega
    by_cases h : u < 10
    · rw [Lib.decDigits_one h]
      have := one 0 u h (by omega) (by omega)
      simpa [dgt] using this
    · rw [dec_big h, parse_append M _ _ 0 (u / 10) (ih (u / 10) (by omega) (by omega)), one _ _ (by omega) (by omega) (by omega)]
      congr 1; omega
theorem dec_head (u : Nat) : ∃ c t, Lib.decDigits u = c :: t ∧ isDg c = true := by
  have h1 : (Lib.decDigits u).length ≠ 0 := by rw [Lib.decDigits_length]; have := Lib.nDigits_pos u; omega
  cases hd : Lib.decDigits u with
  | nil => rw [hd] at h1; exact absurd rfl h1
  | cons c t => exact ⟨c, t, rfl, dec_digits u c (by rw [hd]; simp)⟩
theorem parse_itoa {n : Int} (h : -1000000000000000 ≤ n ∧ n ≤ 1000000000000000) : Lib.parseIntB 64 (itoa n) = .ok n := by
  by_cases hn : n < 0
  · obtain ⟨u, rfl⟩ : ∃ u : Nat, n = -(u : Int) := ⟨n.natAbs, by omega⟩
    have e : itoa (-(u : Int)) = 45 :: Lib.decDigits u := Lib.itoa_neg u (by omega)
    rw [e]
    obtain ⟨c, t, hd, _⟩ := dec_head u
    have h2 : Lib.parseUintB 64 (Lib.decDigits u) = .ok u := by
      unfold Lib.parseUintB
      rw [if_neg (by rw [hd]; simp)]
      exact parse_dec (by decide) u (by omega)
    unfold Lib.parseIntB
    simp only [show (45 : UInt8).toNat = 45 from rfl, or_true, if_true, h2]
    rw [if_neg (by simp), if_neg (by simp; omega)]
  · obtain ⟨u, rfl⟩ : ∃ u : Nat, n = (u : Int) := ⟨n.toNat, by omega⟩
    have e : itoa (u : Int) = Lib.decDigits u := Lib.itoa_nonneg u
    rw [e]
    have h2 : Lib.parseUintB 64 (Lib.decDigits u) = .ok u := by
      obtain ⟨c, t, hd, _⟩ := dec_head u
      unfold Lib.parseUintB
      rw [if_neg (by rw [hd]; simp)]
      exact parse_dec (by decide) u (by omega)
    obtain ⟨c, t, hd, hc⟩ := dec_head u
    have hc2 : 48 ≤ c.toNat ∧ c.toNat ≤ 57 := by unfold isDg at hc; simpa using hc
    rw [hd] at h2 ⊢
    unfold Lib.parseIntB
    simp only
    rw [if_neg (by omega), h2]
    simp only
    rw [if_neg (by simp; omega), if_neg (by omega), if_neg (by omega)]
/-- a number read from a text, 0 if there is none -/
def readOk (l : List UInt8) (v : Int) : Bool := decide (-1000000000000000 ≤ v ∧ v ≤ 1000000000000000) && (itoa v == l)
def readDec (l : List UInt8) : Option Int := match Lib.parseIntB 64 l with
  | .ok v => if readOk l v then some v else none
  | _ => none
def rd (l : List UInt8) : Int := (readDec l).getD 0
theorem readDec_itoa {n : Int} (h : -1000000000000000 ≤ n ∧ n ≤ 1000000000000000) : readDec (itoa n) = some n := by
  unfold readDec
  rw [parse_itoa h]
  simp only
  rw [if_pos (by unfold readOk; simp [h])]
theorem rd_itoa {n : Int} (h : -1000000 ≤ n ∧ n ≤ 1000000) : rd (itoa n) = n := by unfold rd; rw [readDec_itoa (by omega)]; rfl
theorem readDec_bnd {l : List UInt8} {v : Int} (h : readDec l = some v) : -1000000000000000 ≤ v ∧ v ≤ 1000000000000000 := by
  unfold readDec at h
  split at h
  · split at h
    · rename_i h2
      cases h
      unfold readOk at h2
      simp only [Bool.and_eq_true, decide_eq_true_eq] at h2
      exact h2.1
    · cases h
  · cases h
theorem rd_bnd (l : List UInt8) : -1000000000000000 ≤ rd l ∧ rd l ≤ 1000000000000000 := by
  unfold rd
  cases h : readDec l with
  | none => simp
  | some v => exact readDec_bnd h

/-! ### cutting at a mark that is not in the first part -/
theorem index_sep {a b t : List UInt8} {c : UInt8} (ha : c ∉ a) : Lib.index (a ++ (c :: t) ++ b) (c :: t) = a.length := by
  refine Lib.index_first (by simp) ?_ ?_
  · unfold Lib.occAt
    rw [List.append_assoc, List.drop_left, List.isPrefixOf_iff_prefix]
    exact List.prefix_append _ _
  · intro j hj
    unfold Lib.occAt
    rw [List.append_assoc, List.drop_append_of_le_length (by omega)]
    cases hd : a.drop j with
    | nil =>
      have := congrArg List.length hd
      rw [List.length_drop] at this
      simp at this; omega
    | cons x r =>
      have hx : x ∈ a := List.mem_of_mem_drop (by rw [hd]; simp)
      rw [List.cons_append]
      show ((c == x) && _) = false
      have : (c == x) = false := by
        rw [beq_eq_false_iff_ne]
        intro e; subst e; exact ha hx
      rw [this]; rfl
theorem cut_sep {a b t : List UInt8} {c : UInt8} (ha : c ∉ a) : Lib.cut (a ++ (c :: t) ++ b) (c :: t) = (a, b, true) := by
  unfold Lib.cut
  rw [index_sep ha, if_pos (by omega)]
  simp only [Int.toNat_natCast]
  rw [List.append_assoc, List.take_left, ← List.append_assoc, ← List.length_append, List.drop_left]
theorem index_none_of {a t : List UInt8} {c : UInt8} (ha : c ∉ a) : Lib.index a (c :: t) = -1 := by
  refine Lib.index_none fun j _ => ?_
  unfold Lib.occAt
  cases hd : a.drop j with
  | nil => rfl
  | cons x r =>
    have hx : x ∈ a := List.mem_of_mem_drop (by rw [hd]; simp)
    show ((c == x) && _) = false
    have : (c == x) = false := by
      rw [beq_eq_false_iff_ne]
      intro e; subst e; exact ha hx
    rw [this]; rfl
theorem split_join {c : UInt8} {t : List UInt8} {xs : List (List UInt8)} (hne : xs ≠ []) (h : ∀ x ∈ xs, c ∉ x) : Lib.split (Lib.join xs (c :: t)) (c :: t) = xs := by
  induction xs with
  | nil => exact absurd rfl hne
  | cons x xs ih =>
    have hx : c ∉ x := h x (by simp)
    cases xs with
    | nil =>
      rw [Lib.join_one]
      unfold Lib.split
      rw [Lib.count_miss (index_none_of hx)]
      rfl
    | cons y ys =>
      have e : Lib.join (x :: y :: ys) (c :: t) = x ++ (c :: t) ++ Lib.join (y :: ys) (c :: t) := by
        rw [Lib.join_cons, Lib.join_cons]
        unfold Lib.joinTail
        simp [List.append_assoc]
      have hi := index_sep (b := Lib.join (y :: ys) (c :: t)) (t := t) hx
      have ih2 := ih (by simp) (fun z hz => h z (List.mem_cons_of_mem _ hz))
      unfold Lib.split at ih2 ⊢
      rw [e, Lib.count_hit (by simp) hi]
      have hdr : List.drop (x.length + (c :: t).length) (x ++ c :: t ++ Lib.join (y :: ys) (c :: t)) = Lib.join (y :: ys) (c :: t) := by
        rw [← List.length_append, List.drop_left]
      rw [hdr, Nat.add_comm 1]
      show (if (Lib.index _ _ == -1) = true then _ else _) = _
      rw [hi, if_neg (by rw [beq_iff_eq]; omega)]
      simp only [Int.toNat_natCast, Nat.add_zero]
      rw [hdr, ih2, List.append_assoc, List.take_left]
theorem trim_sfx (a : List UInt8) (c : UInt8) : Lib.trimSuffix (a ++ [c]) [c] = a := by
  unfold Lib.trimSuffix
  rw [if_pos (by unfold Lib.hasSuffix; rw [List.isSuffixOf_iff_suffix]; exact List.suffix_append _ _)]
  simp

/-! ### the program's way -/
def parseIfs (l : List UInt8) : List Int := if l = [] then [] else (Lib.split (Lib.trimSuffix l [32]) [32, 38, 32]).map rd
def parseR (s : List UInt8) : Rl :=
  ⟨rd (Lib.cut (Lib.cut (Lib.cut s [32, 114]).2.1 [58, 32]).2.1 [61, 62, 32]).2.1,
   parseIfs (Lib.cut (Lib.cut (Lib.cut s [32, 114]).2.1 [58, 32]).2.1 [61, 62, 32]).1,
   rd (Lib.cut (Lib.cut s [32, 114]).1 [45]).1, rd (Lib.cut (Lib.cut s [32, 114]).1 [45]).2.1,
   rd (Lib.cut (Lib.cut s [32, 114]).2.1 [58, 32]).1⟩
theorem ifsTx2_bytes {zs : List Int} {c : UInt8} (h : isDg c = false) (h2 : c ≠ 45) (h3 : c ≠ 32) (h4 : c ≠ 38) : c ∉ ifsTx2 zs := by
  unfold ifsTx2 ifsTx
  intro hc
  rcases List.mem_append.1 hc with h5 | h5
  · have hj : ∀ xs : List (List UInt8), (∀ x ∈ xs, c ∉ x) → c ∉ Lib.join xs [32, 38, 32] := by
      intro xs hx
      cases xs with
      | nil => simp [Lib.join_nil]
      | cons x xs =>
        rw [Lib.join_cons]
        intro h6
        rcases List.mem_append.1 h6 with h7 | h7
        · exact hx x (by simp) h7
        · unfold Lib.joinTail at h7
          rw [List.mem_flatten] at h7
          obtain ⟨l, hl, hcl⟩ := h7
          obtain ⟨y, hy, rfl⟩ := List.mem_map.1 hl
          rcases List.mem_append.1 hcl with h8 | h8
          · simp only [List.mem_cons, List.not_mem_nil, or_false] at h8
            rcases h8 with h8 | h8 | h8
            · exact h3 h8
            · exact h4 h8
            · exact h3 h8
          · exact hx y (List.mem_cons_of_mem _ hy) h8
    refine hj _ (fun x hx => ?_) h5
    obtain ⟨z, _, rfl⟩ := List.mem_map.1 hx
    exact itoa_not h h2
  · split at h5
    · cases h5
    · exact h3 (List.mem_singleton.1 h5)
theorem parseIfs_tx {zs : List Int} (h : ∀ z ∈ zs, -16 ≤ z ∧ z ≤ 16) : parseIfs (ifsTx2 zs) = zs := by
  by_cases h0 : zs = []
  · subst h0; rfl
  · unfold parseIfs ifsTx2
    rw [if_neg h0, if_neg (by simp), trim_sfx]
    unfold ifsTx
    rw [split_join (by simpa using h0) (fun x hx => by
      obtain ⟨z, _, rfl⟩ := List.mem_map.1 hx
      exact itoa_not (by decide) (by decide)), List.map_map]
    conv => rhs; rw [← List.map_id zs]
    refine List.map_congr_left fun z hz => ?_
    have := h z hz
    exact rd_itoa (by omega)
/-- what is read at a rule's text is the rule -/
theorem parseR_tx {d : Rl} (hv : validB d = true) : parseR (ruleTx d) = d := by
  have V := rlV hv
  have b1 := V.fr; have b2 := V.tt; have b3 := V.rk; have b4 := V.hd
  have e1 : Lib.cut (ruleTx d) [32, 114] = (itoa d.fr ++ [45] ++ itoa d.tt, itoa d.rk ++ [58, 32] ++ (ifsTx2 d.ifs ++ [61, 62, 32] ++ itoa d.hd), true) := by
    have : ruleTx d = (itoa d.fr ++ [45] ++ itoa d.tt) ++ (32 :: [114]) ++ (itoa d.rk ++ [58, 32] ++ (ifsTx2 d.ifs ++ [61, 62, 32] ++ itoa d.hd)) := by
      unfold ruleTx; simp only [List.append_assoc]
    rw [this]
    refine cut_sep ?_
    intro h
    simp only [List.mem_append, List.mem_singleton] at h
    rcases h with (h | h) | h
    · exact itoa_not (by decide) (by decide) h
    · exact absurd h (by decide)
    · exact itoa_not (by decide) (by decide) h
  have e2 : Lib.cut (itoa d.fr ++ [45] ++ itoa d.tt) [45] = (itoa d.fr, itoa d.tt, true) := by
    refine cut_sep (t := []) ?_
    intro h
    exact absurd (itoa_nonneg_bytes b1.1 _ h) (by decide)
  have e3 : Lib.cut (itoa d.rk ++ [58, 32] ++ (ifsTx2 d.ifs ++ [61, 62, 32] ++ itoa d.hd)) [58, 32] = (itoa d.rk, ifsTx2 d.ifs ++ [61, 62, 32] ++ itoa d.hd, true) :=
    cut_sep (t := [32]) (itoa_not (by decide) (by decide))
  have e4 : Lib.cut (ifsTx2 d.ifs ++ [61, 62, 32] ++ itoa d.hd) [61, 62, 32] = (ifsTx2 d.ifs, itoa d.hd, true) :=
    cut_sep (t := [62, 32]) (ifsTx2_bytes (by decide) (by decide) (by decide) (by decide))
  unfold parseR
  rw [e1]; simp only
  rw [e2, e3]; simp only
  rw [e4]; simp only
  rw [rd_itoa (by omega), rd_itoa (by omega), rd_itoa (by omega), rd_itoa (by omega), parseIfs_tx V.ifs]
def goodB (s : List UInt8) : Bool := decide (s.length ≤ 200) && (validB (parseR s) && (ruleTx (parseR s) == s))
def zeroRl : Rl := ⟨0, [], 0, 0, 0⟩
def ReadRule_r0 (s : List UInt8) : Rl := if goodB s then parseR s else zeroRl
def ReadRule_r1 (s : List UInt8) : Bool := goodB s
/-- the text of a valid rule is short -/
theorem ruleTx_short {d : Rl} (hv : validB d = true) : (ruleTx d).length ≤ 199 := by
  have V := rlV hv
  have len : ∀ n : Int, -1000000 ≤ n ∧ n ≤ 1000000 → (itoa n).length ≤ 8 := by
    intro n hn
    have nd : ∀ u : Nat, u ≤ 1000000 → Lib.nDigits u ≤ 7 := fun u hu => by
      rcases Nat.eq_zero_or_pos u with rfl | h1
      · rw [Lib.nDigits_small (by omega)]; omega
      · have a := Lib.numDigits_eq u h1 (by omega)
        by_cases h : 8 ≤ Lib.nDigits u
        · exfalso
          have hp : ∀ k v : Nat, Lib.nDigits v = k + 1 → 10 ^ k ≤ v ∨ k = 0 := by
            intro k
            induction k with
            | zero => intro v _; exact .inr rfl
            | succ k ih =>
              intro v hv
              left
              by_cases h10 : v < 10
              · rw [Lib.nDigits_small h10] at hv; omega
              · rw [Lib.nDigits_big h10] at hv
                rcases ih (v / 10) (by omega) with h2 | h2
                · rw [Nat.pow_succ]; omega
                · subst h2; omega
          rcases hp (Lib.nDigits u - 1) u (by omega) with h2 | h2
          · have : 10 ^ 7 ≤ 10 ^ (Lib.nDigits u - 1) := Nat.pow_le_pow_right (by decide) (by omega)
            omega
          · omega
        · omega
    unfold itoa Lib.itoa
    split
    · rw [List.length_cons, Lib.decDigits_length]; have := nd n.natAbs (by omega); omega
    · rw [Lib.decDigits_length]; have := nd n.toNat (by omega); omega
  have b1 := V.fr; have b2 := V.tt; have b3 := V.rk; have b4 := V.hd
  have l1 := len d.fr (by omega)
  have l2 := len d.tt (by omega)
  have l3 := len d.rk (by omega)
  have l4 := len d.hd (by omega)
  have l5 : (ifsTx d.ifs).length ≤ 66 := by
    have := join_len (xs := d.ifs.map itoa) (sep := [32, 38, 32]) (b := 8) (fun x hx => by
      obtain ⟨z, hz, rfl⟩ := List.mem_map.1 hx
      have := V.ifs z hz
      exact len z (by omega))
    rw [List.length_map] at this
    have h6 := V.n
    unfold ifsTx
    simp only [List.length_cons, List.length_nil] at this
    omega
  unfold ruleTx ifsTx2
  simp only [List.length_append, List.length_cons, List.length_nil]
  split
  · simp only [List.length_nil]; omega
  · simp only [List.length_cons, List.length_nil]; omega
theorem good_tx {d : Rl} (hv : validB d = true) : goodB (ruleTx d) = true := by
  unfold goodB
  rw [parseR_tx hv, hv]
  have := ruleTx_short hv
  simp; omega
theorem good_iff {s : List UInt8} : goodB s = true ↔ ∃ d, validB d = true ∧ ruleTx d = s := by
  constructor
  · intro h
    unfold goodB at h
    simp only [Bool.and_eq_true, decide_eq_true_eq, beq_iff_eq] at h
    exact ⟨_, h.2.1, h.2.2⟩
  · rintro ⟨d, hv, rfl⟩
    exact good_tx hv
end Go.Proofs.YtinocfehjdlohaaDoor
