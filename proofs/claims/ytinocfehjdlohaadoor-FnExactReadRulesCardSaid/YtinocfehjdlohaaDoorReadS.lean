/-
  A RULE READ FROM A TEXT: the reference's way: the plain laws.
-/
import Derived.Test.YtinocfehjdlohaaDoorReadI
namespace Go.Proofs.YtinocfehjdlohaaDoor
set_option linter.unusedVariables false
set_option linter.unusedSimpArgs false

/-- the digits at the front, at most six; what they say -/
def digL (t : List UInt8) : List UInt8 := (t.take 6).takeWhile isDg
def digV (ds : List UInt8) : Nat := ds.foldl (fun n c => 10 * n + (c.toNat - 48)) 0
/-- a number at the front: its value, how many bytes, whether there is one -/
def digN (t : List UInt8) : Nat := if t.head? = some 45 then 1 else 0
def digs (t : List UInt8) : Int × Nat × Bool :=
  (if t.head? = some 45 then -(digV (digL (t.drop 1)) : Int) else (digV (digL t) : Int), digN t + (digL (t.drop (digN t))).length, decide (0 < (digL (t.drop (digN t))).length))
def skpI (l : List UInt8) (a : Int) (t : List UInt8) : Int := if a < 0 then -1 else if t.isPrefixOf (l.drop a.toNat) then a + t.length else -1
def readIfs (l : List UInt8) : Nat → Int → List Int → Option (Int × List Int)
  | 0, _, _ => none
  | f + 1, a, acc =>
    if 0 ≤ skpI l a [61, 62, 32] then some (a, acc)
    else if !(digs (l.drop a.toNat)).2.2 || decide (6 < acc.length) then none
    else if (if skpI l (a + (digs (l.drop a.toNat)).2.1) [32, 38, 32] < 0 then skpI l (a + (digs (l.drop a.toNat)).2.1) [32] else skpI l (a + (digs (l.drop a.toNat)).2.1) [32, 38, 32]) < 0 then none
    else readIfs l f (if skpI l (a + (digs (l.drop a.toNat)).2.1) [32, 38, 32] < 0 then skpI l (a + (digs (l.drop a.toNat)).2.1) [32] else skpI l (a + (digs (l.drop a.toNat)).2.1) [32, 38, 32]) (acc ++ [(digs (l.drop a.toNat)).1])
/-- one number and the mark behind it -/
def readNum (l : List UInt8) (a : Int) (t : List UInt8) : Option (Int × Int) :=
  if !(digs (l.drop a.toNat)).2.2 || decide (skpI l (a + (digs (l.drop a.toNat)).2.1) t < 0) then none else some ((digs (l.drop a.toNat)).1, skpI l (a + (digs (l.drop a.toNat)).2.1) t)
def parseS (l : List UInt8) : Option (Rl × Bool) :=
  match readNum l 0 [45] with
  | none => none
  | some (f, a1) => match readNum l a1 [32, 114] with
    | none => none
    | some (t, a2) => match readNum l a2 [58, 32] with
      | none => none
      | some (k, a3) => match readIfs l 8 a3 [] with
        | none => none
        | some (a4, zs) => some (⟨(digs (l.drop (a4 + 3).toNat)).1, zs, f, t, k⟩, (digs (l.drop (a4 + 3).toNat)).2.2)
def goodS (l : List UInt8) : Bool := match parseS l with
  | none => false
  | some (d, ok) => ok && (validB d && (ruleTx d == l))

/-! ### at a rule's text -/
theorem digL_front {ds rest : List UInt8} (h : ∀ c ∈ ds, isDg c = true) (hl : ds.length ≤ 6) (hr : ∀ c, rest.head? = some c → isDg c = false) : digL (ds ++ rest) = ds := by
  unfold digL
  rw [List.take_append, List.take_of_length_le hl, List.takeWhile_append_of_pos h]
  have : List.takeWhile isDg (List.take (6 - ds.length) rest) = [] := by
    cases rest with
    | nil => simp
    | cons c r =>
      cases 6 - ds.length with
      | zero => rfl
      | succ m => rw [List.take_succ_cons, List.takeWhile_cons, hr c rfl]; rfl
  rw [this, List.append_nil]
theorem digV_append (a : List UInt8) (c : UInt8) : digV (a ++ [c]) = 10 * digV a + (c.toNat - 48) := by unfold digV; rw [List.foldl_append]; rfl
theorem digV_dec (u : Nat) : digV (Lib.decDigits u) = u := by
  induction u using Nat.strongRecOn with
  | _ u ih =>
    by_cases h : u < 10
    · rw [Lib.decDigits_one h]
      show 10 * 0 + ((UInt8.ofNat (48 + u)).toNat - 48) = u
      rw [dg_val h]; omega
    · rw [dec_big h]
      unfold dgt
      rw [digV_append, ih (u / 10) (by omega), dg_val (by omega)]
      omega
theorem nDig6 {u : Nat} (h : u < 1000000) : (Lib.decDigits u).length ≤ 6 := by
  rw [Lib.decDigits_length]
  have hp : ∀ k v : Nat, Lib.nDigits v = k + 1 → 10 ^ k ≤ v ∨ k = 0 := by
    intro k
    induction k with
    | zero => intro v _; exact .inr rfl
    | succ k ih =>
      intro v hv
      left
      by_cases h10 : v < 10
      · rw [Lib.nDigits_small h10] at hv; omega
      · rw [Lib.nDigits_big h10] at hv
        rcases ih (v / 10) (by omega) with h2 | h2
        · rw [Nat.pow_succ]; omega
        · subst h2; omega
  by_cases h7 : 7 ≤ Lib.nDigits u
  · rcases hp (Lib.nDigits u - 1) u (by omega) with h2 | h2
    · have : 10 ^ 6 ≤ 10 ^ (Lib.nDigits u - 1) := Nat.pow_le_pow_right (by decide) (by omega)
      omega
    · omega
  · omega
theorem digs_itoa {n : Int} {rest : List UInt8} (h : -1000000 < n ∧ n < 1000000) (hr : ∀ c, rest.head? = some c → isDg c = false) : digs (itoa n ++ rest) = (n, (itoa n).length, true) := by
  by_cases hn : n < 0
  · obtain ⟨u, rfl⟩ : ∃ u : Nat, n = -(u : Int) := ⟨n.natAbs, by omega⟩
    have e : itoa (-(u : Int)) = 45 :: Lib.decDigits u := Lib.itoa_neg u (by omega)
    have hd : digL (Lib.decDigits u ++ rest) = Lib.decDigits u := digL_front (dec_digits u) (nDig6 (by omega)) hr
    have hl : 0 < (Lib.decDigits u).length := by rw [Lib.decDigits_length]; have := Lib.nDigits_pos u; omega
    rw [e]
    unfold digs digN
    simp only [List.cons_append, List.head?_cons, if_true, List.drop_succ_cons, List.drop_zero, hd, digV_dec, List.length_cons]
    simp [hl]; omega
  · obtain ⟨u, rfl⟩ : ∃ u : Nat, n = (u : Int) := ⟨n.toNat, by omega⟩
    have e : itoa (u : Int) = Lib.decDigits u := Lib.itoa_nonneg u
    obtain ⟨c, t, hct, hc⟩ := dec_head u
    have hc45 : c ≠ 45 := by intro e; subst e; exact absurd hc (by decide)
    have hd : digL (Lib.decDigits u ++ rest) = Lib.decDigits u := digL_front (dec_digits u) (nDig6 (by omega)) hr
    have hl : 0 < (Lib.decDigits u).length := by rw [Lib.decDigits_length]; have := Lib.nDigits_pos u; omega
    have hh : (Lib.decDigits u ++ rest).head? ≠ some 45 := by rw [hct]; simp [hc45]
    rw [e]
    unfold digs digN
    rw [if_neg hh, if_neg hh, List.drop_zero, hd, digV_dec]
    simp [hl]
theorem skp_at {l t rest : List UInt8} {n : Nat} (h : l.drop n = t ++ rest) : skpI l n t = ((n + t.length : Nat) : Int) := by
  unfold skpI
  rw [if_neg (by omega), Int.toNat_natCast, h, if_pos (by rw [List.isPrefixOf_iff_prefix]; exact List.prefix_append _ _)]
  omega
theorem drop_past {l t rest : List UInt8} {n : Nat} (h : l.drop n = t ++ rest) : l.drop (n + t.length) = rest := by
  rw [← List.drop_drop, h, List.drop_left]
theorem skp_no {l t : List UInt8} {n : Nat} (h : t.isPrefixOf (l.drop n) = false) : skpI l n t = -1 := by
  unfold skpI
  rw [if_neg (by omega), Int.toNat_natCast, h]; rfl
theorem readNum_at {l t rest : List UInt8} {n : Nat} {z : Int} (h : l.drop n = itoa z ++ (t ++ rest)) (hz : -1000000 < z ∧ z < 1000000) (ht : ∀ c, (t ++ rest).head? = some c → isDg c = false) :
    readNum l n t = some (z, (((n + (itoa z).length) + t.length : Nat) : Int)) ∧ l.drop ((n + (itoa z).length) + t.length) = rest := by
  have h1 := digs_itoa (rest := t ++ rest) hz ht
  have h2 := drop_past h
  have h3 := skp_at h2
  refine ⟨?_, drop_past h2⟩
  unfold readNum
  rw [Int.toNat_natCast, h, h1]
  simp only
  rw [show (n : Int) + ((itoa z).length : Nat) = ((n + (itoa z).length : Nat) : Int) by omega, h3]
  rw [if_neg (by simp; omega)]
theorem ifsTx2_cons (z : Int) (zs : List Int) : ifsTx2 (z :: zs) = itoa z ++ (if zs = [] then [32] else [32, 38, 32] ++ ifsTx2 zs) := by
  unfold ifsTx2 ifsTx
  rw [if_neg (by simp)]
  cases zs with
  | nil => simp [Lib.join_one]
  | cons y ys =>
    rw [if_neg (by simp), if_neg (by simp)]
    simp only [List.map_cons]
    rw [Lib.join_cons, Lib.join_cons]
    unfold Lib.joinTail
    simp [List.append_assoc]
theorem readIfs_at {l tl : List UInt8} : ∀ (zs : List Int) (f n : Nat) (acc : List Int), (∀ z ∈ zs, -16 ≤ z ∧ z ≤ 16) → l.drop n = ifsTx2 zs ++ ([61, 62, 32] ++ tl) → zs.length + acc.length ≤ 6 → zs.length < f →
    ∃ m : Nat, readIfs l f n acc = some ((m : Int), acc ++ zs) ∧ l.drop m = [61, 62, 32] ++ tl
  | [], f, n, acc, _, h, _, hf => by
    obtain ⟨f, rfl⟩ : ∃ k, f = k + 1 := ⟨f - 1, by simp at hf; omega⟩
    have h0 : l.drop n = [61, 62, 32] ++ tl := h
    refine ⟨n, ?_, h0⟩
    unfold readIfs
    rw [skp_at h0, if_pos (by omega), List.append_nil]
  | z :: zs, f, n, acc, hz, h, hl, hf => by
    obtain ⟨f, rfl⟩ : ∃ k, f = k + 1 := ⟨f - 1, by simp at hf; omega⟩
    have hz1 := hz z (by simp)
    rw [ifsTx2_cons, List.append_assoc] at h
    have hno : skpI l n [61, 62, 32] = -1 := by
      refine skp_no ?_
      rw [h]
      cases hi : itoa z with
      | nil => have := itoa_pos z; rw [hi] at this; exact absurd this (by simp)
      | cons c r =>
        have hc : c ≠ 61 := by
          intro e; subst e
          exact itoa_not (n := z) (c := 61) (by decide) (by decide) (by rw [hi]; simp)
        rw [List.cons_append]
        show ((61 == c) && _) = false
        rw [show ((61 : UInt8) == c) = false from by rw [beq_eq_false_iff_ne]; exact fun e => hc e.symm]; rfl
    have hdig : digs (l.drop n) = (z, (itoa z).length, true) := by
      rw [h]
      refine digs_itoa (by omega) ?_
      intro c hc
      split at hc <;> (simp at hc; subst hc; decide)
    have h2 := drop_past h
    have hal : ¬ 6 < acc.length := by simp at hl; omega
    by_cases h0 : zs = []
    · subst h0
      rw [if_pos rfl] at h2
      have s1 : skpI l ((n + (itoa z).length : Nat) : Int) [32, 38, 32] = -1 := skp_no (by rw [h2]; rfl)
      have s2 := skp_at (t := [32]) h2
      obtain ⟨m, hm1, hm2⟩ := readIfs_at (tl := tl) [] f (n + (itoa z).length + 1) (acc ++ [z]) (fun _ h => by cases h) (drop_past (t := [32]) h2) (by simp at hl ⊢; omega) (by simp at hf ⊢; omega)
      refine ⟨m, ?_, hm2⟩
      unfold readIfs
      rw [hno, if_neg (by decide), Int.toNat_natCast, hdig]
      simp only
      rw [show (n : Int) + ((itoa z).length : Nat) = ((n + (itoa z).length : Nat) : Int) by omega, s1, s2]
      have q : ((-1 : Int) < 0) := by decide
      rw [if_neg (by simp [hal]), if_pos q, if_neg (by omega)]
      simp only [List.length_singleton]
      rw [hm1]
      simp
    · rw [if_neg h0, List.append_assoc] at h2
      have s1 := skp_at (t := [32, 38, 32]) h2
      obtain ⟨m, hm1, hm2⟩ := readIfs_at (tl := tl) zs f (n + (itoa z).length + 3) (acc ++ [z]) (fun y hy => hz y (List.mem_cons_of_mem _ hy)) (drop_past (t := [32, 38, 32]) h2) (by simp at hl ⊢; omega) (by simp at hf ⊢; omega)
      refine ⟨m, ?_, hm2⟩
      unfold readIfs
      rw [hno, if_neg (by decide), Int.toNat_natCast, hdig]
      simp only
      rw [show (n : Int) + ((itoa z).length : Nat) = ((n + (itoa z).length : Nat) : Int) by omega, s1]
      rw [if_neg (by simp [hal]), if_neg (by omega), if_neg (by omega)]
      simp only [List.length_cons, List.length_nil]
      rw [hm1]
      simp
theorem parseS_tx {d : Rl} (hv : validB d = true) : parseS (ruleTx d) = some (d, true) := by
  have V := rlV hv
  have b1 := V.fr; have b2 := V.tt; have b3 := V.rk; have b4 := V.hd
  have e0 : (ruleTx d).drop 0 = itoa d.fr ++ ([45] ++ (itoa d.tt ++ ([32, 114] ++ (itoa d.rk ++ ([58, 32] ++ (ifsTx2 d.ifs ++ ([61, 62, 32] ++ itoa d.hd))))))) := by
    unfold ruleTx; simp only [List.drop_zero, List.append_assoc]
  obtain ⟨r1, e1⟩ := readNum_at e0 (by omega) (by intro c hc; simp at hc; subst hc; decide)
  obtain ⟨r2, e2⟩ := readNum_at e1 (by omega) (by intro c hc; simp at hc; subst hc; decide)
  obtain ⟨r3, e3⟩ := readNum_at e2 (by omega) (by intro c hc; simp at hc; subst hc; decide)
  obtain ⟨m, r4, e4⟩ := readIfs_at d.ifs 8 _ [] V.ifs e3 (by have := V.n; simp; omega) (by have := V.n; omega)
  have e5 : (ruleTx d).drop (m + 3) = itoa d.hd := drop_past (t := [61, 62, 32]) e4
  have hw : -1000000 < d.hd ∧ d.hd < 1000000 := by
    have hb := hv
    unfold validB at hb
    simp only [Bool.and_eq_true] at hb
    have := wordB_iff.1 hb.1
    omega
  have r5 := digs_itoa (n := d.hd) (rest := []) hw (by intro c hc; cases hc)
  rw [List.append_nil] at r5
  unfold parseS
  rw [show (0 : Int) = ((0 : Nat) : Int) from rfl, r1]
  simp only
  rw [r2]
  simp only
  rw [r3]
  simp only
  rw [r4]
  simp only
  rw [show ((m : Int) + 3).toNat = m + 3 by omega, e5, r5]
  simp
theorem goodS_iff {l : List UInt8} : goodS l = true ↔ ∃ d, validB d = true ∧ ruleTx d = l := by
  constructor
  · intro h
    unfold goodS at h
    split at h
    · cases h
    · rename_i d ok _
      simp only [Bool.and_eq_true, beq_iff_eq] at h
      exact ⟨d, h.2.1, h.2.2⟩
  · rintro ⟨d, hv, rfl⟩
    unfold goodS
    rw [parseS_tx hv]
    simp [hv]
theorem good_same (l : List UInt8) : goodS l = goodB l := by
  rw [Bool.eq_iff_iff, goodS_iff, good_iff]
theorem parseS_good {l : List UInt8} {d : Rl} {ok : Bool} (h : parseS l = some (d, ok)) (hg : goodS l = true) : parseR l = d := by
  obtain ⟨e, hv, rfl⟩ := goodS_iff.1 hg
  rw [parseS_tx hv] at h
  cases h
  exact parseR_tx hv
end Go.Proofs.YtinocfehjdlohaaDoor
