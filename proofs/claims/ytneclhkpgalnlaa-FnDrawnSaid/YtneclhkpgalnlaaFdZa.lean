/-
  FnDrawn: the plain law: the steady draw lasts, one more does not.
-/
import Derived.Test.YtneclhkpgalnlaaShO
import Derived.Test.YtneclhkpgalnlaaFrame
namespace Go.Proofs.Ytneclhkpgalnlaa
open Go.ChangeShapes Go.WideShapes Go.ChangeAt Go.RowKit
set_option linter.unusedVariables false

/-! ### the search by halves -/
theorem safeIt_spec {p : Int → Bool} : ∀ (f : Nat) (lo hi : Int), lo ≤ hi → hi - lo ≤ f → p lo = true → p (hi + 1) = false → lo ≤ safeIt p f lo hi ∧ safeIt p f lo hi ≤ hi ∧ p (safeIt p f lo hi) = true ∧ p (safeIt p f lo hi + 1) = false := by
  intro f
  induction f with
  | zero =>
    intro lo hi h1 h2 h3 h4
    have : lo = hi := by omega
    subst this
    exact ⟨Int.le_refl _, Int.le_refl _, h3, h4⟩
  | succ f ih =>
    intro lo hi h1 h2 h3 h4
    show lo ≤ (if lo < hi then _ else _) ∧ (if lo < hi then _ else _) ≤ hi ∧ p (if lo < hi then _ else _) = true ∧ p ((if lo < hi then _ else _) + 1) = false
    by_cases h : lo < hi
    · simp only [if_pos h]
      cases hp : p ((lo + hi + 1) / 2) with
      | true =>
        simp only [if_true]
        obtain ⟨a, b, c, d⟩ := ih ((lo + hi + 1) / 2) hi (by omega) (by omega) hp h4
        exact ⟨by omega, b, c, d⟩
      | false =>
        simp only [Bool.false_eq_true, if_false]
        obtain ⟨a, b, c, d⟩ := ih lo ((lo + hi + 1) / 2 - 1) (by omega) (by omega) h3 (by rw [Int.sub_add_cancel]; exact hp)
        exact ⟨a, by omega, c, d⟩
    · simp only [if_neg h]
      have : lo = hi := by omega
      subst this
      exact ⟨Int.le_refl _, Int.le_refl _, h3, h4⟩

/-! ### years -/
/-- Rates of the law. -/
def Tame (rs : List Int) : Prop := rs.length ≤ 10 ∧ ∀ k, k < rs.length → -700 ≤ rs[k]?.getD 0 ∧ rs[k]?.getD 0 ≤ 1290
theorem draw_bound {s d M : Int} {rs : List Int} (hs : 0 ≤ s ∧ s ≤ 10000) (hd : 0 ≤ d) (hr : Tame rs) (hM : 1000000000000 ≤ M) : ∀ k, k ≤ rs.length → 0 ≤ (drawAt s rs d M k).1 ∧ (drawAt s rs d M k).1 ≤ 10000 * 2 ^ k := by
  intro k
  induction k with
  | zero => intro _; exact ⟨hs.1, by simpa [drawAt] using hs.2⟩
  | succ k ih =>
    intro hk
    obtain ⟨h1, h2⟩ := ih (by omega)
    have hrk := hr.2 k (by omega)
    have e : drawAt s rs d M (k + 1) = dStep d M (rs[k]?.getD 0) (drawAt s rs d M k) := rfl
    rw [e]
    unfold dStep
    split
    · rename_i hp
      dsimp only
      obtain ⟨u, hu⟩ : ∃ u, u = (drawAt s rs d M k).1 := ⟨_, rfl⟩
      rw [← hu] at h1 h2 hp ⊢
      obtain ⟨r, hr'⟩ : ∃ r, r = rs[k]?.getD 0 := ⟨_, rfl⟩
      rw [← hr'] at hrk ⊢
      have hle : (u - d) * (10000 + r) ≤ u * 20000 := by
        have a1 : (u - d) * (10000 + r) ≤ u * (10000 + r) := Int.mul_le_mul_of_nonneg_right (by omega) (by omega)
        have a2 : u * (10000 + r) ≤ u * 20000 := Int.mul_le_mul_of_nonneg_left (by omega) h1
        omega
      have h0 : 0 ≤ (u - d) * (10000 + r) := Int.mul_nonneg (by omega) (by omega)
      have hq : (u - d) * (10000 + r) / 10000 ≤ u * 2 := by
        have := Int.ediv_le_ediv (c := 10000) (by omega) hle
        have e2 : u * 20000 / 10000 = u * 2 := by omega
        omega
      have hq0 : 0 ≤ (u - d) * (10000 + r) / 10000 := Int.ediv_nonneg h0 (by omega)
      have : (10000 : Int) * 2 ^ (k + 1) = 10000 * 2 ^ k * 2 := by rw [Int.pow_succ]; omega
      rw [this]
      constructor <;> omega
    · dsimp only
      have : (0 : Int) ≤ 10000 * 2 ^ (k + 1) := by
        have : (0 : Int) ≤ 2 ^ (k + 1) := Int.pow_nonneg (by omega)
        omega
      exact ⟨Int.le_refl _, this⟩
theorem pow_le (k : Nat) (h : k ≤ 10) : (2 : Int) ^ k ≤ 1024 := by
  have : k = 0 ∨ k = 1 ∨ k = 2 ∨ k = 3 ∨ k = 4 ∨ k = 5 ∨ k = 6 ∨ k = 7 ∨ k = 8 ∨ k = 9 ∨ k = 10 := by omega
  rcases this with rfl | rfl | rfl | rfl | rfl | rfl | rfl | rfl | rfl | rfl | rfl <;> decide
end Go.Proofs.Ytneclhkpgalnlaa
namespace Go.Proofs.Ytneclhkpgalnlaa
open Go.ChangeShapes Go.WideShapes Go.ChangeAt Go.RowKit
set_option linter.unusedVariables false

section
variable {s d M : Int} {rs : List Int}
theorem draw_small (hs : 0 ≤ s ∧ s ≤ 10000) (hd : 0 ≤ d) (hr : Tame rs) (hM : 1000000000000 ≤ M) {k : Nat} (hk : k ≤ rs.length) : 0 ≤ (drawAt s rs d M k).1 ∧ (drawAt s rs d M k).1 ≤ 10240000 := by
  have h := draw_bound hs hd hr hM k hk
  have hp := pow_le k (by have := hr.1; omega)
  omega
theorem step_small {u r : Int} (hu : 0 ≤ u ∧ u ≤ 10240000) (hd : 0 ≤ d) (h : d ≤ u) (hr : -700 ≤ r ∧ r ≤ 1290) : 0 ≤ (u - d) * (10000 + r) / 10000 ∧ (u - d) * (10000 + r) / 10000 ≤ 20480000 := by
  have h0 : 0 ≤ (u - d) * (10000 + r) := Int.mul_nonneg (by omega) (by omega)
  have a1 : (u - d) * (10000 + r) ≤ u * (10000 + r) := Int.mul_le_mul_of_nonneg_right (by omega) (by omega)
  have a2 : u * (10000 + r) ≤ u * 20000 := Int.mul_le_mul_of_nonneg_left (by omega) hu.1
  omega
theorem dstep_plain {u y r : Int} (hu : 0 ≤ u ∧ u ≤ 10240000) (hd : 0 ≤ d) (hr : -700 ≤ r ∧ r ≤ 1290) (hM : 1000000000000 ≤ M) : dStep d M r (u, y) = if d ≤ u then ((u - d) * (10000 + r) / 10000, y + 1) else (0, y) := by
  unfold dStep
  split
  · rename_i h
    have := step_small hu hd h hr
    dsimp only
    rw [Int.min_eq_left (by omega)]
  · rfl
theorem draw_next (hs : 0 ≤ s ∧ s ≤ 10000) (hd : 0 ≤ d) (hr : Tame rs) (hM : 1000000000000 ≤ M) {k : Nat} (hk : k < rs.length) : drawAt s rs d M (k + 1) = if d ≤ (drawAt s rs d M k).1 then (((drawAt s rs d M k).1 - d) * (10000 + rs[k]?.getD 0) / 10000, (drawAt s rs d M k).2 + 1) else (0, (drawAt s rs d M k).2) := by
  have h := draw_small hs hd hr hM (k := k) (by omega)
  have e : drawAt s rs d M (k + 1) = dStep d M (rs[k]?.getD 0) (drawAt s rs d M k) := rfl
  rw [e]
  exact dstep_plain (u := (drawAt s rs d M k).1) (y := (drawAt s rs d M k).2) h hd (hr.2 k hk) hM
/-- The greatest value that is kept matters not. -/
theorem draw_max (hs : 0 ≤ s ∧ s ≤ 10000) (hd : 0 ≤ d) (hr : Tame rs) (hM : 1000000000000 ≤ M) : ∀ k, k ≤ rs.length → drawAt s rs d M k = drawAt s rs d 1000000000000 k := by
  intro k
  induction k with
  | zero => intro _; rfl
  | succ k ih =>
    intro hk
    rw [draw_next hs hd hr hM (by omega), draw_next hs hd hr (by omega) (by omega), ih (by omega)]
theorem years_form (hs : 0 ≤ s ∧ s ≤ 10000) (hd : 0 ≤ d) (hr : Tame rs) (hM : 1000000000000 ≤ M) : ∀ k : Nat, k ≤ rs.length → (drawAt s rs d M k).2 = k ∨ ((drawAt s rs d M k).1 = 0 ∧ 0 < d ∧ 0 ≤ (drawAt s rs d M k).2 ∧ (drawAt s rs d M k).2 < k) := by
  intro k
  induction k with
  | zero => intro _; exact .inl rfl
  | succ k ih =>
    intro hk
    have h := draw_small hs hd hr hM (k := k) (by omega)
    rw [draw_next hs hd hr hM (by omega)]
    rcases ih (by omega) with h1 | ⟨h1, h2, h3, h4⟩
    · split
      · exact .inl (by dsimp only; omega)
      · exact .inr ⟨rfl, by omega, by dsimp only; omega, by dsimp only; omega⟩
    · rw [if_neg (by omega)]
      exact .inr ⟨rfl, h2, h3, by dsimp only; omega⟩
theorem lasts_all {d : Int} (h : lasts s rs d = true) (k : Nat) (hk : k ≤ rs.length) : (drawAt s rs d 1000000000000 k).2 = k := by
  unfold lasts at h
  have h := of_decide_eq_true h
  have h1 := (draw_years s rs d 1000000000000 0 k).1
  have h2 := (draw_years s rs d 1000000000000 k (rs.length - k)).1
  rw [show k + (rs.length - k) = rs.length from by omega] at h2
  rw [Nat.zero_add] at h1
  have h0 : (drawAt s rs d 1000000000000 0).2 = 0 := rfl
  omega
theorem lasts_paid (hs : 0 ≤ s ∧ s ≤ 10000) (hd : 0 ≤ d) (hr : Tame rs) (h : lasts s rs d = true) (k : Nat) (hk : k < rs.length) : d ≤ (drawAt s rs d 1000000000000 k).1 := by
  have h1 := lasts_all h k (by omega)
  have h2 := lasts_all h (k + 1) (by omega)
  rw [draw_next hs hd hr (by omega) hk] at h2
  by_cases hp : d ≤ (drawAt s rs d 1000000000000 k).1
  · exact hp
  · rw [if_neg hp] at h2
    dsimp only at h2
    omega
/-- What lasts with more, lasts with less. -/
theorem lasts_less {d' : Int} (hs : 0 ≤ s ∧ s ≤ 10000) (hd : 0 ≤ d) (hdd : d ≤ d') (hr : Tame rs) (h : lasts s rs d' = true) : lasts s rs d = true := by
  have key : ∀ k : Nat, k ≤ rs.length → (drawAt s rs d' 1000000000000 k).1 ≤ (drawAt s rs d 1000000000000 k).1 ∧ (drawAt s rs d 1000000000000 k).2 = k := by
    intro k
    induction k with
    | zero => intro _; exact ⟨Int.le_refl _, rfl⟩
    | succ k ih =>
      intro hk
      obtain ⟨h1, h2⟩ := ih (by omega)
      have hp := lasts_paid hs (by omega) hr h k (by omega)
      have hrk := hr.2 k (by omega)
      rw [draw_next hs (by omega) hr (by omega) (by omega), draw_next hs hd hr (by omega) (by omega), if_pos hp, if_pos (by omega)]
      refine ⟨?_, by dsimp only; omega⟩
      dsimp only
      exact Int.ediv_le_ediv (by omega) (Int.mul_le_mul_of_nonneg_right (by omega) (by omega))
  unfold lasts
  rw [decide_eq_true_eq]
  exact (key rs.length (Nat.le_refl _)).2
theorem lasts_zero (hs : 0 ≤ s ∧ s ≤ 10000) (hr : Tame rs) : lasts s rs 0 = true := by
  unfold lasts
  rw [decide_eq_true_eq]
  rcases years_form (M := 1000000000000) hs (Int.le_refl 0) hr (by omega) rs.length (Nat.le_refl _) with h | ⟨_, h, _⟩
  · exact h
  · omega
/-- ████ THE STEADY DRAW ████ -/
theorem steady (hs : 0 ≤ s ∧ s ≤ 10000) (hr : Tame rs) (h1 : 1 ≤ rs.length) : 0 ≤ safeR s rs ∧ safeR s rs ≤ s ∧ ∀ e, 0 ≤ e → lasts s rs e = decide (e ≤ safeR s rs) := by
  have hno : lasts s rs (s + 1) = false := lasts_not (k := 0) (by omega) (show ¬ (s + 1 ≤ s) by omega)
  obtain ⟨a, b, c, d⟩ := safeIt_spec (p := lasts s rs) s.toNat 0 s hs.1 (by omega) (lasts_zero hs hr) hno
  refine ⟨a, b, fun e he => ?_⟩
  by_cases h : e ≤ safeR s rs
  · rw [lasts_less hs he h hr c]
    simp [h]
  · have : lasts s rs e = false := by
      cases hl : lasts s rs e
      · rfl
      · have := lasts_less (d := safeR s rs + 1) (d' := e) hs (by unfold safeR at *; omega) (by omega) hr hl
        have hd : lasts s rs (safeR s rs + 1) = false := d
        rw [hd] at this; cases this
    rw [this]
    simp [h]
theorem safe_zero (rs : List Int) : safeR 0 rs = 0 := rfl
theorem down_ok (hs : 0 ≤ s ∧ s ≤ 10000) (hd : 0 ≤ d ∧ d ≤ 1000000) (hr : Tame rs) (h1 : 1 ≤ rs.length) : downFull s rs d = true := by
  have hc : cntIn rs 1 60 (-9999) 10000 = true := by
    refine cntIn_iff.2 ⟨by omega, by have := hr.1; omega, ?_⟩
    unfold allIn
    rw [List.all_eq_true]
    intro z hz
    obtain ⟨k, hk, rfl⟩ := List.mem_iff_getElem.1 hz
    have := hr.2 k hk
    rw [List.getElem?_eq_getElem hk, Option.getD_some] at this
    exact inB_iff.2 (by omega)
  have ha : allIn (drawTo s rs d 1000000000001 rs.length) 0 1000000000000 = true := by
    unfold allIn drawTo
    rw [List.all_eq_true]
    intro z hz
    obtain ⟨k, hk, rfl⟩ := List.mem_map.1 hz
    have hk := List.mem_range.1 hk
    have := draw_small (M := 1000000000001) hs hd.1 hr (by omega) (k := k + 1) (by omega)
    exact inB_iff.2 (by omega)
  unfold downFull downOk
  rw [hc, ha, inB_iff.2 (by omega : (0 : Int) ≤ s ∧ s ≤ 1000000000000), inB_iff.2 (by omega : (0 : Int) ≤ d ∧ d ≤ 1000000000000)]
  rfl
end
end Go.Proofs.Ytneclhkpgalnlaa
namespace Go.Proofs.Ytneclhkpgalnlaa
open Go.ChangeShapes Go.WideShapes Go.ChangeAt Go.RowKit
set_option linter.unusedVariables false
def byts (bs : List Int) : List Value := bs.map (Value.int .u8)
def Byt (bs : List Int) : Prop := ∀ b ∈ bs, 0 ≤ b ∧ b ≤ 255
theorem byts_length (bs : List Int) : (byts bs).length = bs.length := by simp [byts]
theorem Rd.blen {w : World} {B n : Nat} {A : Option Addr} {bs : List Int} (h : Rd w B 1 A n (byts bs)) : bs.length = n := by have := h.len; simpa [byts] using this
theorem Rd.byt {w : World} {B n : Nat} {A : Option Addr} {bs : List Int} {k : Nat} (h : Rd w B 1 A n (byts bs)) (hk : k < n) : ∃ ad, A = some ad ∧ w.cell? (ad.add k) = some (.int .u8 (bs[k]?.getD 0)) := by
  obtain ⟨ad, u, e, _, hx, hc⟩ := h.at_ hk
  have hl := h.blen
  unfold byts at hx
  rw [List.getElem?_map, List.getElem?_eq_getElem (by omega)] at hx
  simp only [Option.map_some, Option.some.injEq] at hx
  subst hx
  exact ⟨ad, e, by rw [List.getElem?_eq_getElem (show k < bs.length by omega)]; exact hc⟩
/-- A number below m. -/
def r8 (bs : List Int) (i m : Int) : Int := if m ≤ 1 then 0 else if (bs.length : Int) ≤ i then 0 else (bs[i.toNat]?.getD 0) % m
theorem r8_bd {bs : List Int} {i m : Int} (h : 1 ≤ m) : 0 ≤ r8 bs i m ∧ r8 bs i m ≤ m - 1 := by
  unfold r8
  split
  · omega
  · split
    · omega
    · have h1 := Int.emod_nonneg (bs[i.toNat]?.getD 0) (show m ≠ 0 by omega)
      have h2 := Int.emod_lt_of_pos (bs[i.toNat]?.getD 0) (show 0 < m by omega)
      omega
set_option maxHeartbeats 1600000 in
theorem r8At_any (A : Option Addr) (n c : Nat) (bs : List Int) (i : Nat) (m : Int) (w : World) (hr : Rd w w.heap.size 1 A n (byts bs)) (hb : Byt bs) (hi : i ≤ 1000) (hm : 2 ≤ m ∧ m ≤ 1000) :
    Calls Try.prog 12 #[.slice A n c, .int .i64 i, .int .i64 m] w fun e w' => e = .returned (.int .i64 (r8 bs i m)) ∧ w = w' := by
  have HL := Lib.hid hr.blen
  have HB := Lib.hid hb
  clear hb
  by_cases h : i < n
  · obtain ⟨ad, rfl, hc⟩ := hr.byt h
    have hv := Lib.hid (show r8 bs i m = (bs[i]?.getD 0) % m by
      have := HL.out
      unfold r8
      rw [if_neg (by omega), if_neg (by omega)]
      simp)
    have hbd := HB.out _ (getD_mem (zs := bs) (k := i) (by have := HL.out; omega))
    obtain ⟨y, hy⟩ : ∃ y, y = bs[i]?.getD 0 := ⟨_, rfl⟩
    rw [← hy] at hc hbd
    have HY := Lib.hid hy
    have ht := Lib.hid (show y.tmod m = y % m from Int.tmod_eq_emod_of_nonneg hbd.1)
    have hbd2 : 0 ≤ y % m ∧ y % m < m := ⟨Int.emod_nonneg y (by omega), Int.emod_lt_of_pos y (by omega)⟩
    clear hy
    go_enter Try.func12, Try.ntmps12
    go_wp2_with fail
    go_ret
    exact ⟨by rw [hv.out, ← HY.out]; rfl, rfl⟩
  · have hv := Lib.hid (show r8 bs i m = 0 by
      have := HL.out
      unfold r8
      rw [if_neg (by omega), if_pos (by omega)])
    go_enter Try.func12, Try.ntmps12
    go_wp2_with fail
    go_ret
    exact ⟨by rw [hv.out]; rfl, rfl⟩
theorem r8At_int (A : Option Addr) (n c : Nat) (bs : List Int) (i m : Int) (w : World) (hr : Rd w w.heap.size 1 A n (byts bs)) (hb : Byt bs) (hi : 0 ≤ i ∧ i ≤ 1000) (hm : 2 ≤ m ∧ m ≤ 1000) :
    Calls Try.prog 12 #[.slice A n c, .int .i64 i, .int .i64 m] w fun e w' => e = .returned (.int .i64 (r8 bs i m)) ∧ w = w' := by
  obtain ⟨k, rfl⟩ := Int.eq_ofNat_of_zero_le hi.1
  exact r8At_any A n c bs k m w hr hb (by omega) hm
theorem r8Long_any (A B : Option Addr) (n c m d : Nat) (w : World) (hn : n ≤ 1000000000) (hm : m ≤ 1000000000) :
    Calls Try.prog 11 #[.slice A n c, .slice B m d] w fun e w' => e = .returned (.bool (decide (48 < n) || decide (48 < m))) ∧ w = w' := by
  go_enter Try.func11, Try.ntmps11
  go_wp2
  all_goals go_ret
  all_goals refine ⟨?_, rfl⟩
  all_goals refine ret_bool ?_
  all_goals first | (simp; done) | (simp; omega) | (rw [Bool.eq_iff_iff]; simp; omega)
end Go.Proofs.Ytneclhkpgalnlaa
