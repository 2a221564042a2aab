/-
  CONTRACTS OF THE LAWS' OWN HELPERS ON SLICES OF WHOLE NUMBERS: the copy, the comparison of equal lists, the marks and the look at the marks.
-/
import Derived.Test.YtmfglflahlddbaaMem
import Derived.BigQuiet
import Derived.Deep.QuietTactic
namespace Go.Proofs.Ytmfglflahlddbaa
open Go.ChangeShapes Go.WideShapes Go.ChangeAt Go.RowKit

theorem info_i64 : (Try.prog.info? 2).map (fun i => (i.zero, i.size, i.bytes)) = some (some (.int .i64 0), 1, 8) := by kernel_rfl

/-! ### lists that are filled from the front -/
theorem fill_step {cs xs : List Value} {k : Nat} {u : Value} (h : ∀ j, j < k → cs[j]? = xs[j]?) (hl : k < cs.length) (hu : xs[k]? = some u) : ∀ j, j < k + 1 → (cs.set k u)[j]? = xs[j]? := by
  intro j hj
  rw [List.getElem?_set]
  by_cases e : k = j
  · subst e; rw [if_pos rfl, if_pos hl, hu]
  · rw [if_neg e]; exact h j (by omega)
theorem fill_done {cs xs : List Value} {n : Nat} (h : ∀ j, j < n → cs[j]? = xs[j]?) (h1 : cs.length = n) (h2 : xs.length = n) : cs = xs := by
  refine List.ext_getElem? fun j => ?_
  by_cases hj : j < n
  · exact h j hj
  · rw [List.getElem?_eq_none (by omega), List.getElem?_eq_none (by omega)]
/-- what marks leave: k, k + 1, .. -/
def up (k : Int) (n : Nat) : List Int := (List.range n).map fun i : Nat => k + (i : Int)
theorem up_length (k : Int) (n : Nat) : (up k n).length = n := by simp [up]
theorem up_at (k : Int) (n j : Nat) (h : j < n) : (up k n)[j]?.getD 0 = k + j := by simp [up, h]
theorem up_cell (k : Int) (n j : Nat) (h : j < n) : (ints (up k n))[j]? = some (.int .i64 (k + j)) := by
  rw [ints_getD (by rw [up_length]; exact h), up_at k n j h]

/-- a cell of a row that the call owns -/
theorem own_cell {w : World} {base : Nat} {e : TypeId} {n cap g : Nat} {cs : List Value} (h : w.ownsRow base e 1 (.slice (some ⟨g, 0, none⟩) n cap) n cs) {k : Nat} (hk : k < n) : ∃ u, w.cell? ⟨g, k, none⟩ = some u := by
  have hl := own_len h
  exact ⟨_, (h.cellAt k (by omega)).trans (List.getElem?_eq_getElem (by omega))⟩
theorem own_block {w : World} {base : Nat} {e : TypeId} {n cap g : Nat} {cs : List Value} (h : w.ownsRow base e 1 (.slice (some ⟨g, 0, none⟩) n cap) n cs) : base ≤ g ∧ g < w.heap.size := h.lt g rfl
/-- the round of a loop that fills an own row -/
theorem fill_round {a w : World} {base : Nat} {e : TypeId} {n cap g k : Nat} {cs xs : List Value} {u : Value} (hB : a.heap.size ≤ base) (hown : w.ownsRow base e 1 (.slice (some ⟨g, 0, none⟩) n cap) n cs) (hb : Below a.heap.size a w)
    (hf : ∀ j, j < k → cs[j]? = xs[j]?) (hk : k < n) (hu : xs[k]? = some u) :
    ∃ cs' : List Value, (w.setCell ⟨g, k, none⟩ u).ownsRow base e 1 (.slice (some ⟨g, 0, none⟩) n cap) n cs' ∧ (∀ j, j < k + 1 → cs'[j]? = xs[j]?) ∧ Below a.heap.size a (w.setCell ⟨g, k, none⟩ u) := by
  have hl := own_len hown
  refine ⟨_, (hown.stored k u).1, fill_step hf (by omega) hu, hb.setCell (p := ⟨g, k, none⟩) ?_ u⟩
  have := (own_block hown).1
  simp only
  omega

set_option maxHeartbeats 400000 in
theorem toInt64S_any (A : Option Addr) (n c : Nat) (zs : List Int) (w : World) (hr : Rd w w.heap.size 1 A n (ints zs)) (hn : n ≤ 1048576) :
    Calls Try.prog 24 #[.slice A n c] w fun e w' => ∃ g, e = .returned (.slice (some ⟨g, 0, none⟩) n n) ∧ w'.ownsRow w.heap.size 2 1 (.slice (some ⟨g, 0, none⟩) n n) n (ints zs) ∧ Below w.heap.size w w' := by
  obtain ⟨i0, hi, hz0, hz1, hz2⟩ := info_parts info_i64
  go_enter Try.func24, Try.ntmps24
  go_wp2_with (at_make; refine wpList_make_full _ rfl (.tmp 6) (.tmp 6) 26 rfl w.heap.size 2 i0 (.int .i64 0) 1 Try.underlying26 hi hz0 hz1 .i64 .i64 _ _ n rfl rfl rfl rfl (by rw [hz2]; omega) (by unfold maxLen; omega) (Nat.le_refl _) ?_; intro w1 hown hg)
  have hb := Below.grown (Below.refl w.heap.size w) hg (Nat.le_refl _) (by simp)
  clear hg
  obtain ⟨g, hg⟩ : ∃ g, g = w.heap.size := ⟨_, rfl⟩
  rw [← hg] at hown ⊢
  have HG := Lib.hid hg
  clear hg
  go_loopw [4] (fun i wr => ∃ (k : Nat) (cs : List Value), k ≤ n ∧ i = .int .i64 k ∧ wr.ownsRow w.heap.size 2 1 (.slice (some ⟨g, 0, none⟩) n n) n cs ∧ (∀ j, j < k → cs[j]? = (ints zs)[j]?) ∧ Below w.heap.size w wr) (fun i _ => n - (intOf i).toNat)
  case atStart => exact ⟨0, _, Nat.zero_le _, rfl, by rw [HG.out]; rw [HG.out] at hown; exact hown, by omega, hb⟩
  case round =>
    obtain ⟨k, cs, hk, rfl, hown', hf, hb'⟩ := hrel
    clear hown hb
    by_cases hlt : k < n
    · obtain ⟨ad, rfl, hc⟩ := (hr.below hb').int hlt
      obtain ⟨u, hu⟩ := own_cell hown' hlt
      have hfz := hown'.frozenAt k
      have hst := fill_round (Nat.le_refl _) hown' hb' hf hlt (ints_getD (by have := hr.ilen; omega))
      have HS := Lib.hid hst
      clear hst hf hr
      go_wp2
      go_roundw
      case rel => obtain ⟨cs', h1, h2, h3⟩ := HS.out; exact ⟨k + 1, cs', by omega, by go_num, h1, h2, h3⟩
      case measure => simp [intOf]; omega
    · obtain rfl : n = k := by omega
      have hcs := fill_done hf (own_len hown') hr.len
      subst hcs
      clear hf hr
      go_wp2
      go_ret
      exact ⟨g, rfl, hown', hb'⟩

set_option maxHeartbeats 400000 in
theorem eqInt64S_yes (A B : Option Addr) (n c d : Nat) (zs : List Int) (w : World) (hr : Rd w w.heap.size 1 A n (ints zs)) (hs : Rd w w.heap.size 1 B n (ints zs)) (hn : n ≤ 2097152) :
    Calls Try.prog 10 #[.slice A n c, .slice B n d] w fun e w' => e = .returned (.bool true) ∧ Below w.heap.size w w' := by
  go_enter Try.func10, Try.ntmps10
  go_wp2
  go_loopw [5] (fun i wr => ∃ k : Nat, k ≤ n ∧ i = .int .i64 k ∧ Below w.heap.size w wr) (fun i _ => n - (intOf i).toNat)
  case atStart => exact ⟨0, Nat.zero_le _, rfl, Below.refl _ _⟩
  case round =>
    obtain ⟨k, hk, rfl, hb⟩ := hrel
    by_cases hlt : k < n
    · obtain ⟨ad, rfl, hc⟩ := (hr.below hb).int hlt
      obtain ⟨ae, rfl, hd⟩ := (hs.below hb).int hlt
      have hz : (0 : Int) ≤ k := by omega
      have hlt' : (k : Int) < n := by omega
      clear hr hs
      go_wp2
      go_quiet (fail)
      go_wp2
      go_roundw
      case rel => exact ⟨k + 1, by omega, by go_num, below_drewN hb _⟩
      case measure => simp [intOf]; omega
    · go_wp2
      go_ret
      exact ⟨rfl, hb⟩

/-- the row with its first k cells marked -/
theorem mark_round {a w : World} {base : Nat} {e : TypeId} {n cap g k : Nat} {cs xs : List Value} {u : Value} (hown : w.ownsRow base e 1 (.slice (some ⟨g, 0, none⟩) n cap) n cs) (hg : a.grownBy w (some g))
    (hf : ∀ j, j < k → cs[j]? = xs[j]?) (hk : k < n) (hu : xs[k]? = some u) :
    ∃ cs' : List Value, (w.setCell ⟨g, k, none⟩ u).ownsRow base e 1 (.slice (some ⟨g, 0, none⟩) n cap) n cs' ∧ (∀ j, j < k + 1 → cs'[j]? = xs[j]?) ∧ a.grownBy (w.setCell ⟨g, k, none⟩ u) (some g) := by
  have hl := own_len hown
  have hs := hown.stored k u
  exact ⟨_, hs.1, fill_step hf (by omega) hu, grown_trans hg hs.2⟩
set_option maxHeartbeats 400000 in
theorem markInt64S_any (v : Value) (base n : Nat) (k : Int) (cs : List Value) (w : World) (ho : w.ownsRow base 2 1 v n cs) (hn : n ≤ 2097152) (hk0 : 0 ≤ k) (hk1 : k ≤ 1099511627776) :
    Calls Try.prog 15 #[v, .int .i64 k] w fun e w' => e = .returned (.int .i64 (k + n)) ∧ w'.ownsRow base 2 1 v n (ints (up k n)) ∧ w.grownBy w' v.ownBlock := by
  obtain ⟨A, c, rfl, _⟩ := own_form ho
  go_enter Try.func15, Try.ntmps15
  go_wp2
  go_loopw [1, 5] (fun q i wr => ∃ (j : Nat) (cs : List Value), j ≤ n ∧ i = .int .i64 j ∧ q = .int .i64 (k + j) ∧ wr.ownsRow base 2 1 (.slice A n c) n cs ∧ (∀ i, i < j → cs[i]? = (ints (up k n))[i]?) ∧ w.grownBy wr (Value.slice A n c).ownBlock) (fun _ i _ => n - (intOf i).toNat)
  case atStart => exact ⟨0, cs, Nat.zero_le _, rfl, by go_num, ho, by omega, World.grownBy.refl _ _⟩
  case round =>
    obtain ⟨j, cs, hj, rfl, rfl, hown, hf, hg⟩ := hrel
    clear ho
    by_cases hlt : j < n
    · obtain ⟨g, rfl⟩ := own_head hown (by omega)
      obtain ⟨u, hu⟩ := own_cell hown hlt
      have hfz := hown.frozenAt j
      have hst := mark_round hown hg hf hlt (up_cell k n j hlt)
      have HS := Lib.hid hst
      clear hst hf hg
      go_wp2
      go_roundw
      case rel => obtain ⟨cs', h1, h2, h3⟩ := HS.out; exact ⟨j + 1, cs', by omega, by go_num, by go_num, h1, h2, h3⟩
      case measure => simp [intOf]; omega
    · obtain rfl : n = j := by omega
      have hcs := fill_done hf (own_len hown) (by rw [ints_length, up_length])
      subst hcs
      clear hf
      go_wp2
      go_ret
      exact ⟨rfl, hown, hg⟩
set_option maxHeartbeats 400000 in
theorem heldInt64S_any (A : Option Addr) (n c : Nat) (k : Int) (w : World) (hr : Rd w w.heap.size 1 A n (ints (up k n))) (hn : n ≤ 2097152) (hk0 : 0 ≤ k) (hk1 : k ≤ 1099511627776) :
    Calls Try.prog 16 #[.slice A n c, .int .i64 k] w fun e w' => e = .returned (.int .i64 (k + n)) ∧ w = w' := by
  go_enter Try.func16, Try.ntmps16
  go_wp2
  go_loop [1, 5] (fun q i => ∃ j : Nat, j ≤ n ∧ i = .int .i64 j ∧ q = .int .i64 (k + j)) (fun _ i => n - (intOf i).toNat)
  case atStart => exact ⟨0, Nat.zero_le _, rfl, by go_num⟩
  case round =>
    obtain ⟨j, hj, rfl, rfl⟩ := hrel
    by_cases hlt : j < n
    · obtain ⟨ad, rfl, hc⟩ := hr.int hlt
      rw [up_at k n j hlt] at hc
      clear hr
      go_wp2
      go_round
      case rel => exact ⟨j + 1, by omega, by go_num, by go_num⟩
      case measure => simp [intOf]; omega
    · obtain rfl : n = j := by omega
      go_wp2
      go_ret
      exact ⟨rfl, rfl⟩
end Go.Proofs.Ytmfglflahlddbaa
