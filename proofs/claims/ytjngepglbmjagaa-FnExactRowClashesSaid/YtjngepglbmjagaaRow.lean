/-
  ROWS: a slice of structs of three numbers reads as a flat list of numbers, three to an element. What the laws' own helpers do with such slices.
-/
import Derived.Test.YtjngepglbmjagaaLawI
import Derived.Deep.RegionHeld3
namespace Go.Proofs.Ytjngepglbmjagaa
open Go.ChangeShapes Go.WideShapes Go.ChangeAt Go.RowKit
set_option linter.unusedVariables false

/-- field j of row k -/
def fld (zs : List Int) (k j : Nat) : Int := zs[k * 3 + j]?.getD 0
/-- a row as a value -/
def rowV (zs : List Int) (k : Nat) : Value := .agg #[.int .i64 (fld zs k 0), .int .i64 (fld zs k 1), .int .i64 (fld zs k 2)]
theorem Rd.len3 {w : World} {B n : Nat} {A : Option Addr} {zs : List Int} (h : Rd w B 3 A n (ints zs)) : zs.length = n * 3 := by have := h.1; simpa [ints] using this
/-- the address of a later field, as the walk spells it -/
theorem add_fld (ad : Addr) (k j : Nat) (hj : 0 < j) : ad.add (k + j) = { block := (ad.add k).block, off := (ad.add k).off + j } := by
  rw [← add_twice]
  have : j ≠ 0 := by omega
  simp [Addr.add, this]
theorem Rd.row {w : World} {B n : Nat} {A : Option Addr} {zs : List Int} {k : Nat} (h : Rd w B 3 A n (ints zs)) (hk : k < n) :
    ∃ ad, A = some ad ∧ ad.block < B ∧ w.cell? (ad.add (k * 3)) = some (.int .i64 (fld zs k 0)) ∧ w.cell? { block := (ad.add (k * 3)).block, off := (ad.add (k * 3)).off + 1 } = some (.int .i64 (fld zs k 1)) ∧
      w.cell? { block := (ad.add (k * 3)).block, off := (ad.add (k * 3)).off + 2 } = some (.int .i64 (fld zs k 2)) := by
  obtain ⟨ad, e, hb, hc⟩ := h.2 (by omega)
  have hl := h.len3
  refine ⟨ad, e, hb, hc _ _ (ints_getD (zs := zs) (k := k * 3) (by omega)), ?_, ?_⟩
  · rw [← add_fld ad (k * 3) 1 (by omega)]; exact hc _ _ (ints_getD (zs := zs) (k := k * 3 + 1) (by omega))
  · rw [← add_fld ad (k * 3) 2 (by omega)]; exact hc _ _ (ints_getD (zs := zs) (k := k * 3 + 2) (by omega))
set_option maxHeartbeats 400000 in
theorem eqRow_yes (x y z : Int) (w : World) : Calls Try.prog 65 #[.agg #[.int .i64 x, .int .i64 y, .int .i64 z], .agg #[.int .i64 x, .int .i64 y, .int .i64 z]] w fun e w' => e = .returned (.bool true) ∧ Below w.heap.size w w' := by
  go_enter Try.func65, Try.ntmps65
  go_wp2
  go_ret
  exact ⟨rfl, ((Below.refl w.heap.size w).alloc (Nat.le_refl _) _).alloc (by rw [World.size_alloc]; omega) _⟩
theorem szRowS_yes (A : Option Addr) (n c : Nat) (w : World) (hn : n ≤ 1048576) :
    Calls Try.prog 30 #[.slice A n c, .int .i64 1048576] w fun e w' => e = .returned (.int .i64 (1048576 - n)) ∧ w = w' := by
  go_enter Try.func30, Try.ntmps30
  go_wp2
  go_ret
  exact ⟨rfl, rfl⟩
theorem szRowS_no (A : Option Addr) (n c : Nat) (w : World) (hn : 1048576 < n) (hm : n ≤ 9223372036854775807) :
    Calls Try.prog 30 #[.slice A n c, .int .i64 1048576] w fun e w' => e = .returned (.int .i64 (-1)) ∧ w = w' := by
  go_enter Try.func30, Try.ntmps30
  go_wp2
  go_ret
  exact ⟨rfl, rfl⟩
theorem results_cell0 {P : Program} {fn : Func} {p : Tmp} {ty : TypeId} (h : fn.results = #[.cell p ty]) (tmps : Array Value) (w : World) :
    (results fn tmps).run P w = ((asAddr (tmps.getD p undef)).run P w).andThen fun a w₁ => (loadVar ty a).run P w₁ := by
  simp only [results, h]
  simp [Sem.run_bind, Result.andThen]
theorem results_cell1 {P : Program} {fn : Func} {p : Tmp} {ty : TypeId} (h : fn.results = #[.cell p ty]) (tmps : Array Value) (w : World) {ad : Addr} {v : Value} (ha : tmps.getD p undef = .pointer (some ad)) (hl : (loadVar ty ad).run P w = .ok v w) :
    (results fn tmps).run P w = .ok v w := by
  rw [results_cell0 h, ha]
  exact hl
set_option maxHeartbeats 400000 in
theorem toRow_any (x y z : Int) (w : World) : Calls Try.prog 62 #[.agg #[.int .i64 x, .int .i64 y, .int .i64 z]] w fun e w' => e = .returned (.agg #[.int .i64 x, .int .i64 y, .int .i64 z]) ∧ Below w.heap.size w w' := by
  go_enter Try.func62, Try.ntmps62
  go_wp2
  (try simp only [Exit.inBlock, Exit.then])
  refine bodyPost_ret (v := .agg #[.int .i64 x, .int .i64 y, .int .i64 z]) (results_cell1 rfl _ _ rfl ?_) rfl ⟨rfl, (((Below.refl w.heap.size w).alloc (Nat.le_refl _) _).alloc (by rw [World.size_alloc]; omega) _).alloc (by rw [World.size_alloc, World.size_alloc]; omega) _⟩
  go_simp

theorem info_row : (Try.prog.info? 63).map (fun i => (i.zero, i.size, i.bytes)) = some (some (.agg #[.int .i64 0, .int .i64 0, .int .i64 0]), 3, 24) := by kernel_rfl
theorem own_len3 {w : World} {base : Nat} {e : TypeId} {n : Nat} {v : Value} {xs : List Value} (h : w.ownsRow base e 3 v n xs) : xs.length = n * 3 := by simpa using h.1
theorem own_cell3 {w : World} {base : Nat} {e : TypeId} {n cap g : Nat} {cs : List Value} (h : w.ownsRow base e 3 (.slice (some ⟨g, 0, none⟩) n cap) n cs) {k : Nat} (hk : k < n * 3) : ∃ u, w.cell? ⟨g, k, none⟩ = some u := by
  have hl := own_len3 h
  exact ⟨_, (h.cellAt k (by omega)).trans (List.getElem?_eq_getElem (by omega))⟩
theorem own_block3 {w : World} {base : Nat} {e : TypeId} {s n cap g : Nat} {cs : List Value} (h : w.ownsRow base e s (.slice (some ⟨g, 0, none⟩) n cap) n cs) : base ≤ g ∧ g < w.heap.size := h.lt g rfl
/-- three cells filled -/
theorem fill_step3 {cs xs : List Value} {k : Nat} {x y z : Value} (h : ∀ j, j < k * 3 → cs[j]? = xs[j]?) (hl : k * 3 + 2 < cs.length) (hx : xs[k * 3]? = some x) (hy : xs[k * 3 + 1]? = some y) (hz : xs[k * 3 + 2]? = some z) :
    ∀ j, j < (k + 1) * 3 → (((cs.set (k * 3) x).set (k * 3 + 1) y).set (k * 3 + 2) z)[j]? = xs[j]? := by
  have h1 := fill_step h (by omega) hx
  have h2 := fill_step h1 (by rw [List.length_set]; omega) hy
  have h3 := fill_step h2 (by rw [List.length_set, List.length_set]; omega) hz
  intro j hj
  exact h3 j (by omega)
theorem fill_round3 {a w : World} {base : Nat} {e : TypeId} {n cap g k : Nat} {cs xs : List Value} {x y z : Value} (hB : a.heap.size ≤ base) (hown : w.ownsRow base e 3 (.slice (some ⟨g, 0, none⟩) n cap) n cs) (hb : Below a.heap.size a w)
    (hf : ∀ j, j < k * 3 → cs[j]? = xs[j]?) (hk : k < n) (hx : xs[k * 3]? = some x) (hy : xs[k * 3 + 1]? = some y) (hz : xs[k * 3 + 2]? = some z) :
    ∃ cs' : List Value, (((w.setCell ⟨g, k * 3, none⟩ x).setCell ⟨g, k * 3 + 1, none⟩ y).setCell ⟨g, k * 3 + 2, none⟩ z).ownsRow base e 3 (.slice (some ⟨g, 0, none⟩) n cap) n cs' ∧ (∀ j, j < (k + 1) * 3 → cs'[j]? = xs[j]?) ∧
      Below a.heap.size a (((w.setCell ⟨g, k * 3, none⟩ x).setCell ⟨g, k * 3 + 1, none⟩ y).setCell ⟨g, k * 3 + 2, none⟩ z) := by
  have hl := own_len3 hown
  have hg := (own_block3 hown).1
  have o1 := (hown.stored (k * 3) x).1
  have o2 := (o1.stored (k * 3 + 1) y).1
  have o3 := (o2.stored (k * 3 + 2) z).1
  exact ⟨_, o3, fill_step3 hf (by omega) hx hy hz, ((hb.setCell (p := ⟨g, k * 3, none⟩) (by simp only; omega) x).setCell (p := ⟨g, k * 3 + 1, none⟩) (by simp only; omega) y).setCell (p := ⟨g, k * 3 + 2, none⟩) (by simp only; omega) z⟩
set_option maxHeartbeats 800000 in
theorem toRowS_any (A : Option Addr) (n c : Nat) (zs : List Int) (w : World) (hr : Rd w w.heap.size 3 A n (ints zs)) (hn : n ≤ 1048576) :
    Calls Try.prog 32 #[.slice A n c] w fun e w' => ∃ g, e = .returned (.slice (some ⟨g, 0, none⟩) n n) ∧ w'.ownsRow w.heap.size 63 3 (.slice (some ⟨g, 0, none⟩) n n) n (ints zs) ∧ Below w.heap.size w w' := by
  obtain ⟨i0, hi, hz0, hz1, hz2⟩ := info_parts info_row
  go_enter Try.func32, Try.ntmps32
  go_wp2_with (at_make; refine wpList_make_full _ rfl (.tmp 6) (.tmp 6) 41 rfl w.heap.size 63 i0 (.agg #[.int .i64 0, .int .i64 0, .int .i64 0]) 3 Try.underlying41 hi hz0 hz1 .i64 .i64 _ _ n rfl rfl rfl rfl (by rw [hz2]; omega) (by unfold maxLen; omega) (Nat.le_refl _) ?_; intro w1 hown hg)
  have hb := Below.grown (Below.refl w.heap.size w) hg (Nat.le_refl _) (by simp)
  clear hg
  obtain ⟨g, hg⟩ : ∃ g, g = w.heap.size := ⟨_, rfl⟩
  rw [← hg] at hown ⊢
  have HG := Lib.hid hg
  clear hg
  go_loopw [4] (fun i wr => ∃ (k : Nat) (cs : List Value), k ≤ n ∧ i = .int .i64 k ∧ wr.ownsRow w.heap.size 63 3 (.slice (some ⟨g, 0, none⟩) n n) n cs ∧ (∀ j, j < k * 3 → cs[j]? = (ints zs)[j]?) ∧ Below w.heap.size w wr) (fun i _ => n - (intOf i).toNat)
  case atStart => exact ⟨0, _, Nat.zero_le _, rfl, by rw [HG.out]; rw [HG.out] at hown; exact hown, by omega, hb⟩
  case round =>
    obtain ⟨k, cs, hk, rfl, hown', hf, hb'⟩ := hrel
    clear hown hb
    have HL := Lib.hid hr.len3
    by_cases hlt : k < n
    · obtain ⟨ad, rfl, _, hc0, hc1, hc2⟩ := (hr.below hb').row hlt
      have hx := Lib.hid (ints_getD (zs := zs) (k := k * 3) (by have := HL.out; omega))
      have hy := Lib.hid (ints_getD (zs := zs) (k := k * 3 + 1) (by have := HL.out; omega))
      have hz := Lib.hid (ints_getD (zs := zs) (k := k * 3 + 2) (by have := HL.out; omega))
      have HF := Lib.hid hf
      clear hf hr
      obtain ⟨x, hx2⟩ : ∃ x, x = fld zs k 0 := ⟨_, rfl⟩
      obtain ⟨y, hy2⟩ : ∃ y, y = fld zs k 1 := ⟨_, rfl⟩
      obtain ⟨z, hz2'⟩ : ∃ z, z = fld zs k 2 := ⟨_, rfl⟩
      have HX := Lib.hid (show (ints zs)[k * 3]? = some (.int .i64 x) by rw [hx2]; exact hx.out)
      have HY := Lib.hid (show (ints zs)[k * 3 + 1]? = some (.int .i64 y) by rw [hy2]; exact hy.out)
      have HZ := Lib.hid (show (ints zs)[k * 3 + 2]? = some (.int .i64 z) by rw [hz2']; exact hz.out)
      rw [← hx2] at hc0
      rw [← hy2] at hc1
      rw [← hz2'] at hc2
      clear hx hy hz hx2 hy2 hz2'
      go_wp2_with fail
      refine (toRow_any x y z _).mono ?_
      rintro e w2 ⟨rfl, hb2⟩
      replace hown' := own_on hown' hb2
      replace hb' := below_step hb' hb2
      clear hb2 hc0 hc1 hc2
      obtain ⟨u0, hu0⟩ := own_cell3 hown' (k := k * 3) (by omega)
      obtain ⟨u1, hu1⟩ := own_cell3 hown' (k := k * 3 + 1) (by omega)
      obtain ⟨u2, hu2⟩ := own_cell3 hown' (k := k * 3 + 2) (by omega)
      have hf0 := hown'.frozenAt (k * 3)
      have hf1 := hown'.frozenAt (k * 3 + 1)
      have hf2 := hown'.frozenAt (k * 3 + 2)
      have HS := Lib.hid (fill_round3 (Nat.le_refl _) hown' hb' HF.out hlt HX.out HY.out HZ.out)
      clear HX HY HZ HF
      go_wp2_with fail
      go_roundw
      case rel => obtain ⟨cs', h1, h2, h3⟩ := HS.out; exact ⟨k + 1, cs', by omega, by go_num, h1, h2, h3⟩
      case measure => simp [intOf]; omega
    · obtain rfl : n = k := by omega
      have hcs := fill_done hf (own_len3 hown') (by rw [ints_length]; exact HL.out)
      subst hcs
      clear hf hr
      go_wp2
      go_ret
      exact ⟨g, rfl, hown', hb'⟩

set_option maxHeartbeats 1600000 in
theorem eqRowS_yes (A B : Option Addr) (n c d : Nat) (zs : List Int) (w : World) (hr : Rd w w.heap.size 3 A n (ints zs)) (hs : Rd w w.heap.size 3 B n (ints zs)) (hn : n ≤ 2097152) :
    Calls Try.prog 34 #[.slice A n c, .slice B n d] w fun e w' => e = .returned (.bool true) ∧ Below w.heap.size w w' := by
  go_enter Try.func34, Try.ntmps34
  go_wp2
  go_loopw [5] (fun i wr => ∃ k : Nat, k ≤ n ∧ i = .int .i64 k ∧ Below w.heap.size w wr) (fun i _ => n - (intOf i).toNat)
  case atStart => exact ⟨0, Nat.zero_le _, rfl, Below.refl _ _⟩
  case round =>
    obtain ⟨k, hk, rfl, hb⟩ := hrel
    by_cases hlt : k < n
    · obtain ⟨ad, rfl, ka, hc0, hc1, hc2⟩ := (hr.below hb).row hlt
      obtain ⟨ae, rfl, kb, hd0, hd1, hd2⟩ := (hs.below hb).row hlt
      have hsz := hb.size
      have hz : (0 : Int) ≤ k := by omega
      have hlt' : (k : Int) < n := by omega
      obtain ⟨x, hx2⟩ : ∃ x, x = fld zs k 0 := ⟨_, rfl⟩
      obtain ⟨y, hy2⟩ : ∃ y, y = fld zs k 1 := ⟨_, rfl⟩
      obtain ⟨z, hz2⟩ : ∃ z, z = fld zs k 2 := ⟨_, rfl⟩
      rw [← hx2] at hc0 hd0
      rw [← hy2] at hc1 hd1
      rw [← hz2] at hc2 hd2
      have q1 : (ad.add (k * 3)).block < wr.heap.size := by rw [add_block]; omega
      have q2 : (ae.add (k * 3)).block < wr.heap.size := by rw [add_block]; omega
      have KEEP := Lib.hid (fun (w' : World) (h : Below wr.heap.size wr w') => show (fun w' => w'.cell? (ad.add (k * 3)) = some (.int .i64 x) ∧ w'.cell? { block := (ad.add (k * 3)).block, off := (ad.add (k * 3)).off + 1 } = some (.int .i64 y) ∧ w'.cell? { block := (ad.add (k * 3)).block, off := (ad.add (k * 3)).off + 2 } = some (.int .i64 z) ∧ w'.cell? (ae.add (k * 3)) = some (.int .i64 x) ∧ w'.cell? { block := (ae.add (k * 3)).block, off := (ae.add (k * 3)).off + 1 } = some (.int .i64 y) ∧ w'.cell? { block := (ae.add (k * 3)).block, off := (ae.add (k * 3)).off + 2 } = some (.int .i64 z)) w' from ⟨(h.cell q1).trans hc0, (h.cell (p := { block := (ad.add (k * 3)).block, off := (ad.add (k * 3)).off + 1 }) q1).trans hc1, (h.cell (p := { block := (ad.add (k * 3)).block, off := (ad.add (k * 3)).off + 2 }) q1).trans hc2, (h.cell q2).trans hd0, (h.cell (p := { block := (ae.add (k * 3)).block, off := (ae.add (k * 3)).off + 1 }) q2).trans hd1, (h.cell (p := { block := (ae.add (k * 3)).block, off := (ae.add (k * 3)).off + 2 }) q2).trans hd2⟩)
      clear hr hs hx2 hy2 hz2 q1 q2 ka kb hsz
      go_wp2
      go_region_held3 (fun w' => w'.cell? (ad.add (k * 3)) = some (.int .i64 x) ∧ w'.cell? { block := (ad.add (k * 3)).block, off := (ad.add (k * 3)).off + 1 } = some (.int .i64 y) ∧ w'.cell? { block := (ad.add (k * 3)).block, off := (ad.add (k * 3)).off + 2 } = some (.int .i64 z) ∧ w'.cell? (ae.add (k * 3)) = some (.int .i64 x) ∧ w'.cell? { block := (ae.add (k * 3)).block, off := (ae.add (k * 3)).off + 1 } = some (.int .i64 y) ∧ w'.cell? { block := (ae.add (k * 3)).block, off := (ae.add (k * 3)).off + 2 } = some (.int .i64 z))
        (first | go_keep | exact KEEP.out _ ⟨hb2.os, hb2.tape, hb2.output, hb2.size, hb2.block⟩)
        (first | (go_at_call 65; refine (eqRow_yes _ _ _ _).mono ?_; rintro e w' ⟨rfl, hb2⟩))
      go_wp2_with fail
      exact ⟨⟨k + 1, by omega, by go_num, below_step (below_drewN hb 1) hb2⟩, by simp [intOf]; omega⟩
    · go_wp2
      go_ret
      exact ⟨rfl, hb⟩

/-- three cells marked -/
theorem mark_round3 {a w : World} {base : Nat} {e : TypeId} {n cap g k : Nat} {cs xs : List Value} {x y z : Value} (hown : w.ownsRow base e 3 (.slice (some ⟨g, 0, none⟩) n cap) n cs) (hg : a.grownBy w (some g))
    (hf : ∀ j, j < k * 3 → cs[j]? = xs[j]?) (hk : k < n) (hx : xs[k * 3]? = some x) (hy : xs[k * 3 + 1]? = some y) (hz : xs[k * 3 + 2]? = some z) :
    ∃ cs' : List Value, (((w.setCell ⟨g, k * 3, none⟩ x).setCell ⟨g, k * 3 + 1, none⟩ y).setCell ⟨g, k * 3 + 2, none⟩ z).ownsRow base e 3 (.slice (some ⟨g, 0, none⟩) n cap) n cs' ∧ (∀ j, j < (k + 1) * 3 → cs'[j]? = xs[j]?) ∧
      a.grownBy (((w.setCell ⟨g, k * 3, none⟩ x).setCell ⟨g, k * 3 + 1, none⟩ y).setCell ⟨g, k * 3 + 2, none⟩ z) (some g) := by
  have hl := own_len3 hown
  have o1 := hown.stored (k * 3) x
  have o2 := o1.1.stored (k * 3 + 1) y
  have o3 := o2.1.stored (k * 3 + 2) z
  exact ⟨_, o3.1, fill_step3 hf (by omega) hx hy hz, grown_trans (grown_trans (grown_trans hg o1.2) o2.2) o3.2⟩
set_option maxHeartbeats 800000 in
theorem markRowS_any (v : Value) (base n : Nat) (k : Int) (cs : List Value) (w : World) (ho : w.ownsRow base 63 3 v n cs) (hn : n ≤ 2097152) (hk0 : 0 ≤ k) (hk1 : k ≤ 1099511627776) :
    Calls Try.prog 37 #[v, .int .i64 k] w fun e w' => e = .returned (.int .i64 (k + 3 * n)) ∧ w'.ownsRow base 63 3 v n (ints (up k (n * 3))) ∧ w.grownBy w' v.ownBlock := by
  obtain ⟨A, c, rfl, _⟩ := own_form ho
  go_enter Try.func37, Try.ntmps37
  go_wp2
  go_loopw [1, 5] (fun q i wr => ∃ (j : Nat) (cs : List Value), j ≤ n ∧ i = .int .i64 j ∧ q = .int .i64 (k + 3 * j) ∧ wr.ownsRow base 63 3 (.slice A n c) n cs ∧ (∀ i, i < j * 3 → cs[i]? = (ints (up k (n * 3)))[i]?) ∧ w.grownBy wr (Value.slice A n c).ownBlock) (fun _ i _ => n - (intOf i).toNat)
  case atStart => exact ⟨0, cs, Nat.zero_le _, rfl, by go_num, ho, by omega, World.grownBy.refl _ _⟩
  case round =>
    obtain ⟨j, cs, hj, rfl, rfl, hown, hf, hg⟩ := hrel
    clear ho
    by_cases hlt : j < n
    · obtain ⟨g, rfl⟩ := own_head hown (by omega)
      obtain ⟨u0, hu0⟩ := own_cell3 hown (k := j * 3) (by omega)
      obtain ⟨u1, hu1⟩ := own_cell3 hown (k := j * 3 + 1) (by omega)
      obtain ⟨u2, hu2⟩ := own_cell3 hown (k := j * 3 + 2) (by omega)
      have hf0 := hown.frozenAt (j * 3)
      have hf1 := hown.frozenAt (j * 3 + 1)
      have hf2 := hown.frozenAt (j * 3 + 2)
      have HS := Lib.hid (mark_round3 hown hg hf hlt (up_cell k (n * 3) (j * 3) (by omega)) (up_cell k (n * 3) (j * 3 + 1) (by omega)) (up_cell k (n * 3) (j * 3 + 2) (by omega)))
      have e0 : k + ((j * 3 : Nat) : Int) = k + 3 * j := by omega
      have e1 : k + ((j * 3 + 1 : Nat) : Int) = k + 3 * j + 1 := by omega
      have e2 : k + ((j * 3 + 2 : Nat) : Int) = k + 3 * j + 1 + 1 := by omega
      rw [e0, e1, e2] at HS
      clear hf hg e0 e1 e2
      go_wp2
      go_roundw
      case rel => obtain ⟨cs', h1, h2, h3⟩ := HS.out; exact ⟨j + 1, cs', by omega, by go_num, by go_num, h1, h2, h3⟩
      case measure => simp [intOf]; omega
    · obtain rfl : n = j := by omega
      have hcs := fill_done hf (own_len3 hown) (by rw [ints_length, up_length])
      subst hcs
      clear hf
      go_wp2
      go_ret
      exact ⟨rfl, hown, hg⟩
end Go.Proofs.Ytjngepglbmjagaa
