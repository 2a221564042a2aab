/-
  CONTRACTS OF THE LAWS' OWN HELPERS ON RULES: the size, the copy, the comparison, the marks and the look at the marks.
-/
import Derived.Test.YtmfglflahlddbaaRu
import Derived.Test.YtmfglflahlddbaaNum
import Derived.Deep.RegionHeld3
namespace Go.Proofs.Ytmfglflahlddbaa
open Go.ChangeShapes Go.WideShapes Go.ChangeAt Go.RowKit
set_option linter.unusedVariables false

theorem bcell {W W1 : World} (hb : Below W.heap.size W W1) : (∀ b o, b < W.heap.size → W1.cell? ⟨b, o, none⟩ = W.cell? ⟨b, o, none⟩) ∧ (∀ b o, b < W.heap.size → W1.frozen? ⟨b, o, none⟩ = W.frozen? ⟨b, o, none⟩) :=
  ⟨fun b o h => hb.cell (p := ⟨b, o, none⟩) h, fun b o h => hb.frozen (p := ⟨b, o, none⟩) h⟩
theorem own_far {w : World} {base : Nat} {e : TypeId} {size n : Nat} {v : Value} {xs : List Value} (h : w.ownsRow base e size v n xs) {p : Addr} (hp : p.block < base) (u : Value) : (w.setCell p u).ownsRow base e size v n xs := by
  refine ⟨h.1, ?_⟩
  rcases h.2 with hn | ⟨g, cap, cur, rfl, hg, hgg, rest⟩
  · exact .inl hn
  · exact .inr ⟨g, cap, cur, rfl, hg, (Below.heap_setCell w p u g (by omega)).trans hgg, rest⟩
theorem results_cell0 {P : Program} {fn : Func} {p : Tmp} {ty : TypeId} (h : fn.results = #[.cell p ty]) (tmps : Array Value) (w : World) :
    (results fn tmps).run P w = ((asAddr (tmps.getD p undef)).run P w).andThen fun a w₁ => (loadVar ty a).run P w₁ := by
  simp only [results, h]
  simp [Sem.run_bind, Result.andThen]
theorem results_cell1 {P : Program} {fn : Func} {p : Tmp} {ty : TypeId} (h : fn.results = #[.cell p ty]) (tmps : Array Value) (w : World) {ad : Addr} {v : Value} (ha : tmps.getD p undef = .pointer (some ad)) (hl : (loadVar ty ad).run P w = .ok v w) :
    (results fn tmps).run P w = .ok v w := by
  rw [results_cell0 h, ha]
  exact hl
theorem szInt64S_any (A : Option Addr) (n c : Nat) (k : Int) (w : World) (hk : 0 ≤ k ∧ k ≤ 1048576) (hn : n ≤ 9223372036854775807) :
    Calls Try.prog 18 #[.slice A n c, .int .i64 k] w fun e w' => e = .returned (.int .i64 (if k < n then -1 else k - n)) ∧ w = w' := by
  by_cases h : k < n
  · rw [if_pos h]
    go_enter Try.func18, Try.ntmps18
    go_wp2
    go_ret
    exact ⟨rfl, rfl⟩
  · rw [if_neg h]
    go_enter Try.func18, Try.ntmps18
    go_wp2
    go_ret
    exact ⟨rfl, rfl⟩
set_option maxHeartbeats 800000 in
theorem toRule_any (hd fr tt rk : Int) (A : Option Addr) (n c : Nat) (ifs : List Int) (w : World) (hr : Rd w w.heap.size 1 A n (ints ifs)) (hn : n ≤ 1048576) :
    Calls Try.prog 23 #[.agg #[.int .i64 hd, .slice A n c, .int .i64 fr, .int .i64 tt, .int .i64 rk]] w fun e w' => ∃ g, e = .returned (.agg #[.int .i64 hd, .slice (some ⟨g, 0, none⟩) n n, .int .i64 fr, .int .i64 tt, .int .i64 rk]) ∧
      w'.ownsRow w.heap.size tI 1 (.slice (some ⟨g, 0, none⟩) n n) n (ints ifs) ∧ Below w.heap.size w w' := by
  go_enter Try.func23, Try.ntmps23
  go_wp2_with fail
  refine (toInt64S_any _ _ _ ifs _ ((((hr.alloc (Nat.le_refl _) _).alloc (by simp) _).alloc (by simp; omega) _).more (by simp; omega)) hn).mono ?_
  rintro e w1 ⟨g, rfl, ho, hb⟩
  obtain ⟨hc, hf⟩ := bcell hb
  have hz : w.heap.size + 2 < w1.heap.size := by have := hb.size; simp at this; omega
  have HO := Lib.hid ho
  have HB := Lib.hid hb
  clear ho hb hr
  go_wp2_with fail
  (try simp only [Exit.inBlock, Exit.then])
  refine bodyPost_ret (v := .agg #[.int .i64 hd, .slice (some ⟨g, 0, none⟩) n n, .int .i64 fr, .int .i64 tt, .int .i64 rk]) (results_cell1 rfl _ _ rfl ?_) rfl ⟨g, rfl, ?_, ?_⟩
  · clear HO HB
    go_simp
  · refine own_base (base := w.heap.size + 3) ?_ (by omega)
    repeat (refine own_far ?_ (by simp only; omega) _)
    exact own_base HO.out (by simp)
  · repeat (refine Below.setCell ?_ (by simp only; omega) _)
    exact ((((Below.refl _ _).alloc (Nat.le_refl _) _).alloc (by simp) _).alloc (by simp; omega) _).trans (HB.out.mono (by simp; omega))

/-! ### the copy of a slice of rules -/
theorem own_cellN {w : World} {base : Nat} {e : TypeId} {s n cap g : Nat} {cs : List Value} (h : w.ownsRow base e s (.slice (some ⟨g, 0, none⟩) n cap) n cs) {k : Nat} (hk : k < n * s) : ∃ u, w.cell? ⟨g, k, none⟩ = some u := by
  have hl := h.1
  exact ⟨_, (h.cellAt k (by omega)).trans (List.getElem?_eq_getElem (by omega))⟩
theorem own_blockN {w : World} {base : Nat} {e : TypeId} {s n cap g : Nat} {cs : List Value} (h : w.ownsRow base e s (.slice (some ⟨g, 0, none⟩) n cap) n cs) : base ≤ g ∧ g < w.heap.size := h.lt g rfl
/-- a slice of rules whose first k rules are laid -/
def Part (w : World) (lo g m k : Nat) (rs : List Ru) : Prop :=
  ∃ cs : List Value, w.ownsRow lo tR 5 (.slice (some ⟨g, 0, none⟩) m m) m cs ∧ (∀ j, j < k * 5 → cs[j]? = (flat rs)[j]?) ∧ rs.length = k ∧ (∀ r ∈ rs, w.ownsRow lo tI 1 r.V r.n (ints r.ifs)) ∧ ∀ (i j : Nat) (a b : Ru), rs[i]? = some a → rs[j]? = some b → i ≠ j → Apart a b
theorem apart_snoc {w : World} {lo h' : Nat} {rs : List Ru} {r' : Ru} (h : ∀ (i j : Nat) (a b : Ru), rs[i]? = some a → rs[j]? = some b → i ≠ j → Apart a b) (hlt : ∀ r ∈ rs, ∀ g, r.V.ownBlock = some g → g < h') (hge : ∀ g, r'.V.ownBlock = some g → h' ≤ g) :
    ∀ (i j : Nat) (a b : Ru), (rs ++ [r'])[i]? = some a → (rs ++ [r'])[j]? = some b → i ≠ j → Apart a b := by
  have key : ∀ (i : Nat) (a : Ru), (rs ++ [r'])[i]? = some a → (i < rs.length ∧ rs[i]? = some a) ∨ (i = rs.length ∧ a = r') := fun i a ha => by
    by_cases hi : i < rs.length
    · rw [List.getElem?_append_left hi] at ha; exact .inl ⟨hi, ha⟩
    · rw [List.getElem?_append_right (by omega)] at ha
      have : i - rs.length = 0 := by
        rcases Nat.eq_zero_or_pos (i - rs.length) with h0 | h0
        · exact h0
        · rw [List.getElem?_eq_none (by simp; omega)] at ha; cases ha
      rw [this] at ha
      simp at ha
      exact .inr ⟨by omega, ha.symm⟩
  intro i j a b ha hb hij
  unfold Apart
  rcases key i a ha with ⟨h1, h2⟩ | ⟨h1, rfl⟩
  · rcases key j b hb with ⟨h3, h4⟩ | ⟨h3, rfl⟩
    · exact h i j a b h2 h4 hij
    · cases hx : a.V.ownBlock with
      | none => exact .inl rfl
      | some g =>
        right
        intro he
        have := hlt a (List.mem_of_getElem? h2) g hx
        have := hge g he.symm
        omega
  · rcases key j b hb with ⟨h3, h4⟩ | ⟨h3, rfl⟩
    · cases hx : a.V.ownBlock with
      | none => exact .inl rfl
      | some g =>
        right
        intro he
        have := hlt b (List.mem_of_getElem? h4) g he.symm
        have := hge g hx
        omega
    · omega
theorem set5 {cs xs : List Value} {k : Nat} {r : Ru} (h : ∀ j, j < k * 5 → cs[j]? = xs[j]?) (hl : k * 5 + 4 < cs.length) (hx : ∀ j, j < 5 → xs[k * 5 + j]? = r.cells[j]?) :
    ∀ j, j < (k + 1) * 5 → (((((cs.set (k * 5) (.int .i64 r.hd)).set (k * 5 + 1) (.slice r.A r.n r.c)).set (k * 5 + 2) (.int .i64 r.fr)).set (k * 5 + 3) (.int .i64 r.tt)).set (k * 5 + 4) (.int .i64 r.rk))[j]? = xs[j]? := by
  have h1 := fill_step h (by omega) (hx 0 (by omega))
  have h2 := fill_step h1 (by rw [List.length_set]; omega) (hx 1 (by omega))
  have h3 := fill_step h2 (by simp only [List.length_set]; omega) (hx 2 (by omega))
  have h4 := fill_step h3 (by simp only [List.length_set]; omega) (hx 3 (by omega))
  have h5 := fill_step h4 (by simp only [List.length_set]; omega) (hx 4 (by omega))
  intro j hj
  exact h5 j (by omega)
theorem part_step {wr w2 : World} {lo g m k hd' : Nat} {rs : List Ru} {r : Ru} (h : Part wr lo g m k rs) (hk : k < m) (hb : Below wr.heap.size wr w2) (hlo : lo ≤ wr.heap.size) (ho : w2.ownsRow wr.heap.size tI 1 r.V r.n (ints r.ifs)) :
    Part (((((w2.setCell ⟨g, k * 5, none⟩ (.int .i64 r.hd)).setCell ⟨g, k * 5 + 1, none⟩ (.slice r.A r.n r.c)).setCell ⟨g, k * 5 + 2, none⟩ (.int .i64 r.fr)).setCell ⟨g, k * 5 + 3, none⟩ (.int .i64 r.tt)).setCell ⟨g, k * 5 + 4, none⟩ (.int .i64 r.rk)) lo g m (k + 1) (rs ++ [r]) ∧
      w2.grownBy (((((w2.setCell ⟨g, k * 5, none⟩ (.int .i64 r.hd)).setCell ⟨g, k * 5 + 1, none⟩ (.slice r.A r.n r.c)).setCell ⟨g, k * 5 + 2, none⟩ (.int .i64 r.fr)).setCell ⟨g, k * 5 + 3, none⟩ (.int .i64 r.tt)).setCell ⟨g, k * 5 + 4, none⟩ (.int .i64 r.rk)) (some g) := by
  obtain ⟨cs, h1, h2, h3, h4, h5⟩ := h
  have hlt : ∀ a ∈ rs, ∀ g, a.V.ownBlock = some g → g < wr.heap.size := fun a ha g hg => ((h4 a ha).lt g hg).2
  have o0 := own_on h1 hb
  have hl := o0.1
  have o1 := o0.stored (k * 5) (.int .i64 r.hd)
  have o2 := o1.1.stored (k * 5 + 1) (.slice r.A r.n r.c)
  have o3 := o2.1.stored (k * 5 + 2) (.int .i64 r.fr)
  have o4 := o3.1.stored (k * 5 + 3) (.int .i64 r.tt)
  have o5 := o4.1.stored (k * 5 + 4) (.int .i64 r.rk)
  have hg := grown_trans (grown_trans (grown_trans (grown_trans o1.2 o2.2) o3.2) o4.2) o5.2
  refine ⟨⟨_, o5.1, ?_, by rw [List.length_append, h3]; rfl, fun a ha => ?_, apart_snoc (w := w2) (lo := lo) h5 hlt fun g hg => (ho.lt g hg).1⟩, hg⟩
  · refine set5 (r := r) (fun j hj => ?_) (by omega) (fun j hj => ?_)
    · rw [flat_append, List.getElem?_append_left (by rw [flat_length]; omega)]
      exact h2 j hj
    · rw [flat_append, List.getElem?_append_right (by rw [flat_length]; omega), flat_length, h3, show k * 5 + j - k * 5 = j by omega, flat_cons, flat_nil, List.append_nil]
  · have key : ∀ b : Ru, w2.ownsRow lo tI 1 b.V b.n (ints b.ifs) → (((((w2.setCell ⟨g, k * 5, none⟩ (.int .i64 r.hd)).setCell ⟨g, k * 5 + 1, none⟩ (.slice r.A r.n r.c)).setCell ⟨g, k * 5 + 2, none⟩ (.int .i64 r.fr)).setCell ⟨g, k * 5 + 3, none⟩ (.int .i64 r.tt)).setCell ⟨g, k * 5 + 4, none⟩ (.int .i64 r.rk)).ownsRow lo tI 1 b.V b.n (ints b.ifs) := fun b hb2 =>
      World.ownsRow.kept hb2 hg (own_kinds hb2 o0 (Ne.symm tR_ne_tI))
    rcases List.mem_append.1 ha with ha | ha
    · exact key a (own_on (h4 a ha) hb)
    · simp at ha
      subst ha
      exact key a (own_base ho hlo)
theorem part_done {w : World} {lo g m : Nat} {rs : List Ru} (h : Part w lo g m m rs) : OwnRs w lo (.slice (some ⟨g, 0, none⟩) m m) m rs := by
  obtain ⟨cs, h1, h2, h3, h4, h5⟩ := h
  have : cs = flat rs := fill_done (n := m * 5) h2 (by simpa using h1.1) (by rw [flat_length, h3])
  subst this
  exact ⟨h1, h4, h5⟩
set_option maxHeartbeats 1600000 in
theorem toRuleS_any (A : Option Addr) (m c : Nat) (rs : List Ru) (w : World) (hr : RRd w w.heap.size A m rs) (hm : m ≤ 1048576) (hn : ∀ r ∈ rs, r.n ≤ 1048576) :
    Calls Try.prog 7 #[.slice A m c] w fun e w' => ∃ g rs', e = .returned (.slice (some ⟨g, 0, none⟩) m m) ∧ rs'.map Ru.dat = rs.map Ru.dat ∧ OwnRs w' w.heap.size (.slice (some ⟨g, 0, none⟩) m m) m rs' ∧ Below w.heap.size w w' := by
  obtain ⟨i0, hi, hz0, hz1, hz2⟩ := info_parts info_rule
  have HN := Lib.hid hn
  have HL := Lib.hid hr.len
  clear hn
  go_enter Try.func7, Try.ntmps7
  go_wp2_with (at_make; refine wpList_make_full _ rfl (.tmp 6) (.tmp 6) 29 rfl w.heap.size tR i0 (.agg #[.int .i64 0, .slice none 0 0, .int .i64 0, .int .i64 0, .int .i64 0]) 5 Try.underlying29 hi hz0 hz1 .i64 .i64 _ _ m rfl rfl rfl rfl (by rw [hz2]; omega) (by unfold maxLen; omega) (Nat.le_refl _) ?_; intro w1 hown hg)
  have hb := Below.grown (Below.refl w.heap.size w) hg (Nat.le_refl _) (by simp)
  clear hg
  obtain ⟨g, hg⟩ : ∃ g, g = w.heap.size := ⟨_, rfl⟩
  rw [← hg] at hown ⊢
  have HG := Lib.hid hg
  clear hg
  go_loopw [4] (fun i wr => ∃ (k : Nat) (rs' : List Ru), k ≤ m ∧ i = .int .i64 k ∧ rs'.map Ru.dat = (rs.take k).map Ru.dat ∧ Part wr w.heap.size g m k rs' ∧ Below w.heap.size w wr) (fun i _ => m - (intOf i).toNat)
  case atStart => exact ⟨0, [], Nat.zero_le _, rfl, rfl, ⟨_, by rw [HG.out]; rw [HG.out] at hown; exact hown, by omega, rfl, fun r hr => (by cases hr), fun i j a b h => by simp at h⟩, hb⟩
  case round =>
    obtain ⟨k, rs', hk, rfl, hd, hpart, hb'⟩ := hrel
    clear hown hb
    have HD := Lib.hid hd
    have HP := Lib.hid hpart
    clear hd hpart
    by_cases hlt : k < m
    · obtain ⟨ad, r, rfl, _, hk', hc0, hc1, hc2, hc3, hc4, hri⟩ := (hr.below hb').row hlt
      have HRI := Lib.hid (hri.more hb'.size)
      have hrn := HN.out r (List.mem_of_getElem? hk')
      have HK := Lib.hid hk'
      have HB := Lib.hid hb'
      clear hr hri hk'
      obtain ⟨hd, fr, tt, rk, Ai, ni, ci, ifs⟩ := r
      dsimp only at hc0 hc1 hc2 hc3 hc4 hrn HRI HK
      go_wp2_with fail
      refine (toRule_any hd fr tt rk Ai ni ci ifs _ HRI.out hrn).mono ?_
      rintro e w2 ⟨g', rfl, ho, hb2⟩
      obtain ⟨cs, q1, _⟩ := HP.out
      have q2 := own_on q1 hb2
      have HS := Lib.hid (part_step (hd' := 0) (r := ⟨hd, fr, tt, rk, some ⟨g', 0, none⟩, ni, ni, ifs⟩) HP.out hlt hb2 HB.out.size ho)
      have HB2 := Lib.hid (below_step HB.out hb2)
      have hgb := (own_blockN q1).1
      obtain ⟨u0, hu0⟩ := own_cellN q2 (k := k * 5) (by omega)
      obtain ⟨u1, hu1⟩ := own_cellN q2 (k := k * 5 + 1) (by omega)
      obtain ⟨u2, hu2⟩ := own_cellN q2 (k := k * 5 + 2) (by omega)
      obtain ⟨u3, hu3⟩ := own_cellN q2 (k := k * 5 + 3) (by omega)
      obtain ⟨u4, hu4⟩ := own_cellN q2 (k := k * 5 + 4) (by omega)
      have hf0 := q2.frozenAt (k * 5)
      have hf1 := q2.frozenAt (k * 5 + 1)
      have hf2 := q2.frozenAt (k * 5 + 2)
      have hf3 := q2.frozenAt (k * 5 + 3)
      have hf4 := q2.frozenAt (k * 5 + 4)
      clear q1 q2 ho hb2 hc0 hc1 hc2 hc3 hc4 hb'
      go_wp2_with fail
      go_roundw
      case rel =>
        obtain ⟨s1, s2⟩ := HS.out
        refine ⟨k + 1, _, by omega, by go_num, ?_, s1, HB2.out.grown s2 HB2.out.size (fun j hj => by cases hj; exact hgb)⟩
        rw [List.map_append, HD.out, List.take_add_one, HK.out, List.map_append]; rfl
      case measure => simp [intOf]; omega
    · obtain rfl : m = k := by omega
      clear hr
      go_wp2
      go_ret
      exact ⟨g, rs', rfl, by have := HD.out; rwa [List.take_of_length_le (by have := HL.out; omega)] at this, part_done HP.out, hb'⟩
end Go.Proofs.Ytmfglflahlddbaa
