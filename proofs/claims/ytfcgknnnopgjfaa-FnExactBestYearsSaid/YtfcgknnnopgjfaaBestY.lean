/-
  BestYears: what the program's and the reference's function return.
-/
import Derived.Test.YtfcgknnnopgjfaaList
import Derived.Test.YtfcgknnnopgjfaaCopy
import Derived.Test.YtfcgknnnopgjfaaSortI
import Derived.Deep.QuietTactic
import Derived.BigQuiet
namespace Go.Proofs.Ytfcgknnnopgjfaa
open Go.ChangeShapes Go.WideShapes Go.ChangeAt Go.RowKit
set_option linter.unusedVariables false
set_option linter.unusedSimpArgs false

def bestOk (zs : List Int) (c : Int) : Bool := cntIn zs 1 60 0 1000000000000 && inB c 1 zs.length
def bySum (zs : List Int) (c : Nat) : Int := sumI ((srt zs).drop (zs.length - c))
def BestYears_r0 (zs : List Int) (c : Int) : Int := if bestOk zs c then bySum zs c.toNat / c else 0
def BestYears_r1 (zs : List Int) (c : Int) : Bool := bestOk zs c
def ByIs (zs : List Int) (c : Int) (E : Ending) : Prop := E = .returned (.tuple #[.int .i64 (BestYears_r0 zs c), .bool (BestYears_r1 zs c)])
theorem by_no {zs : List Int} {c : Int} (h : bestOk zs c = false) : ByIs zs c (.returned (.tuple #[.int .i64 0, .bool false])) := by
  unfold ByIs BestYears_r0 BestYears_r1; rw [h]; rfl
theorem by_yes {zs : List Int} {c a : Int} (h : bestOk zs c = true) (ha : bySum zs c.toNat / c = a) : ByIs zs c (.returned (.tuple #[.int .i64 a, .bool true])) := by
  unfold ByIs BestYears_r0 BestYears_r1; rw [h, ← ha]; rfl
theorem small_srt {zs : List Int} (h : Small zs) (k : Nat) : Small ((srt zs).drop k) := fun z hz => h z (srt_mem.1 (List.mem_of_mem_drop hz))
theorem sumI_rev (l : List Int) : sumI l.reverse = sumI l := by
  induction l with
  | nil => rfl
  | cons a l ih => rw [List.reverse_cons, sumI_append, ih, sumI_one, sumI_cons]; omega
theorem sumI_nonneg {l : List Int} (h : ∀ z ∈ l, 0 ≤ z) : 0 ≤ sumI l := by
  induction l with
  | nil => exact Int.le_refl _
  | cons a l ih => rw [sumI_cons]; have := ih fun z hz => h z (List.mem_cons_of_mem _ hz); have := h a (by simp); omega
/-- what the reference sums -/
theorem by_rev {zs L : List Int} {k : Nat} (hp : L.Perm zs) (hs : L.Pairwise (fun x y => y ≤ x)) (hk : k ≤ zs.length) : sumI (L.take k) = bySum zs k := by
  have h1 := eq_srt_rev hp hs
  have h2 : L = (srt zs).reverse := by rw [← h1, List.reverse_reverse]
  unfold bySum
  rw [h2, List.take_reverse, srt_len, sumI_rev]
theorem add_start (g q : Nat) : (⟨g, 0, none⟩ : Addr).add q = ⟨g, q, none⟩ := by cases q <;> simp [Addr.add]
theorem own_setI {a w : World} {base n cap g : Nat} {e : TypeId} {zs : List Int} (h : w.ownsRow base e 1 (.slice (some ⟨g, 0, none⟩) n cap) n (ints zs)) (hB : a.heap.size ≤ base) (hb : Below a.heap.size a w) (k : Nat) (z : Int) :
    (w.setCell ⟨g, k, none⟩ (.int .i64 z)).ownsRow base e 1 (.slice (some ⟨g, 0, none⟩) n cap) n (ints (zs.set k z)) ∧ Below a.heap.size a (w.setCell ⟨g, k, none⟩ (.int .i64 z)) := by
  have h1 := (h.stored k (.int .i64 z)).1
  rw [ints_set] at h1
  refine ⟨h1, hb.setCell (p := ⟨g, k, none⟩) ?_ _⟩
  have := (h.lt g rfl).1
  simp only
  omega
theorem isSome_any (A : Option Addr) (n c : Nat) (zs : List Int) (k : Int) (w : World) (hr : Rd w w.heap.size 1 A n (ints zs)) (hn : n ≤ 1048576) :
    Calls Try.prog 42 #[.slice A n c, .int .i64 k] w fun e w' => e = .returned (.bool (bestOk zs k)) ∧ Below w.heap.size w w' := by
  have hlen := Lib.hid hr.ilen
  cases h1 : cntIn zs 1 60 0 1000000000000
  · have hfin := Lib.hid (show bestOk zs k = false by simp [bestOk, h1])
    go_enter Try.func42, Try.ntmps42
    go_wp2_with fail
    refine (areYears_any _ _ _ zs _ hr (by omega)).mono ?_
    rintro e w' ⟨rfl, hb⟩
    go_wp2_with fail
    go_ret
    exact ⟨ret_bool (by rw [hfin.out]), hb⟩
  · have hfin := Lib.hid (show bestOk zs k = inB k 1 n by simp [bestOk, h1, hlen.out])
    go_enter Try.func42, Try.ntmps42
    go_wp2_with fail
    refine (areYears_any _ _ _ zs _ hr (by omega)).mono ?_
    rintro e w' ⟨rfl, hb⟩
    go_wp2_with (go_at_call 88; refine (within_any _ _ _ _).mono ?_; rintro e w' ⟨rfl, rfl⟩)
    go_ret
    exact ⟨ret_bool (by rw [hfin.out]), hb⟩
set_option maxHeartbeats 800000 in
theorem impl_BestYears (A : Option Addr) (n : Nat) (zs : List Int) (c : Int) (w : World) (hr : Rd w w.heap.size 1 A n (ints zs)) (hn : n ≤ 1048576) (hz : I64s zs) (b1 : -9223372036854775808 ≤ c ∧ c ≤ 9223372036854775807) :
    Calls Try.prog 13 #[.slice A n n, .int .i64 c] w fun E w' => E = .returned (.tuple #[.int .i64 (BestYears_r0 zs c), .bool (BestYears_r1 zs c)]) ∧ Below w.heap.size w w' := by
  show Calls Try.prog _ _ w fun E w' => ByIs zs c E ∧ Below w.heap.size w w'
  cases h1 : bestOk zs c
  · have hfin := Lib.hid (by_no (zs := zs) (c := c) h1)
    go_enter Try.func13, Try.ntmps13
    go_wp2_with fail
    refine (isSome_any _ _ _ zs _ _ hr hn).mono ?_
    rintro e w' ⟨rfl, hb⟩
    rw [h1]
    go_wp2_with fail
    go_ret2
    exact ⟨hfin.out, hb⟩
  obtain ⟨h2, h3⟩ := Bool.and_eq_true _ _ ▸ h1
  have hok := Lib.hid h1
  obtain ⟨_, h4, h5⟩ := cntIn_iff.1 h2
  have h6 := inB_iff.1 h3
  have hlen := hr.ilen
  rw [hlen] at h4 h6
  obtain ⟨k, rfl⟩ := Int.eq_ofNat_of_zero_le (by omega : 0 ≤ c)
  have hk : 1 ≤ k ∧ k ≤ n := by omega
  have hn60 : n ≤ 60 := by omega
  have HL := Lib.hid hlen
  have hsm := Lib.hid (small_of h5 (by omega) (by omega))
  have hnn := Lib.hid (sumI_nonneg (l := (srt zs).drop (n - k)) fun z hz => (allIn_at h5 z (srt_mem.1 (List.mem_of_mem_drop hz))).1)
  obtain ⟨q, hq⟩ : ∃ q, q = n - k := ⟨_, rfl⟩
  have HQ := Lib.hid hq
  have hqi : (n : Int) - (k : Int) = (q : Int) := by omega
  have hqn : q < n := by omega
  have hnq : n - q = k := by omega
  clear h2 h3 h4 h5 h6 hlen hn b1 hq
  go_enter Try.func13, Try.ntmps13
  go_wp2_with fail
  refine (isSome_any _ _ _ zs _ _ hr (by omega)).mono ?_
  rintro e w1 ⟨rfl, hb1⟩
  have hr1 := hr.on hb1
  have HB1 := Lib.hid hb1
  clear hr h1 hb1
  rw [hok.out]
  go_wp2_with fail
  refine (cloneI_any _ _ _ zs _ hr1 (by omega) (by omega)).mono ?_
  rintro e w2 ⟨v, rfl, ho, hb⟩
  obtain ⟨A2, c2, rfl, hc1, hc2⟩ := own_form ho
  have HB2 := Lib.hid (below_step HB1.out hb)
  have hbs := hb.size
  clear hb hr1
  go_wp2_with fail
  refine (sortI_any _ ho (by omega)).mono ?_
  rintro e w3 ⟨rfl, ho3, hg⟩
  have HB3 := Lib.hid (below_grown HB2.out hg (fun g hg => by have := (ho.lt g hg).1; have := HB1.out.size; omega))
  obtain ⟨g, rfl⟩ := own_head ho3 (by omega)
  have HR := Lib.hid ((Rd.of_own ho3).cut (k := q) (cap := c2) (by omega) hc1)
  have hc63 : c2 ≤ 9223372036854775807 := by unfold maxLen at hc2; omega
  have hqc : ¬ c2 = q := by omega
  have i1 : (0 : Int) ≤ q := by omega
  have i2 : (q : Int) ≤ n := by omega
  have i3 : (n : Int) ≤ c2 := by omega
  clear ho ho3 hg hbs hc2
  go_wp2_with fail
  refine (total_any _ _ _ ((srt zs).drop q) _ (by have := HR.out; rw [if_neg hqc, hnq, ints_drop, Option.map_some, add_start] at this; exact this) (by omega) (small_srt hsm.out q)).mono ?_
  rintro e w4 ⟨rfl, rfl⟩
  have hs0 : sumI ((srt zs).drop q) = bySum zs k := by unfold bySum; rw [HQ.out, HL.out]
  have hnn2 : 0 ≤ bySum zs k := by rw [← hs0, HQ.out]; exact hnn.out
  have hub : bySum zs k ≤ 4503599627370496 := by
    have := small_sum (zs := (srt zs).drop q) (small_srt hsm.out q) (by rw [List.length_drop, srt_len, HL.out]; omega) (k := ((srt zs).drop q).length)
    rw [List.take_of_length_le (Nat.le_refl _), hs0] at this
    omega
  rw [hs0]
  obtain ⟨s, hs⟩ : ∃ s, s = bySum zs k := ⟨_, rfl⟩
  rw [← hs] at hnn2 hub ⊢
  have HS := Lib.hid hs
  have hk0 : (0 : Int) < k := by omega
  have hdv : s.tdiv (k : Int) = s / (k : Int) := Int.tdiv_eq_ediv_of_nonneg hnn2
  have hd0 : 0 ≤ s / (k : Int) := Int.ediv_nonneg hnn2 (by omega)
  have hd1 : s / (k : Int) ≤ s := Int.ediv_le_self _ hnn2
  clear hs hs0
  go_wp2_with fail
  go_ret2
  exact ⟨by_yes hok.out (by rw [Int.toNat_natCast, ← HS.out]), HB3.out⟩
/-- one insertion under way: x stands at place k of what was sorted before -/
def insAt (D : List Int) (x : Int) (k : Nat) : List Int := D.take k ++ x :: D.drop k
theorem insAt_len {D : List Int} {x : Int} {k : Nat} (h : k ≤ D.length) : (insAt D x k).length = D.length + 1 := by
  unfold insAt; rw [List.length_append, List.length_cons, List.length_take, List.length_drop]; omega
theorem insAt_at {D : List Int} {x : Int} {k : Nat} (h : k ≤ D.length) : (insAt D x k)[k]?.getD 0 = x := by
  unfold insAt
  rw [List.getElem?_append_right (by rw [List.length_take]; omega), List.length_take, show k - min k D.length = 0 by omega]; rfl
theorem insAt_before {D : List Int} {x : Int} {k : Nat} (h : k < D.length) : (insAt D x (k + 1))[k]?.getD 0 = D[k]?.getD 0 := by
  unfold insAt
  rw [List.getElem?_append_left (by rw [List.length_take]; omega), List.getElem?_take, if_pos (by omega)]
theorem insAt_swap {D : List Int} {x : Int} {k : Nat} (h : k < D.length) : ((insAt D x (k + 1)).set (k + 1) (D[k]?.getD 0)).set k x = insAt D x k := by
  have h0 : D[k]? = some D[k] := List.getElem?_eq_getElem h
  refine List.ext_getElem? fun j => ?_
  have hl : (insAt D x (k + 1)).length = D.length + 1 := insAt_len (by omega)
  rw [List.getElem?_set, List.getElem?_set, List.length_set, hl, h0]
  unfold insAt
  by_cases e1 : k = j
  · subst e1
    rw [if_pos rfl, if_pos (by omega), List.getElem?_append_right (by rw [List.length_take]; omega), List.length_take, show k - min k D.length = 0 by omega]; rfl
  · rw [if_neg e1]
    by_cases e2 : k + 1 = j
    · subst e2
      rw [if_pos rfl, if_pos (by omega), List.getElem?_append_right (by rw [List.length_take]; omega), List.length_take, show k + 1 - min k D.length = 1 by omega, List.getElem?_cons_succ, List.getElem?_drop]
      simp [h0]
    · rw [if_neg e2]
      by_cases e3 : j < k
      · rw [List.getElem?_append_left (by rw [List.length_take]; omega), List.getElem?_append_left (by rw [List.length_take]; omega), List.getElem?_take, List.getElem?_take, if_pos (by omega), if_pos e3]
      · rw [List.getElem?_append_right (by rw [List.length_take]; omega), List.getElem?_append_right (by rw [List.length_take]; omega), List.length_take, List.length_take, show j - min (k + 1) D.length = j - (k + 1) by omega, show j - min k D.length = j - k by omega]
        obtain ⟨u, rfl⟩ : ∃ u, j = k + 2 + u := ⟨j - (k + 2), by omega⟩
        rw [show k + 2 + u - (k + 1) = u + 1 by omega, show k + 2 + u - k = u + 1 + 1 by omega, List.getElem?_cons_succ, List.getElem?_cons_succ, List.getElem?_drop, List.getElem?_drop]
        congr 1
        omega
theorem insAt_perm (D : List Int) (x : Int) (k : Nat) : (insAt D x k).Perm (D ++ [x]) := by
  unfold insAt
  have h1 : (D.take k ++ x :: D.drop k).Perm (x :: (D.take k ++ D.drop k)) := List.perm_middle
  rw [List.take_append_drop] at h1
  exact h1.trans (List.perm_append_comm (l₁ := [x]) (l₂ := D))
theorem insAt_sorted {D : List Int} {x : Int} {k : Nat} (hk : k ≤ D.length) (hD : D.Pairwise (fun x y => y ≤ x)) (h1 : ∀ s ∈ D.drop k, s < x) (h2 : k = 0 ∨ x ≤ D[k - 1]?.getD 0) : (insAt D x k).Pairwise (fun x y => y ≤ x) := by
  unfold insAt
  rw [List.pairwise_append]
  have hp : (D.take k ++ D.drop k).Pairwise (fun x y => y ≤ x) := by rw [List.take_append_drop]; exact hD
  rw [List.pairwise_append] at hp
  refine ⟨hp.1, List.pairwise_cons.2 ⟨fun s hs => by have := h1 s hs; omega, hp.2.1⟩, fun a ha b hb => ?_⟩
  have hax : x ≤ a := by
    rcases h2 with h2 | h2
    · subst h2; simp at ha
    · obtain ⟨j, hj⟩ := List.getElem?_of_mem ha
      rw [List.getElem?_take] at hj
      split at hj
      · rename_i hjk
        obtain ⟨hjl, rfl⟩ := List.getElem?_eq_some_iff.1 hj
        rw [List.getElem?_eq_getElem (by omega : k - 1 < D.length)] at h2
        simp only [Option.getD_some] at h2
        by_cases e : j = k - 1
        · subst e; exact h2
        · have := List.pairwise_iff_getElem.1 hD j (k - 1) hjl (by omega) (by omega)
          omega
      · cases hj
  rcases List.mem_cons.1 hb with rfl | hb
  · exact hax
  · have := h1 b hb; omega
set_option maxRecDepth 100000 in
set_option maxHeartbeats 1600000 in
theorem spec_BestYears (A : Option Addr) (n : Nat) (zs : List Int) (c : Int) (w : World) (hr : Rd w w.heap.size 1 A n (ints zs)) (hn : n ≤ 1048576) (hz : I64s zs) (b1 : -9223372036854775808 ≤ c ∧ c ≤ 9223372036854775807) :
    Calls Try.prog 11 #[.slice A n n, .int .i64 c] w fun E w' => E = .returned (.tuple #[.int .i64 (BestYears_r0 zs c), .bool (BestYears_r1 zs c)]) ∧ Below w.heap.size w w' := by
  show Calls Try.prog _ _ w fun E w' => ByIs zs c E ∧ Below w.heap.size w w'
  cases h2 : cntIn zs 1 60 0 1000000000000
  · have hfin := Lib.hid (by_no (zs := zs) (c := c) (by simp [bestOk, h2]))
    go_enter Try.func11, Try.ntmps11
    go_wp2_with fail
    refine (l06Pays_any _ _ _ zs _ hr (by omega)).mono ?_
    rintro e w' ⟨rfl, rfl⟩
    rw [h2]
    go_wp2_with fail
    go_ret2
    exact ⟨hfin.out, Below.refl _ _⟩
  obtain ⟨_, h4, h5⟩ := cntIn_iff.1 h2
  have hlen := hr.ilen
  rw [hlen] at h4
  cases h3 : inB c 1 n
  · have hfin := Lib.hid (by_no (zs := zs) (c := c) (by simp [bestOk, hlen, h3]))
    go_enter Try.func11, Try.ntmps11
    go_wp2_with fail
    refine (l06Pays_any _ _ _ zs _ hr (by omega)).mono ?_
    rintro e w' ⟨rfl, rfl⟩
    rw [h2]
    go_wp2_with (go_at_call 40; refine (l00In_any _ _ _ _).mono ?_; rintro e w' ⟨rfl, rfl⟩; rw [h3])
    go_ret2
    exact ⟨hfin.out, Below.refl _ _⟩
  have hok := Lib.hid (show bestOk zs c = true by simp [bestOk, h2, hlen, h3])
  have h6 := inB_iff.1 h3
  obtain ⟨k, rfl⟩ := Int.eq_ofNat_of_zero_le (by omega : 0 ≤ c)
  have hk : 1 ≤ k ∧ k ≤ n := by omega
  have hn60 : n ≤ 60 := by omega
  have HL := Lib.hid hlen
  have hsm := Lib.hid (small_of h5 (by omega) (by omega))
  have hall := Lib.hid (allIn_at h5)
  have HH2 := Lib.hid h2
  have HH3 := Lib.hid h3
  clear h4 h5 h6 hlen hn b1 h2 h3
  go_enter Try.func11, Try.ntmps11
  go_wp2_with fail
  refine (l06Pays_any _ _ _ zs _ hr (by omega)).mono ?_
  rintro e w' ⟨rfl, rfl⟩
  rw [HH2.out]
  go_wp2_with (go_at_call 40; refine (l00In_any _ _ _ _).mono ?_; rintro e w' ⟨rfl, rfl⟩; rw [HH3.out])
  go_loopw [6, 7, 8, 9] (fun v i _ _ wr => ∃ (q : Nat) (D : List Int), q ≤ n ∧ i = .int .i64 q ∧ D.length = q ∧ D.Perm (zs.take q) ∧ D.Pairwise (fun x y => y ≤ x) ∧ wr.ownsRow w.heap.size 2 1 v q (ints D) ∧ Below w.heap.size w wr) (fun _ i _ _ _ => n - (intOf i).toNat)
  case atStart => exact ⟨0, [], Nat.zero_le _, rfl, rfl, List.Perm.refl _, List.Pairwise.nil, own_empty _ _, (Below.refl _ _).alloc (Nat.le_refl _) _⟩
  case round =>
    obtain ⟨q, D, hq, rfl, hDl, hDp, hDs, hown, hbw⟩ := hrel
    have HDL := Lib.hid hDl
    have HDP := Lib.hid hDp
    have HDS := Lib.hid hDs
    clear hDl hDp hDs
    by_cases hlt : q < n
    · obtain ⟨ad, rfl, hc⟩ := (hr.below hbw).int hlt
      obtain ⟨x, hx⟩ : ∃ x, x = zs[q]?.getD 0 := ⟨_, rfl⟩
      rw [← hx] at hc
      have HX := Lib.hid hx
      have HXB := Lib.hid (hsm.out x (by rw [hx]; exact getD_mem (by have := HL.out; omega)))
      have htk := Lib.hid (show zs.take (q + 1) = zs.take q ++ [x] by rw [hx]; exact take_snoc zs q 0 (by have := HL.out; omega))
      have HDM := Lib.hid (show ∀ z ∈ D, -1099511627776 ≤ z ∧ z ≤ 1099511627776 from fun z hz => hsm.out z (List.mem_of_mem_take (HDP.out.mem_iff.1 hz)))
      clear hx
      have hq60 : q + 1 ≤ 61 := by omega
      go_wp2_with (at_builtin; refine append_int rfl (.tmp 27) (.tmp 32) rfl w _ q D rfl (hown.alloc _) (hbw.alloc hbw.size _) _ 1 x rfl (by first | exact cell_new _ _ _ | go_simp) (by omega) ?_; intro v' w2 ho2 hb2)
      obtain ⟨A2, c2, rfl, hc1, hc2⟩ := own_form ho2
      obtain ⟨g, rfl⟩ := own_head ho2 (by omega)
      have HO2 := Lib.hid (show w2.ownsRow w.heap.size 2 1 (.slice (some ⟨g, 0, none⟩) (q + 1) c2) (q + 1) (ints (insAt D x q)) by
        unfold insAt; rw [List.take_of_length_le (by have := HDL.out; omega), List.drop_of_length_le (by have := HDL.out; omega)]; exact ho2)
      have HB2 := Lib.hid hb2
      clear ho2 hb2 hown hbw hc2
      go_loopw [8, 9] (fun kv _ wi => ∃ t : Nat, t ≤ q ∧ kv = .int .i64 t ∧ (∀ s ∈ D.drop t, s < x) ∧ wi.ownsRow w.heap.size 2 1 (.slice (some ⟨g, 0, none⟩) (q + 1) c2) (q + 1) (ints (insAt D x t)) ∧ Below w.heap.size w wi) (fun kv _ _ => (intOf kv).toNat)
      case atStart => exact ⟨q, Nat.le_refl _, rfl, by rw [List.drop_of_length_le (by have := HDL.out; omega)]; intro s hs; simp at hs, HO2.out, HB2.out⟩
      case round =>
        obtain ⟨t, ht, rfl, hbig, howni, hbi⟩ := hrel
        have HBG := Lib.hid hbig
        have HOI := Lib.hid howni
        have HBI := Lib.hid hbi
        have hfzt := howni.frozenAt t
        have hct : wr.cell? ⟨g, t, none⟩ = some (.int .i64 x) := by
          have h0 := howni.cellAt t (by omega)
          rw [ints_getD (by rw [insAt_len (by have := HDL.out; omega)]; have := HDL.out; omega), insAt_at (by have := HDL.out; omega)] at h0
          exact h0
        clear hbig
        by_cases ht0 : t = 0
        · subst ht0
          have hfin := Lib.hid (insAt_sorted (D := D) (x := x) (k := 0) (Nat.zero_le _) HDS.out HBG.out (.inl rfl))
          clear howni hbi
          go_wp2_with fail
          go_quiet (fail)
          go_wp2_with fail
          go_roundw
          case rel => exact ⟨q + 1, insAt D x 0, by omega, by go_num, by rw [insAt_len (Nat.zero_le _), HDL.out], by rw [htk.out]; exact (insAt_perm D x 0).trans (HDP.out.append_right _), hfin.out, own_drewN HOI.out _, below_drewN HBI.out _⟩
          case measure => simp [intOf]; omega
        obtain ⟨p, rfl⟩ : ∃ p, t = p + 1 := ⟨t - 1, by omega⟩
        have hcp : wr.cell? ⟨g, p, none⟩ = some (.int .i64 (D[p]?.getD 0)) := by
          have h0 := howni.cellAt p (by omega)
          rw [ints_getD (by rw [insAt_len (by have := HDL.out; omega)]; have := HDL.out; omega), insAt_before (by have := HDL.out; omega)] at h0
          exact h0
        have hfzp := howni.frozenAt p
        have HSW := Lib.hid (insAt_swap (D := D) (x := x) (k := p) (by have := HDL.out; omega))
        have HDR := Lib.hid (show ∀ s ∈ D.drop p, s = D[p]?.getD 0 ∨ s ∈ D.drop (p + 1) from fun s hs => by
          rw [List.drop_eq_getElem_cons (by have := HDL.out; omega)] at hs
          rcases List.mem_cons.1 hs with h | h
          · left; rw [h, List.getElem?_eq_getElem (by have := HDL.out; omega)]; rfl
          · exact .inr h)
        have HYB := Lib.hid (HDM.out _ (getD_mem (zs := D) (k := p) (by have := HDL.out; omega)))
        obtain ⟨y, hy⟩ : ∃ y, y = D[p]?.getD 0 := ⟨_, rfl⟩
        rw [← hy] at hcp HSW HYB HDR
        have HY := Lib.hid hy
        obtain ⟨u, hu⟩ : ∃ u, u = p + 1 := ⟨_, rfl⟩
        have HU := Lib.hid hu
        have hup : (u : Int) - 1 = (p : Int) := by omega
        have huq : u ≤ q := by omega
        have hpq : p < q := by omega
        have hu0 : 0 < u := by omega
        have hd0 : decide (0 < u) = true := decide_eq_true hu0
        have i1 : (0 : Int) ≤ u := by omega
        have i2 : (u : Int) < (q : Int) + 1 := by omega
        have i3 : (0 : Int) ≤ p := by omega
        have i4 : (p : Int) < (q : Int) + 1 := by omega
        have hne : p ≠ u := by omega
        rw [← hu] at hct hfzt ⊢
        clear hy hu howni hbi ht ht0
        by_cases hgt : y < x
        · have hd1 : decide (y < x) = true := decide_eq_true hgt
          have HG := Lib.hid (show ∀ s ∈ D.drop p, s < x from fun s hs => by
            rcases HDR.out s hs with h | h
            · rw [h]; exact hgt
            · exact HBG.out s h)
          go_wp2_with fail
          go_quiet (fail)
          go_wp2_with fail
          go_roundw
          case rel =>
            have HS := own_setI (own_drewN HOI.out nq) (Nat.le_refl _) (below_drewN HBI.out nq) u y
            have HS2 := own_setI HS.1 (Nat.le_refl _) HS.2 p x
            exact ⟨p, by omega, by go_num, HG.out, by have := HS2.1; rw [HU.out, HSW.out] at this; rw [HU.out]; exact this, HS2.2⟩
          case measure => simp [intOf]; omega
        · have hd1 : decide (y < x) = false := decide_eq_false hgt
          have hfin := Lib.hid (insAt_sorted (D := D) (x := x) (k := p + 1) (by have := HDL.out; omega) HDS.out HBG.out (.inr (by rw [Nat.add_sub_cancel, ← HY.out]; omega)))
          go_wp2_with fail
          go_quiet (fail)
          go_wp2_with fail
          go_roundw
          case rel => exact ⟨q + 1, insAt D x (p + 1), by omega, by go_num, by rw [insAt_len (by have := HDL.out; omega), HDL.out], by rw [htk.out]; exact (insAt_perm D x (p + 1)).trans (HDP.out.append_right _), hfin.out, own_drewN HOI.out _, below_drewN HBI.out _⟩
          case measure => simp [intOf]; omega
    · obtain rfl : n = q := by omega
      obtain ⟨A2, c2, rfl, hc1, hc2⟩ := own_form hown
      have hsum := Lib.hid (by_rev (zs := zs) (L := D) (k := k) (by have := HDP.out; rwa [List.take_of_length_le (by have := HL.out; omega)] at this) HDS.out (by rw [HL.out]; omega))
      have hsmD := Lib.hid (show Small (D.take k) from fun z hz => hsm.out z (List.mem_of_mem_take (HDP.out.mem_iff.1 (List.mem_of_mem_take hz))))
      have hnn := Lib.hid (sumI_nonneg (l := D.take k) fun z hz => (hall.out z (List.mem_of_mem_take (HDP.out.mem_iff.1 (List.mem_of_mem_take hz)))).1)
      have HRD := Lib.hid ((Rd.of_own hown).upto (k := k) hk.2)
      have HBW := Lib.hid hbw
      have i1 : (0 : Int) ≤ k := by omega
      have i2 : (k : Int) ≤ c2 := by omega
      have hc63 : c2 ≤ 9223372036854775807 := by unfold maxLen at hc2; omega
      clear hown hbw hc2
      go_wp2_with fail
      refine (l06Sum_any _ _ _ (D.take k) _ (by rw [← ints_take]; exact HRD.out) (by omega) hsmD.out).mono ?_
      rintro e w4 ⟨rfl, rfl⟩
      have hub : sumI (D.take k) ≤ 4503599627370496 := by
        have := small_sum hsmD.out (by rw [List.length_take]; omega) (k := (D.take k).length)
        rw [List.take_of_length_le (Nat.le_refl _)] at this
        omega
      have hnn2 := hnn.out
      rw [hsum.out] at hub hnn2 ⊢
      obtain ⟨s, hs⟩ : ∃ s, s = bySum zs k := ⟨_, rfl⟩
      rw [← hs] at hnn2 hub ⊢
      have HS := Lib.hid hs
      have hk0 : (0 : Int) < k := by omega
      have hdv : s.tdiv (k : Int) = s / (k : Int) := Int.tdiv_eq_ediv_of_nonneg hnn2
      have hd0 : 0 ≤ s / (k : Int) := Int.ediv_nonneg hnn2 (by omega)
      have hd1 : s / (k : Int) ≤ s := Int.ediv_le_self _ hnn2
      clear hs
      go_wp2_with fail
      go_ret2
      exact ⟨by_yes hok.out (by rw [Int.toNat_natCast, ← HS.out]), HBW.out⟩
end Go.Proofs.Ytfcgknnnopgjfaa
