/-
  slices.Sort, slices.Compact at whole numbers: what they do to a slice of the call's own. (The library's contracts, laid in <Name>Shelf.)
-/
import Derived.Test.YtinocfehjdlohaaShelf
import Derived.Test.YtinocfehjdlohaaSortP
import Derived.Sort.OwnSortedInts
namespace Go.Proofs.Ytinocfehjdlohaa
open Go.ChangeShapes Go.WideShapes Go.ChangeAt Go.RowKit Go.Sort
set_option linter.unusedVariables false

theorem sortI_any {base n c : Nat} {A : Option Addr} {zs : List Int} (w : World) (h : w.ownsRow base 2 1 (.slice A n c) n (ints zs)) (hn : n ≤ 1048576) :
    Calls Try.prog 45 #[.slice A n c] w fun e w' => e = .returned (.tuple #[]) ∧ w'.ownsRow base 2 1 (.slice A n c) n (ints (srt zs)) ∧ w.grownBy w' (Value.ownBlock (.slice A n c)) := by
  have hl : zs.length = n := by have := own_len h; simpa [ints] using this
  by_cases h0 : n = 0
  · subst h0
    refine (Try.slices_Sort_int_none A c w).mono ?_
    rintro e w' ⟨rfl, rfl⟩
    have hz : zs = [] := List.length_eq_zero_iff.1 hl
    subst hz
    exact ⟨rfl, by rw [show srt [] = [] from List.length_eq_zero_iff.1 (srt_len [])]; exact h, grown_below (Below.refl _ _) _⟩
  · rcases h.2 with ⟨hnil, h1⟩ | ⟨g, cap, cur, hv, hbase, hb1, h1, h2, h3, h4⟩
    · omega
    · injection hv with e1 e2 e3
      subst e1 e3
      subst hl
      have hgl : g < w.heap.size := (Array.getElem?_eq_some_iff.1 hb1).1
      refine (Try.slices_Sort_int g 0 c zs w (holds_of_blockI hb1 (by simpa [ints] using h4)) hgl (by omega)).mono ?_
      rintro e w' ⟨rfl, nn, os, rfl⟩
      exact ⟨rfl, ownsRow_sortedI (ts := srt zs) (srt_len zs) hbase hb1 h1 h2 h3, grownBy_sortedI _⟩
theorem own_shrink {w : World} {base n k c : Nat} {e : TypeId} {A : Option Addr} {xs : List Value} (h : w.ownsRow base e 1 (.slice A n c) n xs) (hk : k ≤ n) : w.ownsRow base e 1 (.slice A k c) k (xs.take k) := by
  have hl := own_len h
  refine ⟨by rw [List.length_take]; omega, ?_⟩
  rcases h.2 with ⟨hnil, h1⟩ | ⟨g, cap, cur, hv, hbase, hb1, h1, h2, h3, h4⟩
  · injection hnil with e1 e2 e3
    obtain rfl : k = 0 := by omega
    exact .inl ⟨by rw [e1, e3], rfl⟩
  · injection hv with e1 e2 e3
    subst e1 e3
    refine .inr ⟨g, c, cur, rfl, hbase, hb1, by omega, h2, h3, ?_⟩
    rw [← h4, List.take_take]
    congr 1
    omega
section
variable {α : Type} [DecidableEq α] [Inhabited α]
end
theorem cmp_ok (zs : List Int) (hs : zs.Pairwise (· ≤ ·)) : ∀ m, m ≤ zs.length → (Lib.compactUpTo zs.toArray m).Pairwise (· < ·) ∧ ∀ x, x ∈ Lib.compactUpTo zs.toArray m ↔ ∃ j, j < m ∧ zs[j]? = some x
  | 0, _ => ⟨by simp [Lib.compactUpTo], fun x => by simp [Lib.compactUpTo]⟩
  | m + 1, h => by
    obtain ⟨h1, h2⟩ := cmp_ok zs hs m (by omega)
    have hat : ∀ j, j < zs.length → zs.toArray[j]! = zs[j]?.getD 0 := fun j hj => by simp [hj]
    have hmm := hat m (by omega)
    have hex : zs[m]? = some (zs.toArray[m]!) := by rw [hmm, List.getElem?_eq_getElem (by omega)]; rfl
    rw [Lib.compactUpTo_succ]
    by_cases hk : Lib.keeps zs.toArray m = true
    · rw [if_pos hk]
      refine ⟨?_, fun x => ?_⟩
      · rw [List.pairwise_append]
        refine ⟨h1, List.pairwise_singleton _ _, fun a ha b hb => ?_⟩
        rw [List.mem_singleton] at hb
        subst hb
        obtain ⟨j, hj, hja⟩ := (h2 a).1 ha
        obtain ⟨hjl, hjv⟩ := List.getElem?_eq_some_iff.1 hja
        have hm0 : 0 < m := by omega
        have hm1 := hat (m - 1) (by omega)
        have hne : zs.toArray[m]! ≠ zs.toArray[m - 1]! := by
          intro he
          rw [Lib.keeps_neg hm0 he] at hk
          cases hk
        rw [hmm, hm1, List.getElem?_eq_getElem (show m < zs.length by omega), List.getElem?_eq_getElem (show m - 1 < zs.length by omega)] at hne
        rw [hmm, List.getElem?_eq_getElem (show m < zs.length by omega)]
        simp only [Option.getD_some] at hne ⊢
        have p1 : zs[m - 1] ≤ zs[m] := List.pairwise_iff_getElem.1 hs (m - 1) m (by omega) (by omega) (by omega)
        have p2 : zs[j] ≤ zs[m - 1] := by
          by_cases e : j = m - 1
          · subst e; exact Int.le_refl _
          · exact List.pairwise_iff_getElem.1 hs j (m - 1) (by omega) (by omega) (by omega)
        omega
      · rw [List.mem_append, List.mem_singleton, h2]
        constructor
        · rintro (⟨j, hj, hx⟩ | rfl)
          · exact ⟨j, by omega, hx⟩
          · exact ⟨m, by omega, hex⟩
        · rintro ⟨j, hj, hx⟩
          by_cases e : j = m
          · subst e
            right
            rw [hex] at hx
            exact (Option.some.inj hx).symm
          · exact .inl ⟨j, by omega, hx⟩
    · rw [if_neg hk, List.append_nil]
      refine ⟨h1, fun x => ?_⟩
      rw [h2]
      constructor
      · rintro ⟨j, hj, hx⟩; exact ⟨j, by omega, hx⟩
      · rintro ⟨j, hj, hx⟩
        by_cases e : j = m
        · subst e
          have hm0 : 0 < j := by
            rcases Nat.eq_zero_or_pos j with h0 | h0
            · subst h0; exact absurd (by simp [Lib.keeps]) hk
            · exact h0
          have he : zs.toArray[j]! = zs.toArray[j - 1]! := Decidable.byContradiction fun hne => hk (Lib.keeps_pos hne)
          refine ⟨j - 1, by omega, ?_⟩
          rw [← hx, hex, he, hat (j - 1) (by omega), List.getElem?_eq_getElem (by omega)]; rfl
        · exact ⟨j, by omega, hx⟩
theorem compact_strict {zs : List Int} (hs : zs.Pairwise (· ≤ ·)) : (Lib.compact zs).Pairwise (· < ·) := (cmp_ok zs hs _ (Nat.le_refl _)).1
theorem compact_mem {zs : List Int} (hs : zs.Pairwise (· ≤ ·)) {x : Int} : x ∈ Lib.compact zs ↔ x ∈ zs := by
  unfold Lib.compact
  rw [(cmp_ok zs hs _ (Nat.le_refl _)).2, List.mem_iff_getElem?]
  exact ⟨fun ⟨j, _, h⟩ => ⟨j, h⟩, fun ⟨j, h⟩ => ⟨j, (List.getElem?_eq_some_iff.1 h).1, h⟩⟩
theorem compact_len (zs : List Int) : (Lib.compact zs).length ≤ zs.length := by
  unfold Lib.compact Lib.compactUpTo
  rw [List.length_map]
  exact Nat.le_trans (List.length_filter_le _ _) (by simp)
theorem compactI_any {base n c : Nat} {A : Option Addr} {zs : List Int} (w : World) (h : w.ownsRow base 2 1 (.slice A n c) n (ints zs)) (hn : n ≤ 1048576) :
    Calls Try.prog 79 #[.slice A n c] w fun e w' => e = .returned (.slice A (Lib.compact zs).length c) ∧ w'.ownsRow base 2 1 (.slice A (Lib.compact zs).length c) (Lib.compact zs).length (ints (Lib.compact zs)) ∧ w.grownBy w' (Value.ownBlock (.slice A n c)) := by
  have hl : zs.length = n := by have := own_len h; simpa [ints] using this
  by_cases h0 : n = 0
  · subst h0
    refine (Try.slices_Compact_int_empty A c w).mono ?_
    rintro e w' ⟨rfl, rfl⟩
    have hz : zs = [] := List.length_eq_zero_iff.1 hl
    subst hz
    exact ⟨rfl, h, grown_below (Below.refl _ _) _⟩
  · rcases h.2 with ⟨hnil, h1⟩ | ⟨g, cap, cur, hv, hbase, hb1, h1, h2, h3, h4⟩
    · omega
    · injection hv with e1 e2 e3
      subst e1 e3
      subst hl
      have hgl : g < w.heap.size := (Array.getElem?_eq_some_iff.1 hb1).1
      refine (Try.slices_Compact_int g 0 c zs w (holds_of_blockI hb1 (by simpa [ints] using h4)) (by omega) h1).mono ?_
      rintro e w' ⟨rfl, q, rfl⟩
      have hcl := compact_len zs
      have ho := ownsRow_sortedI (n := q) (os := #[]) (ss := zs) (ts := Lib.compact zs ++ List.replicate (zs.length - (Lib.compact zs).length) 0) (by simp; omega) hbase hb1 h1 h2 h3
      have hs := own_shrink ho hcl
      rw [← List.map_take, List.take_left] at hs
      have hg := grownBy_sortedI (w := w) (g := g) (n := q) (os := #[]) (Lib.compact zs ++ List.replicate (zs.length - (Lib.compact zs).length) 0).toArray
      have e0 : ∀ W : World, grow W #[] = W := fun W => by simp [grow]
      rw [e0] at hs hg
      exact ⟨rfl, hs, hg⟩
end Go.Proofs.Ytinocfehjdlohaa
