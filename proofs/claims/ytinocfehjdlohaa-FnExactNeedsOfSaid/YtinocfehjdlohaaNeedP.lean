/-
  What a word needs, the plain law.
-/
import Derived.Test.YtinocfehjdlohaaRuAct
import Derived.Test.YtinocfehjdlohaaSortP
namespace Go.Proofs.Ytinocfehjdlohaa
set_option linter.unusedVariables false
set_option linter.unusedSimpArgs false

/-- a set of atoms that has what its rules need -/
def NClosed (ds : List Rl) (day x : Int) (S : Int → Prop) : Prop := S (atomI x) ∧ ∀ d ∈ ds, onB d day = true → S (atomI d.hd) → ∀ z ∈ d.ifs, S (atomI z)
noncomputable def needB (ds : List Rl) (day x : Int) (a : Int) : Bool := by
  classical exact decide (∀ S : Int → Prop, NClosed ds day x S → S a)
theorem needB_iff {ds : List Rl} {day x a : Int} : needB ds day x a = true ↔ ∀ S : Int → Prop, NClosed ds day x S → S a := by simp [needB]
theorem need_start (ds : List Rl) (day x : Int) : needB ds day x (atomI x) = true := needB_iff.2 fun _ h => h.1
theorem need_step {ds : List Rl} {day x z : Int} {d : Rl} (hd : d ∈ ds) (ho : onB d day = true) (h : needB ds day x (atomI d.hd) = true) (hz : z ∈ d.ifs) : needB ds day x (atomI z) = true :=
  needB_iff.2 fun S hS => hS.2 d hd ho (needB_iff.1 h S hS) z hz
theorem need_least {ds : List Rl} {day x a : Int} {S : Int → Prop} (hS : NClosed ds day x S) (h : needB ds day x a = true) : S a := needB_iff.1 h S hS
/-- all atoms that are needed, ascending -/
noncomputable def needL (ds : List Rl) (day x : Int) : List Int := ((List.range 17).map Int.ofNat).filter (needB ds day x)
theorem range_strict (m : Nat) : ((List.range m).map Int.ofNat).Pairwise (· < ·) := by
  rw [List.pairwise_map]
  exact (List.pairwise_lt_range (n := m)).imp (fun h => by simpa using h)
theorem needL_strict (ds : List Rl) (day x : Int) : (needL ds day x).Pairwise (· < ·) := (range_strict 17).filter _
theorem needL_mem {ds : List Rl} {day x a : Int} : a ∈ needL ds day x ↔ (0 ≤ a ∧ a ≤ 16) ∧ needB ds day x a = true := by
  unfold needL
  rw [List.mem_filter, List.mem_map]
  constructor
  · rintro ⟨⟨k, hk, rfl⟩, h⟩
    have := List.mem_range.1 hk
    exact ⟨⟨by simp, by simp; omega⟩, h⟩
  · rintro ⟨⟨h1, h2⟩, h⟩
    exact ⟨⟨a.toNat, List.mem_range.2 (by omega), by simp; omega⟩, h⟩
/-- what the program's list of atoms is -/
theorem need_sorted {ds : List Rl} {day x : Int} {out : List Int} (hn : out.Nodup) (hb : ∀ a ∈ out, 0 ≤ a ∧ a ≤ 16) (hs : ∀ a ∈ out, needB ds day x a = true) (hc : NClosed ds day x (· ∈ out)) : srt out = needL ds day x := by
  refine eq_of_strict ?_ (needL_strict ds day x) fun a => ?_
  · have h1 := srt_sorted out
    have h2 : (srt out).Nodup := (srt_perm out).nodup_iff.2 hn
    exact (List.pairwise_and_iff.2 ⟨h1, h2⟩).imp fun h => by omega
  · rw [srt_mem, needL_mem]
    exact ⟨fun h => ⟨hb a h, hs a h⟩, fun h => need_least hc h.2⟩
/-- a list of small atoms with none twice is short -/
theorem nodup_len : ∀ (m : Nat) (l : List Int), l.Nodup → (∀ a ∈ l, 0 ≤ a ∧ a < m) → l.length ≤ m
  | 0, [], _, _ => Nat.le_refl _
  | 0, a :: l, _, h => by have := h a (by simp); omega
  | m + 1, l, hn, h => by
    have h1 := nodup_len m (l.erase (m : Int)) (hn.erase _) fun a ha => by
      have h2 := (List.Nodup.mem_erase_iff hn).1 ha
      have := h a h2.2
      omega
    rw [List.length_erase] at h1
    split at h1 <;> omega
end Go.Proofs.Ytinocfehjdlohaa
