/-
  SORTED LISTS, plain Lean.
-/
import Derived.Test.YtinocfehjdlohaaMem
namespace Go.Proofs.Ytinocfehjdlohaa
set_option linter.unusedVariables false

def srt (zs : List Int) : List Int := zs.mergeSort fun x y => decide (x ≤ y)
theorem srt_perm (zs : List Int) : (srt zs).Perm zs := List.mergeSort_perm _ _
theorem srt_len (zs : List Int) : (srt zs).length = zs.length := (srt_perm zs).length_eq
theorem srt_mem {zs : List Int} {x : Int} : x ∈ srt zs ↔ x ∈ zs := (srt_perm zs).mem_iff
theorem srt_sorted (zs : List Int) : (srt zs).Pairwise (· ≤ ·) := by
  have := List.pairwise_mergeSort (le := fun x y : Int => decide (x ≤ y)) (fun a b c h1 h2 => by simp at *; omega) (fun a b => by simp; omega) zs
  exact this.imp (by simp)
theorem eq_srt {l zs : List Int} (hp : l.Perm zs) (hs : l.Pairwise (· ≤ ·)) : l = srt zs :=
  (hp.trans (srt_perm zs).symm).eq_of_pairwise (le := (· ≤ ·)) (fun a b _ _ h1 h2 => by omega) hs (srt_sorted zs)
theorem eq_srt_rev {l zs : List Int} (hp : l.Perm zs) (hs : l.Pairwise (fun x y => y ≤ x)) : l.reverse = srt zs :=
  eq_srt (l.reverse_perm.trans hp) (List.pairwise_reverse.2 hs)
theorem eq_of_strict {a b : List Int} (ha : a.Pairwise (· < ·)) (hb : b.Pairwise (· < ·)) (h : ∀ x, x ∈ a ↔ x ∈ b) : a = b :=
  ((List.perm_ext_iff_of_nodup (ha.imp fun h => by omega) (hb.imp fun h => by omega)).2 h).eq_of_pairwise (le := (· < ·)) (fun a b _ _ h1 h2 => by omega) ha hb
end Go.Proofs.Ytinocfehjdlohaa
