/-
  DrawsShared: refused.
-/
import Derived.Test.YtneclhkpgalnlaaSafe
import Derived.Test.YtneclhkpgalnlaaApp
namespace Go.Proofs.Ytneclhkpgalnlaa
open Go.ChangeShapes Go.WideShapes Go.ChangeAt Go.RowKit
set_option linter.unusedVariables false
def shareOk (zs rs : List Int) (n : Int) : Bool := cntIn zs 1 16 0 1000000000 && cntIn rs 1 60 (-9999) 10000 && inB n 1 8
def shareR (zs rs : List Int) (n : Int) : List Int := if shareOk zs rs n then zs.map fun z => safeR z rs else []
theorem share_len (zs rs : List Int) (n : Int) : (shareR zs rs n).length ≤ 16 := by
  unfold shareR
  split
  · rename_i h
    unfold shareOk at h
    rw [Bool.and_eq_true, Bool.and_eq_true] at h
    have := (cntIn_iff.1 h.1.1).2.1
    simp; omega
  · simp
theorem ds_no (A : Option Addr) (n c : Nat) (zs : List Int) (B : Option Addr) (m d : Nat) (rs : List Int) (k : Int) (w : World) (hr : Rd w w.heap.size 1 A n (ints zs)) (hn : n ≤ 1048576) (hs : Rd w w.heap.size 1 B m (ints rs)) (hm : m ≤ 1048576) (hno : shareOk zs rs k = false) :
    Calls Try.prog 7 #[.slice A n c, .slice B m d, .int .i64 k] w fun e w' => e = .returned (.tuple #[.slice none 0 0, .bool false]) ∧ Below w.heap.size w w' := by
  have hB : Below w.heap.size w w := Below.refl _ _
  have HN := Lib.hid hno
  clear hno
  have hB1 := hB.alloc (Nat.le_refl _) (.cells #[.slice B m d] 22 (0, 0))
  have hr1 := hr.alloc (Nat.le_refl _) (.cells #[.slice B m d] 22 (0, 0))
  have hr2 := hr1.more (B' := w.heap.size + 1) (by omega)
  rcases Bool.eq_false_or_eq_true (cntIn zs 1 16 0 1000000000) with h1 | h1
  case inr =>
    go_enter Try.func7, Try.ntmps7
    go_wp2_with fail
    refine (hasCount_any _ _ _ zs _ _ _ _ _ (by simpa using hr2) (by omega)).mono ?_
    rintro e w2 ⟨rfl, hb⟩
    have hbox : w2.cell? ⟨w.heap.size, 0, none⟩ = some (.slice B m d) := by rw [hb.cell (by simp)]; go_simp
    have hB2 := below_step hB1 hb
    clear hb hB1 hr1 hr2 hB
    go_wp2_with fail
    go_ret2
    exact ⟨rfl, hB2⟩
  rcases Bool.eq_false_or_eq_true (cntIn rs 1 60 (-9999) 10000) with h2 | h2
  case inr =>
    go_enter Try.func7, Try.ntmps7
    go_wp2_with fail
    refine (hasCount_any _ _ _ zs _ _ _ _ _ (by simpa using hr2) (by omega)).mono ?_
    rintro e w2 ⟨rfl, hb⟩
    have hbox : w2.cell? ⟨w.heap.size, 0, none⟩ = some (.slice B m d) := by rw [hb.cell (by simp)]; go_simp
    have hB2 := below_step hB1 hb
    clear hb hB1 hr1 hr2 hB
    go_wp2_with fail
    refine (areReturns_any _ _ _ rs _ ((hs.below hB2).more hB2.size) (by omega)).mono ?_
    rintro e w3 ⟨rfl, hb⟩
    replace hB2 := below_step hB2 hb
    clear hb
    go_wp2_with fail
    go_ret2
    exact ⟨rfl, hB2⟩
  rcases Bool.eq_false_or_eq_true (inB k 1 8) with h3 | h3
  case inr =>
    go_enter Try.func7, Try.ntmps7
    go_wp2_with fail
    refine (hasCount_any _ _ _ zs _ _ _ _ _ (by simpa using hr2) (by omega)).mono ?_
    rintro e w2 ⟨rfl, hb⟩
    have hbox : w2.cell? ⟨w.heap.size, 0, none⟩ = some (.slice B m d) := by rw [hb.cell (by simp)]; go_simp
    have hB2 := below_step hB1 hb
    clear hb hB1 hr1 hr2 hB
    go_wp2_with fail
    refine (areReturns_any _ _ _ rs _ ((hs.below hB2).more hB2.size) (by omega)).mono ?_
    rintro e w3 ⟨rfl, hb⟩
    replace hB2 := below_step hB2 hb
    clear hb
    go_wp2_with fail
    refine (isWorkers_any _ _).mono ?_
    rintro e w4 ⟨rfl, rfl⟩
    go_wp2_with fail
    go_ret2
    exact ⟨rfl, hB2⟩
  exact absurd HN.out (by simp [shareOk, h1, h2, h3])
end Go.Proofs.Ytneclhkpgalnlaa
