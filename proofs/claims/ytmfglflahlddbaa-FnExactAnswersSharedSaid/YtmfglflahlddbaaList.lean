/-
  CONTRACTS OF FUNCTIONS THAT ONLY READ A SLICE OF WHOLE NUMBERS: all in a range, a count in a range, sums; of the program and of the reference.
-/
import Derived.Test.YtmfglflahlddbaaNum
namespace Go.Proofs.Ytmfglflahlddbaa
open Go.ChangeShapes Go.WideShapes Go.ChangeAt Go.RowKit
set_option linter.unusedVariables false

/-! ### plain words -/
def allIn (zs : List Int) (lo hi : Int) : Bool := zs.all fun z => inB z lo hi
def cntIn (zs : List Int) (least most lo hi : Int) : Bool := decide (least ≤ zs.length) && decide ((zs.length : Int) ≤ most) && allIn zs lo hi
def sumI (zs : List Int) : Int := zs.foldl (· + ·) 0
/-- the first place of which something holds, -1 if there is none -/
def findI {α : Type} (p : α → Bool) (zs : List α) : Int := match zs.findIdx? p with | some i => (i : Int) | none => -1
theorem findI_miss {α : Type} {p : α → Bool} {zs : List α} (h : zs.any p = false) : findI p zs = -1 := by
  have : zs.findIdx? p = none := by
    rw [List.findIdx?_eq_none_iff]
    intro x hx
    rw [List.any_eq_false] at h
    simpa using h x hx
  simp [findI, this]
theorem findI_hit {α : Type} {p : α → Bool} {zs : List α} {k : Nat} (d : α) (h : (zs.take k).any p = false) (hk : k < zs.length) (hp : p (zs[k]?.getD d) = true) : findI p zs = k := by
  have : zs.findIdx? p = some k := by
    rw [List.findIdx?_eq_some_iff_getElem]
    rw [List.getElem?_eq_getElem hk] at hp
    refine ⟨hk, hp, fun j hj => ?_⟩
    rw [List.any_eq_false] at h
    have hm : zs[j] ∈ zs.take k := by
      rw [List.mem_take_iff_getElem]
      exact ⟨j, by omega, rfl⟩
    simpa using h _ hm
  simp [findI, this]
theorem findI_nonneg {α : Type} {p : α → Bool} {zs : List α} : decide (0 ≤ findI p zs) = zs.any p := by
  unfold findI
  cases h : zs.findIdx? p with
  | none =>
    have h2 : zs.any p = false := by
      rw [List.findIdx?_eq_none_iff] at h
      rw [List.any_eq_false]
      intro x hx
      simp [h x hx]
    rw [h2]; decide
  | some i =>
    have h2 : zs.any p = true := by
      rw [List.findIdx?_eq_some_iff_getElem] at h
      obtain ⟨h1, h3, _⟩ := h
      rw [List.any_eq_true]
      exact ⟨zs[i], List.getElem_mem h1, h3⟩
    rw [h2]; simp
theorem any_snoc {α : Type} {p : α → Bool} {zs : List α} {k : Nat} (d : α) (h : (zs.take k).any p = false) (hk : k < zs.length) (hp : p (zs[k]?.getD d) = false) : (zs.take (k + 1)).any p = false := by
  rw [take_snoc zs k d hk, List.any_append, h]; simp [hp]
theorem any_all {zs : List Int} {lo hi : Int} : zs.any (fun z => !inB z lo hi) = !allIn zs lo hi := by
  simp [allIn, List.any_eq_not_all_not]
theorem allIn_snoc {zs : List Int} {lo hi : Int} {k : Nat} (h : allIn (zs.take k) lo hi = true) (hk : k < zs.length) (hp : inB (zs[k]?.getD 0) lo hi = true) : allIn (zs.take (k + 1)) lo hi = true := by
  unfold allIn at h ⊢
  rw [take_snoc zs k 0 hk, List.all_append, h]; simp [hp]
theorem allIn_not {zs : List Int} {lo hi : Int} {k : Nat} (hk : k < zs.length) (hp : inB (zs[k]?.getD 0) lo hi = false) : allIn zs lo hi = false := by
  unfold allIn
  rw [List.all_eq_false]
  exact ⟨_, getD_mem hk, by simp [hp]⟩
theorem allIn_at {zs : List Int} {lo hi : Int} (h : allIn zs lo hi = true) : ∀ z ∈ zs, lo ≤ z ∧ z ≤ hi := by
  intro z hz
  unfold allIn at h
  exact inB_iff.1 (List.all_eq_true.1 h z hz)
theorem cntIn_iff {zs : List Int} {a b lo hi : Int} : cntIn zs a b lo hi = true ↔ a ≤ zs.length ∧ (zs.length : Int) ≤ b ∧ allIn zs lo hi = true := by
  simp [cntIn, and_assoc]
theorem cntIn_false {zs : List Int} {a b lo hi : Int} (h : allIn zs lo hi = false) : cntIn zs a b lo hi = false := by simp [cntIn, h]
theorem cntIn_eq {zs : List Int} {a b lo hi : Int} (h : allIn zs lo hi = true) : cntIn zs a b lo hi = (decide (a ≤ zs.length) && decide ((zs.length : Int) ≤ b)) := by simp [cntIn, h]
theorem sumI_nil : sumI [] = 0 := rfl
theorem sumI_append (a b : List Int) : sumI (a ++ b) = sumI a + sumI b := by
  have h : ∀ (l : List Int) (s : Int), l.foldl (· + ·) s = s + l.foldl (· + ·) 0 := by
    intro l
    induction l with
    | nil => intro s; simp
    | cons x l ih => intro s; simp only [List.foldl_cons]; rw [ih (s + x), ih (0 + x)]; omega
  unfold sumI
  rw [List.foldl_append, h b]
theorem sumI_one (z : Int) : sumI [z] = z := by simp [sumI]
theorem sumI_cons (z : Int) (l : List Int) : sumI (z :: l) = z + sumI l := by
  rw [show z :: l = [z] ++ l from rfl, sumI_append, sumI_one]
theorem sumI_snoc {zs : List Int} {k : Nat} (hk : k < zs.length) : sumI (zs.take (k + 1)) = sumI (zs.take k) + zs[k]?.getD 0 := by
  rw [take_snoc zs k 0 hk, sumI_append, sumI_one]
/-- bounds of a sum of numbers that all lie in a range -/
theorem sumI_le {lo hi : Int} (zs : List Int) (h : ∀ z ∈ zs, lo ≤ z ∧ z ≤ hi) : lo * zs.length ≤ sumI zs ∧ sumI zs ≤ hi * zs.length := by
  induction zs with
  | nil => simp [sumI]
  | cons z l ih =>
    have h1 := h z (by simp)
    have h2 := ih fun x hx => h x (by simp [hx])
    rw [sumI_cons]
    have e1 : lo * ((z :: l).length : Int) = lo * l.length + lo := by rw [List.length_cons]; push_cast; rw [Int.mul_add, Int.mul_one]
    have e2 : hi * ((z :: l).length : Int) = hi * l.length + hi := by rw [List.length_cons]; push_cast; rw [Int.mul_add, Int.mul_one]
    rw [e1, e2]; omega

/-! ### slices.IndexFunc and slices.ContainsFunc with a closure over two numbers in memory -/
/-! ### sums: the numbers are small enough that no sum wraps -/
/-- every number is at most 2^40 in size -/
def Small (zs : List Int) : Prop := ∀ z ∈ zs, -1099511627776 ≤ z ∧ z ≤ 1099511627776
theorem small_of {zs : List Int} {lo hi : Int} (h : allIn zs lo hi = true) (h1 : -1099511627776 ≤ lo) (h2 : hi ≤ 1099511627776) : Small zs := fun z hz => by
  have := allIn_at h z hz; omega
theorem small_sum {zs : List Int} (h : Small zs) (hl : zs.length ≤ 4096) (k : Nat) : -4503599627370496 ≤ sumI (zs.take k) ∧ sumI (zs.take k) ≤ 4503599627370496 := by
  have h1 := sumI_le (zs.take k) fun z hz => h z (List.mem_of_mem_take hz)
  have h2 := List.length_take_le k zs
  have h3 : (zs.take k).length ≤ zs.length := List.length_take_le' k zs
  omega
theorem small_at {zs : List Int} (h : Small zs) {k : Nat} (hk : k < zs.length) : -1099511627776 ≤ zs[k]?.getD 0 ∧ zs[k]?.getD 0 ≤ 1099511627776 := h _ (getD_mem hk)
end Go.Proofs.Ytmfglflahlddbaa
