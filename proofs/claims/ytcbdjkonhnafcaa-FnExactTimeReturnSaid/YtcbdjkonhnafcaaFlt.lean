/-
  FLOATS OF 32 BITS AS WORDS: lists of them in memory, the word of a NaN, what the comparisons give. Plain lemmas.
-/
import Derived.Test.YtcbdjkonhnafcaaMem
import Derived.WalkLawsBesides
import Derived.BigQuiet
import Derived.Deep.QuietTactic
namespace Go.Proofs.Ytcbdjkonhnafcaa
open Go.ChangeShapes Go.WideShapes Go.ChangeAt Go.RowKit
set_option linter.unusedVariables false

def F32s (bs : List Nat) : Prop := ∀ b ∈ bs, b < 4294967296
def flts (bs : List Nat) : List Value := bs.map (Value.float .f32)
theorem flts_length (bs : List Nat) : (flts bs).length = bs.length := by simp [flts]
theorem flts_at (bs : List Nat) (k : Nat) : (flts bs)[k]? = bs[k]?.map (Value.float .f32) := by simp [flts]
theorem flts_getD {bs : List Nat} {k : Nat} (h : k < bs.length) : (flts bs)[k]? = some (.float .f32 (bs[k]?.getD 0)) := by
  rw [flts_at, List.getElem?_eq_getElem h]; rfl
theorem flts_append (a b : List Nat) : flts (a ++ b) = flts a ++ flts b := by simp [flts]
theorem flts_one (z : Nat) : flts [z] = [.float .f32 z] := rfl
theorem flts_cells (bs : List Nat) : ∀ u ∈ flts bs, u.oneCell' = true := by
  intro u hu; simp [flts] at hu; obtain ⟨z, _, rfl⟩ := hu; rfl
theorem getD_memN {bs : List Nat} {k : Nat} (h : k < bs.length) : bs[k]?.getD 0 ∈ bs := by
  rw [List.getElem?_eq_getElem h]; exact List.getElem_mem h
theorem Rd.flen {w : World} {B n : Nat} {A : Option Addr} {bs : List Nat} (h : Rd w B 1 A n (flts bs)) : bs.length = n := by have := h.len; simpa [flts] using this
theorem Rd.flt {w : World} {B n : Nat} {A : Option Addr} {bs : List Nat} {k : Nat} (h : Rd w B 1 A n (flts bs)) (hk : k < n) : ∃ ad, A = some ad ∧ w.cell? (ad.add k) = some (.float .f32 (bs[k]?.getD 0)) := by
  obtain ⟨ad, u, e, _, hx, hc⟩ := h.at_ hk
  rw [flts_getD (by have := h.flen; omega)] at hx
  cases hx
  exact ⟨ad, e, hc⟩

/-! ### NaN -/
def nan32 (b : Nat) : Bool := (Ieee.single.read b).isNaN
theorem order_nan_l {a b : Nat} (h : nan32 a = true) : Ieee.single.order a b = none := by
  unfold nan32 at h
  unfold Ieee.Format.order
  cases hr : Ieee.single.read a with
  | nan s t => rfl
  | infinity s => rw [hr] at h; simp [Ieee.Datum.isNaN] at h
  | number s m e => rw [hr] at h; simp [Ieee.Datum.isNaN] at h
theorem order_self {a : Nat} (h : nan32 a = false) : Ieee.single.order a a = some .eq := by
  unfold nan32 at h
  unfold Ieee.Format.order
  cases hr : Ieee.single.read a with
  | nan s t => rw [hr] at h; simp [Ieee.Datum.isNaN] at h
  | infinity s => simp [Ieee.Datum.order]
  | number s m e => simp [Ieee.Datum.order]
end Go.Proofs.Ytcbdjkonhnafcaa
