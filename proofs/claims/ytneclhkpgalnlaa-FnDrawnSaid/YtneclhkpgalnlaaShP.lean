/-
  The program's functions are of the subset.
-/
import Derived.Test.YtneclhkpgalnlaaShA
namespace Go.Proofs.Ytneclhkpgalnlaa
open Sm
noncomputable def Fs10 : FuncId → Bool := fun f => decide (3 ≤ f) && decide (f ≤ 32)
def okFn (P : Program) (Fs : FuncId → Bool) (f : FuncId) : Bool := match P.funcs[f]? with | some fn => (!(fn.name == "runtime.NumGoroutine")) && (match fn.body with | some c => okCode P Fs c | none => false) | none => false
theorem okFn_of {P : Program} {Fs : FuncId → Bool} {f : FuncId} (h : okFn P Fs f = true) : ∃ fn c, P.funcs[f]? = some fn ∧ (fn.name == "runtime.NumGoroutine") = false ∧ fn.body = some c ∧ okCode P Fs c = true := by
  unfold okFn at h
  split at h
  · rename_i fn h1
    simp only [Bool.and_eq_true, Bool.not_eq_true'] at h
    obtain ⟨h2, h3⟩ := h
    split at h3
    · rename_i c h4
      exact ⟨fn, c, h1, h2, h4, h3⟩
    · cases h3
  · cases h
theorem globals0 : Try.prog.globals.size = 0 := by kernel_rfl
theorem ok_3 : okFn Try.prog Fs10 3 = true := by kernel_rfl
theorem ok_4 : okFn Try.prog Fs10 4 = true := by kernel_rfl
theorem ok_5 : okFn Try.prog Fs10 5 = true := by kernel_rfl
theorem ok_6 : okFn Try.prog Fs10 6 = true := by kernel_rfl
theorem ok_7 : okFn Try.prog Fs10 7 = true := by kernel_rfl
theorem ok_8 : okFn Try.prog Fs10 8 = true := by kernel_rfl
theorem ok_9 : okFn Try.prog Fs10 9 = true := by kernel_rfl
theorem ok_10 : okFn Try.prog Fs10 10 = true := by kernel_rfl
theorem ok_11 : okFn Try.prog Fs10 11 = true := by kernel_rfl
theorem ok_12 : okFn Try.prog Fs10 12 = true := by kernel_rfl
theorem ok_13 : okFn Try.prog Fs10 13 = true := by kernel_rfl
theorem ok_14 : okFn Try.prog Fs10 14 = true := by kernel_rfl
theorem ok_15 : okFn Try.prog Fs10 15 = true := by kernel_rfl
theorem ok_16 : okFn Try.prog Fs10 16 = true := by kernel_rfl
theorem ok_17 : okFn Try.prog Fs10 17 = true := by kernel_rfl
theorem ok_18 : okFn Try.prog Fs10 18 = true := by kernel_rfl
theorem ok_19 : okFn Try.prog Fs10 19 = true := by kernel_rfl
theorem ok_20 : okFn Try.prog Fs10 20 = true := by kernel_rfl
theorem ok_21 : okFn Try.prog Fs10 21 = true := by kernel_rfl
theorem ok_22 : okFn Try.prog Fs10 22 = true := by kernel_rfl
theorem ok_23 : okFn Try.prog Fs10 23 = true := by kernel_rfl
theorem ok_24 : okFn Try.prog Fs10 24 = true := by kernel_rfl
theorem ok_25 : okFn Try.prog Fs10 25 = true := by kernel_rfl
theorem ok_26 : okFn Try.prog Fs10 26 = true := by kernel_rfl
theorem ok_27 : okFn Try.prog Fs10 27 = true := by kernel_rfl
theorem ok_28 : okFn Try.prog Fs10 28 = true := by kernel_rfl
theorem ok_29 : okFn Try.prog Fs10 29 = true := by kernel_rfl
theorem ok_30 : okFn Try.prog Fs10 30 = true := by kernel_rfl
theorem ok_31 : okFn Try.prog Fs10 31 = true := by kernel_rfl
theorem ok_32 : okFn Try.prog Fs10 32 = true := by kernel_rfl
theorem okP_aux (f : Nat) (h1 : 3 ≤ f) (h2 : f ≤ 32) : okFn Try.prog Fs10 f = true := by
  have : f = 3 ∨ f = 4 ∨ f = 5 ∨ f = 6 ∨ f = 7 ∨ f = 8 ∨ f = 9 ∨ f = 10 ∨ f = 11 ∨ f = 12 ∨ f = 13 ∨ f = 14 ∨ f = 15 ∨ f = 16 ∨ f = 17 ∨ f = 18 ∨ f = 19 ∨ f = 20 ∨ f = 21 ∨ f = 22 ∨ f = 23 ∨ f = 24 ∨ f = 25 ∨ f = 26 ∨ f = 27 ∨ f = 28 ∨ f = 29 ∨ f = 30 ∨ f = 31 ∨ f = 32 := by omega
  rcases this with rfl | rfl | rfl | rfl | rfl | rfl | rfl | rfl | rfl | rfl | rfl | rfl | rfl | rfl | rfl | rfl | rfl | rfl | rfl | rfl | rfl | rfl | rfl | rfl | rfl | rfl | rfl | rfl | rfl | rfl
  · exact ok_3
  · exact ok_4
  · exact ok_5
  · exact ok_6
  · exact ok_7
  · exact ok_8
  · exact ok_9
  · exact ok_10
  · exact ok_11
  · exact ok_12
  · exact ok_13
  · exact ok_14
  · exact ok_15
  · exact ok_16
  · exact ok_17
  · exact ok_18
  · exact ok_19
  · exact ok_20
  · exact ok_21
  · exact ok_22
  · exact ok_23
  · exact ok_24
  · exact ok_25
  · exact ok_26
  · exact ok_27
  · exact ok_28
  · exact ok_29
  · exact ok_30
  · exact ok_31
  · exact ok_32
theorem okP : OkProg Try.prog Fs10 := by
  refine ⟨fun f hf => ?_, globals0⟩
  unfold Fs10 at hf
  rw [Bool.and_eq_true] at hf
  exact okFn_of (okP_aux f (of_decide_eq_true hf.1) (of_decide_eq_true hf.2))
end Go.Proofs.Ytneclhkpgalnlaa
