/-
  ONE FLOAT APPENDED to a slice that the call itself makes: the law of the library, in the form that these walks use.
-/
import Derived.Test.YtkdiegplbloccaaLawF
import Derived.Test.YtkdiegplbloccaaApp
namespace Go.Proofs.Ytkdiegplbloccaa
open Go.ChangeShapes Go.WideShapes Go.ChangeAt Go.RowKit
set_option linter.unusedVariables false
theorem append_flt {ops : Array Oper} {rest : List Oper} {o : Oper} {a : Act} {Q : Exit → Act → World → Prop} {w1 : World} (hgd : o.guard = none) (s x : Operand)
    (ho : o.op = .call { callee := .builtin .append, args := #[s, x], argTypes := #[22, 22] }) (W : World) (v : Value) (n : Nat) (zs : List Nat) (hs : a.eval s = v)
    (hown : w1.ownsRow W.heap.size 32 1 v n (flts zs)) (hb : Below W.heap.size W w1) (g : Nat) (c : Nat) (z : Nat) (hx : a.eval x = .slice (some ⟨g, 0, none⟩) 1 c) (hc : w1.cell? ⟨g, 0, none⟩ = some (.float .f32 z)) (hn : n + 1 ≤ 4194304)
    (h : ∀ v' w', w'.ownsRow W.heap.size 32 1 v' (n + 1) (flts (zs ++ [z])) → Below W.heap.size W w' → wpList Try.prog ops Q rest (a.put o.dst v') w') : wpList Try.prog ops Q (o :: rest) a w1 := by
  obtain ⟨i0, hi, hz0, hz1, hz2⟩ := info_parts info_f32
  refine wpList_append_own w1 hgd s x 22 ho W.heap.size 32 i0 (.float .f32 0) 1 4 Try.underlying22 hi hz0 hz1 hz2 rfl (by decide) v n (flts zs) hs hown ⟨g, 0, none⟩ 1 c [.float .f32 z] hx rfl ?_ ?_ ?_ ?_ hb.size ?_
  · intro j u hj
    match j, hj with
    | 0, hj => simp at hj; subst hj; simpa [Addr.add] using hc
  · intro u hu; simp at hu; subst hu; rfl
  · unfold maxLen; omega
  · omega
  · intro v' w' h1 h2 _
    rw [← flts_one, ← flts_append] at h1
    exact h v' w' h1 (hb.grown h2 hb.size fun k hk => (hown.lt k hk).1)
/-- the same inside a region that draws its order -/
theorem step_append_flt {ops : Array Oper} {o : Oper} {a : Act} {K : Act → World → Prop} {Q : Exit → Act → World → Prop} {E : Prop} {w1 : World} (hgd : o.guard = none) (s x : Operand)
    (ho : o.op = .call { callee := .builtin .append, args := #[s, x], argTypes := #[22, 22] }) (W : World) (v : Value) (n : Nat) (zs : List Nat) (hs : a.eval s = v)
    (hown : w1.ownsRow W.heap.size 32 1 v n (flts zs)) (hb : Below W.heap.size W w1) (g : Nat) (c : Nat) (z : Nat) (hx : a.eval x = .slice (some ⟨g, 0, none⟩) 1 c) (hc : w1.cell? ⟨g, 0, none⟩ = some (.float .f32 z)) (hn : n + 1 ≤ 4194304)
    (h : ∀ v' w', w'.ownsRow W.heap.size 32 1 v' (n + 1) (flts (zs ++ [z])) → Below W.heap.size W w' → K (a.put o.dst v') w') :
    if Region.wanted o (yielded ops a.tmps) = true then Oper.wp Try.prog o a w1 K Q else E := by
  have hw : Region.wanted o (yielded ops a.tmps) = true := by simp [Region.wanted, hgd]
  rw [if_pos hw]
  obtain ⟨i0, hi, hz0, hz1, hz2⟩ := info_parts info_f32
  refine wp_append_own (w := w1) s x 22 ho W.heap.size 32 i0 (.float .f32 0) 1 4 Try.underlying22 hi hz0 hz1 hz2 rfl (by decide) v n (flts zs) hs hown ⟨g, 0, none⟩ 1 c [.float .f32 z] hx rfl ?_ ?_ ?_ ?_ hb.size ?_
  · intro j u hj
    match j, hj with
    | 0, hj => simp at hj; subst hj; simpa [Addr.add] using hc
  · intro u hu; simp at hu; subst hu; rfl
  · unfold maxLen; omega
  · omega
  · intro v' w' h1 h2 _
    rw [← flts_one, ← flts_append] at h1
    exact h v' w' h1 (hb.grown h2 hb.size fun k hk => (hown.lt k hk).1)
/-- a slice that the call itself has made, of known length -/
theorem own_rd {w W : World} {n m : Nat} {v : Value} {xs : List Nat} (h : w.ownsRow W.heap.size 32 1 v m (flts xs)) (hm : m = n) : ∃ A c, v = .slice A n c ∧ Rd w w.heap.size 1 A n (flts xs) := by
  subst hm
  obtain ⟨A, c, rfl, _⟩ := own_form h
  exact ⟨A, c, rfl, Rd.of_own h⟩
end Go.Proofs.Ytkdiegplbloccaa
