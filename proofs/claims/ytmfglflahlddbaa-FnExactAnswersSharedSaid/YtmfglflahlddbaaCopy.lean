/-
  A LIST OF NUMBERS APPENDED, AND slices.Clone: what they leave.
-/
import Derived.Test.YtmfglflahlddbaaApp
import Derived.WalkSpells
namespace Go.Proofs.Ytmfglflahlddbaa
open Go.ChangeShapes Go.WideShapes Go.ChangeAt Go.RowKit
set_option linter.unusedVariables false

theorem append_ints {ops : Array Oper} {rest : List Oper} {o : Oper} {a : Act} {Q : Exit → Act → World → Prop} {w1 : World} (hgd : o.guard = none) (s x : Operand)
    (ho : o.op = .call { callee := .builtin .append, args := #[s, x], argTypes := #[26, 26] }) (W : World) (v : Value) (n : Nat) (zs : List Int) (hs : a.eval s = v)
    (hown : w1.ownsRow W.heap.size 2 1 v n (ints zs)) (hb : Below W.heap.size W w1) (ad : Addr) (m c : Nat) (ys : List Int) (hx : a.eval x = .slice (some ad) m c) {B : Nat} (hr : Rd w1 B 1 (some ad) m (ints ys)) (hn : n + m ≤ 4194304)
    (h : ∀ v' w', w'.ownsRow W.heap.size 2 1 v' (n + m) (ints (zs ++ ys)) → Below W.heap.size W w' → (v'.ownBlock = v.ownBlock ∨ v'.ownBlock = some w1.heap.size) → wpList Try.prog ops Q rest (a.put o.dst v') w') : wpList Try.prog ops Q (o :: rest) a w1 := by
  obtain ⟨i0, hi, hz0, hz1, hz2⟩ := info_parts info_int
  refine wpList_append_own_at w1 hgd s x 26 ho W.heap.size 2 i0 (.int .i64 0) 1 8 Try.underlying26 hi hz0 hz1 hz2 rfl (by decide) v n (ints zs) hs hown ad m c (ints ys) hx hr.1 ?_ (ints_cells ys) ?_ ?_ hb.size ?_
  · intro j u hj
    rcases Nat.eq_zero_or_pos m with h0 | h0
    · subst h0
      have := hr.1
      rw [List.getElem?_eq_none (by omega)] at hj
      cases hj
    · obtain ⟨ad', e, _, hc⟩ := hr.2 h0
      cases e
      exact hc j u hj
  · unfold maxLen; omega
  · omega
  · intro v' w' h1 h2 _ h3
    rw [← ints_append] at h1
    exact h v' w' h1 (hb.grown h2 hb.size fun k hk => (hown.lt k hk).1) h3
end Go.Proofs.Ytmfglflahlddbaa
