/-
  ONE NUMBER APPENDED to a slice that the call itself makes: the law of the library, in the form that these walks use.
-/
import Derived.Test.YtmfglflahlddbaaList
import Derived.StillTailTactics
import Derived.Deep.RegionHeld3
import Derived.Deep.AppendLies
namespace Go.Proofs.Ytmfglflahlddbaa
open Go.ChangeShapes Go.WideShapes Go.ChangeAt Go.RowKit
set_option linter.unusedVariables false

theorem cell_new (w : World) (x : Value) (t : TypeId) : (w.alloc (.cells #[x] t)).cell? ⟨w.heap.size, 0, none⟩ = some x := by
  rw [World.cell?_alloc_at _ _ _ _ rfl]; rfl
theorem info_int : (Try.prog.info? 2).map (fun i => (i.zero, i.size, i.bytes)) = some (some (.int .i64 0), 1, 8) := by kernel_rfl
/-- the empty slice that is made in place -/
theorem own_empty (w : World) (e : TypeId) : (w.alloc (.cells #[] e)).ownsRow w.heap.size e 1 (.slice (some ⟨w.heap.size, 0, none⟩) 0 0) 0 [] :=
  World.ownsRow_lit w #[] 0 (Nat.le_refl _) (Nat.zero_le _) (by simp)
theorem append_int {ops : Array Oper} {rest : List Oper} {o : Oper} {a : Act} {Q : Exit → Act → World → Prop} {w1 : World} (hgd : o.guard = none) (s x : Operand)
    (ho : o.op = .call { callee := .builtin .append, args := #[s, x], argTypes := #[26, 26] }) (W : World) (v : Value) (n : Nat) (zs : List Int) (hs : a.eval s = v)
    (hown : w1.ownsRow W.heap.size 2 1 v n (ints zs)) (hb : Below W.heap.size W w1) (g : Nat) (c : Nat) (z : Int) (hx : a.eval x = .slice (some ⟨g, 0, none⟩) 1 c) (hc : w1.cell? ⟨g, 0, none⟩ = some (.int .i64 z)) (hn : n + 1 ≤ 4194304)
    (h : ∀ v' w', w'.ownsRow W.heap.size 2 1 v' (n + 1) (ints (zs ++ [z])) → Below W.heap.size W w' → wpList Try.prog ops Q rest (a.put o.dst v') w') : wpList Try.prog ops Q (o :: rest) a w1 := by
  obtain ⟨i0, hi, hz0, hz1, hz2⟩ := info_parts info_int
  refine wpList_append_own w1 hgd s x 26 ho W.heap.size 2 i0 (.int .i64 0) 1 8 Try.underlying26 hi hz0 hz1 hz2 rfl (by decide) v n (ints zs) hs hown ⟨g, 0, none⟩ 1 c [.int .i64 z] hx rfl ?_ ?_ ?_ ?_ hb.size ?_
  · intro j u hj
    match j, hj with
    | 0, hj => simp at hj; subst hj; simpa [Addr.add] using hc
  · intro u hu; simp at hu; subst hu; rfl
  · unfold maxLen; omega
  · omega
  · intro v' w' h1 h2 _
    rw [← ints_one, ← ints_append] at h1
    exact h v' w' h1 (hb.grown h2 hb.size fun k hk => (hown.lt k hk).1)
/-- the same inside a region that draws its order -/
theorem step_append_int {ops : Array Oper} {o : Oper} {a : Act} {K : Act → World → Prop} {Q : Exit → Act → World → Prop} {E : Prop} {w1 : World} (hgd : o.guard = none) (s x : Operand)
    (ho : o.op = .call { callee := .builtin .append, args := #[s, x], argTypes := #[26, 26] }) (W : World) (v : Value) (n : Nat) (zs : List Int) (hs : a.eval s = v)
    (hown : w1.ownsRow W.heap.size 2 1 v n (ints zs)) (hb : Below W.heap.size W w1) (g : Nat) (c : Nat) (z : Int) (hx : a.eval x = .slice (some ⟨g, 0, none⟩) 1 c) (hc : w1.cell? ⟨g, 0, none⟩ = some (.int .i64 z)) (hn : n + 1 ≤ 4194304)
    (h : ∀ v' w', w'.ownsRow W.heap.size 2 1 v' (n + 1) (ints (zs ++ [z])) → Below W.heap.size W w' → K (a.put o.dst v') w') :
    if Region.wanted o (yielded ops a.tmps) = true then Oper.wp Try.prog o a w1 K Q else E := by
  have hw : Region.wanted o (yielded ops a.tmps) = true := by simp [Region.wanted, hgd]
  rw [if_pos hw]
  obtain ⟨i0, hi, hz0, hz1, hz2⟩ := info_parts info_int
  refine wp_append_own (w := w1) s x 26 ho W.heap.size 2 i0 (.int .i64 0) 1 8 Try.underlying26 hi hz0 hz1 hz2 rfl (by decide) v n (ints zs) hs hown ⟨g, 0, none⟩ 1 c [.int .i64 z] hx rfl ?_ ?_ ?_ ?_ hb.size ?_
  · intro j u hj
    match j, hj with
    | 0, hj => simp at hj; subst hj; simpa [Addr.add] using hc
  · intro u hu; simp at hu; subst hu; rfl
  · unfold maxLen; omega
  · omega
  · intro v' w' h1 h2 _
    rw [← ints_one, ← ints_append] at h1
    exact h v' w' h1 (hb.grown h2 hb.size fun k hk => (hown.lt k hk).1)
theorem Rd.intB {w : World} {B n : Nat} {A : Option Addr} {zs : List Int} {k : Nat} (h : Rd w B 1 A n (ints zs)) (hk : k < n) : ∃ ad, A = some ad ∧ (ad.add k).block < B ∧ w.cell? (ad.add k) = some (.int .i64 (zs[k]?.getD 0)) := by
  obtain ⟨ad, u, e, hb, hx, hc⟩ := h.at_ hk
  rw [ints_getD (by have := h.ilen; omega)] at hx
  cases hx
  exact ⟨ad, e, by rw [add_block]; exact hb, hc⟩
end Go.Proofs.Ytmfglflahlddbaa
