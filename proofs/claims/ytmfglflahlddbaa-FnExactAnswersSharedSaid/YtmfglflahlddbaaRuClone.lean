/-
  COPIES OF RULES: append of a rule, cloneRule, cloneRules, l05OwnRules.
-/
import Derived.Test.YtmfglflahlddbaaRuAct
import Derived.Test.YtmfglflahlddbaaCopy
import Derived.Deep.Upon
namespace Go.Proofs.Ytmfglflahlddbaa
open Go.ChangeShapes Go.WideShapes Go.ChangeAt Go.RowKit Go.Deep
set_option linter.unusedVariables false
set_option linter.unusedSimpArgs false

theorem append_intsA {ops : Array Oper} {rest : List Oper} {o : Oper} {a : Act} {Q : Exit → Act → World → Prop} {w1 : World} (hgd : o.guard = none) (s x : Operand)
    (ho : o.op = .call { callee := .builtin .append, args := #[s, x], argTypes := #[26, 26] }) (W : World) (v : Value) (n : Nat) (zs : List Int) (hs : a.eval s = v)
    (hown : w1.ownsRow W.heap.size 2 1 v n (ints zs)) (hb : Below W.heap.size W w1) (A : Option Addr) (m c : Nat) (ys : List Int) (hx : a.eval x = .slice A m c) {B : Nat} (hr : Rd w1 B 1 A m (ints ys)) (hn : n + m ≤ 4194304)
    (h : ∀ v' w', w'.ownsRow W.heap.size 2 1 v' (n + m) (ints (zs ++ ys)) → Below W.heap.size W w' → wpList Try.prog ops Q rest (a.put o.dst v') w') : wpList Try.prog ops Q (o :: rest) a w1 := by
  cases A with
  | some ad => exact append_ints hgd s x ho W v n zs hs hown hb ad m c ys hx hr hn fun v' w' h1 h2 _ => h v' w' h1 h2
  | none =>
    obtain rfl : m = 0 := by
      rcases Nat.eq_zero_or_pos m with h0 | h0
      · exact h0
      · obtain ⟨ad, e, _⟩ := hr.2 h0; cases e
    obtain rfl : ys = [] := by have := hr.ilen; exact List.length_eq_zero_iff.1 (by omega)
    obtain ⟨A', c', rfl, hle, _⟩ := own_form hown
    obtain ⟨i0, hi, hz0, hz1, hz2⟩ := info_parts info_int
    refine wpList_plain hgd fun K hK => ?_
    have hrun := run_append_nothing (P := Try.prog) w1 26 26 o.type 2 i0 Try.underlying26 hi A' n c' hle (.slice none 0 c) (Src.ofNil w1 Try.underlying26 c)
    unfold Oper.wp execOp
    simp only [ho, resolve, invoke, builtin, Sem.run_bind, Sem.run_pure, Result.andThen_ok, List.map_toArray, List.map_cons, List.map_nil, hs, hx, hrun]
    exact hK _ _ (h _ w1 (by simpa using hown) hb)
theorem own_empty2 (w : World) (e : TypeId) {g : Nat} (hg : g = w.heap.size) : (w.alloc (.cells #[] e)).ownsRow w.heap.size e 1 (.slice (some ⟨g, 0, none⟩) 0 0) 0 [] := by subst hg; exact own_empty w e
theorem cell_new5 (w : World) (r : Ru) (t : TypeId) : ∀ j, j < 5 → (w.alloc (.cells #[.int .i64 r.hd, .slice r.A r.n r.c, .int .i64 r.fr, .int .i64 r.tt, .int .i64 r.rk] t)).cell? ⟨w.heap.size, j, none⟩ = r.cells[j]? := by
  intro j hj
  rw [World.cell?_alloc_at _ _ _ _ rfl]
  match j, hj with
  | 0, _ => rfl
  | 1, _ => rfl
  | 2, _ => rfl
  | 3, _ => rfl
  | 4, _ => rfl
theorem cells_one (r : Ru) : ∀ u ∈ r.cells, u.oneCell' = true := by
  have := flat_cell1 [r]
  simpa [flat] using this
theorem append_flat {ops : Array Oper} {rest : List Oper} {o : Oper} {a : Act} {Q : Exit → Act → World → Prop} {w1 : World} (hgd : o.guard = none) (s x : Operand)
    (ho : o.op = .call { callee := .builtin .append, args := #[s, x], argTypes := #[29, 29] }) (W : World) (v : Value) (m : Nat) (xs : List Value) (hs : a.eval s = v)
    (hown : w1.ownsRow W.heap.size tR 5 v m xs) (hb : Below W.heap.size W w1) (g c : Nat) (r : Ru) (hx : a.eval x = .slice (some ⟨g, 0, none⟩) 1 c) (hc : ∀ j, j < 5 → w1.cell? ⟨g, j, none⟩ = r.cells[j]?) (hn : m ≤ 2097152)
    (h : ∀ v' w', w'.ownsRow W.heap.size tR 5 v' (m + 1) (xs ++ r.cells) → Below W.heap.size W w' → w1.grownBy w' v.ownBlock → wpList Try.prog ops Q rest (a.put o.dst v') w') : wpList Try.prog ops Q (o :: rest) a w1 := by
  obtain ⟨i0, hi, hz0, hz1, hz2⟩ := info_parts info_rule
  refine wpList_append_own w1 hgd s x 29 ho W.heap.size tR i0 (.agg #[.int .i64 0, .slice none 0 0, .int .i64 0, .int .i64 0, .int .i64 0]) 5 56 Try.underlying29 hi hz0 hz1 hz2 rfl (by decide) v m xs hs hown ⟨g, 0, none⟩ 1 c r.cells hx rfl ?_ (cells_one r) ?_ ?_ hb.size ?_
  · intro j u hj
    have hlt : j < 5 := (List.getElem?_eq_some_iff.1 hj).1
    have := hc j hlt
    rw [hj] at this
    have e : (⟨g, 0, none⟩ : Addr).add j = ⟨g, j, none⟩ := by cases j <;> simp [Addr.add]
    rw [e]; exact this
  · unfold maxLen; omega
  · omega
  · intro v' w' h1 h2 _
    exact h v' w' h1 (hb.grown h2 hb.size fun k hk => (hown.lt k hk).1) h2
theorem OwnRs.allocd {w : World} {lo m : Nat} {v : Value} {rs : List Ru} (h : OwnRs w lo v m rs) (o : Go.Obj) : OwnRs (w.alloc o) lo v m rs := h.on ((Below.refl _ _).alloc (Nat.le_refl _) o)
theorem flat_snoc (rs : List Ru) (r : Ru) : flat (rs ++ [r]) = flat rs ++ r.cells := by rw [flat_append]; simp [flat]
/-- a rule with conditions of its own is appended -/
theorem append_rule {ops : Array Oper} {rest : List Oper} {o : Oper} {a : Act} {Q : Exit → Act → World → Prop} {w1 : World} (hgd : o.guard = none) (s x : Operand)
    (ho : o.op = .call { callee := .builtin .append, args := #[s, x], argTypes := #[29, 29] }) (W : World) (v : Value) (m : Nat) (rs : List Ru) (hs : a.eval s = v)
    (hown : OwnRs w1 W.heap.size v m rs) (hb : Below W.heap.size W w1) (g c : Nat) (r : Ru) (hx : a.eval x = .slice (some ⟨g, 0, none⟩) 1 c) (hc : ∀ j, j < 5 → w1.cell? ⟨g, j, none⟩ = r.cells[j]?) (hn : m ≤ 2097152)
    {h' : Nat} (hi : w1.ownsRow h' tI 1 r.V r.n (ints r.ifs)) (hh : W.heap.size ≤ h') (hlt : ∀ a ∈ rs, ∀ g, a.V.ownBlock = some g → g < h')
    (h : ∀ v' w', OwnRs w' W.heap.size v' (m + 1) (rs ++ [r]) → Below W.heap.size W w' → wpList Try.prog ops Q rest (a.put o.dst v') w') : wpList Try.prog ops Q (o :: rest) a w1 := by
  refine append_flat hgd s x ho W v m (flat rs) hs hown.outer hb g c r hx hc hn fun v' w' h1 h2 h3 => ?_
  refine h v' w' ⟨by rw [flat_snoc]; exact h1, fun a ha => ?_, apart_snoc (w := w1) (lo := W.heap.size) hown.apart hlt fun g hg => (hi.lt g hg).1⟩ h2
  rcases List.mem_append.1 ha with ha | ha
  · exact World.ownsRow.kept (hown.inner a ha) h3 (own_kinds (hown.inner a ha) hown.outer (Ne.symm tR_ne_tI))
  · rw [List.mem_singleton.1 ha]
    exact World.ownsRow.kept (own_base hi hh) h3 (own_kinds hi hown.outer (Ne.symm tR_ne_tI))
theorem own_emptyR (w : World) : (w.alloc (.cells #[] tR)).ownsRow w.heap.size tR 5 (.slice (some ⟨w.heap.size, 0, none⟩) 0 0) 0 [] :=
  World.ownsRow_lit w #[] 0 (Nat.le_refl _) (Nat.zero_le _) (by simp)
theorem ownRs_empty (w : World) : OwnRs (w.alloc (.cells #[] tR)) w.heap.size (.slice (some ⟨w.heap.size, 0, none⟩) 0 0) 0 [] :=
  ⟨own_emptyR w, fun r hr => (by cases hr), fun i j a b h => by simp at h⟩
theorem dat_more {rs rs' : List Ru} {k : Nat} {r r' : Ru} (h : rs'.map Ru.dat = (rs.take k).map Ru.dat) (hr : rs[k]? = some r) (e : r'.dat = r.dat) : (rs' ++ [r']).map Ru.dat = (rs.take (k + 1)).map Ru.dat := by
  rw [take_more hr, List.map_append, List.map_append, h, List.map_cons, List.map_cons, e]
theorem own_setfar {w : World} {base : Nat} {e : TypeId} {size n : Nat} {v : Value} {xs : List Value} (h : w.ownsRow base e size v n xs) {p : Addr} (hp : ∀ g, v.ownBlock = some g → g ≠ p.block) (u : Value) : (w.setCell p u).ownsRow base e size v n xs := by
  refine ⟨h.1, ?_⟩
  rcases h.2 with hn | ⟨g, cap, cur, rfl, hg, hgg, rest⟩
  · exact .inl hn
  · have := hp g rfl
    exact .inr ⟨g, cap, cur, rfl, hg, (Below.heap_setCell w p u g (by omega)).trans hgg, rest⟩
theorem OwnRs.setfar {w : World} {lo hi m : Nat} {v : Value} {rs : List Ru} (h : OwnRs w lo v m rs) (hI : InR hi v rs) {p : Addr} (hp : hi ≤ p.block) (u : Value) : OwnRs (w.setCell p u) lo v m rs :=
  ⟨own_setfar h.outer (fun g hg => by have := hI.1 g hg; omega) u, fun r hr => own_setfar (h.inner r hr) (fun g hg => by have := hI.2 r hr g hg; omega) u, h.apart⟩
end Go.Proofs.Ytmfglflahlddbaa
