/-
  judged: the court that has gone through everything.
-/
import Derived.Test.YtmfglflahlddbaaCourtP
import Derived.Test.YtmfglflahlddbaaRuClone
import Derived.Deep.RegionHeld3
import Derived.Deep.RegionLaw
import Derived.Deep.RegionLawGrows
namespace Go.Proofs.Ytmfglflahlddbaa
open Go.ChangeShapes Go.WideShapes Go.ChangeAt Go.RowKit
set_option linter.unusedVariables false
set_option linter.unusedSimpArgs false

theorem rd_two (w : World) (a b : Int) (t : TypeId) : Rd (w.alloc (.cells #[.int .i64 a, .int .i64 b] t)) (w.heap.size + 1) 1 (some ⟨w.heap.size, 0, none⟩) 2 (ints [a, b]) := by
  refine ⟨rfl, fun _ => ⟨_, rfl, by simp, fun j u hu => ?_⟩⟩
  have hj : j < 2 := by
    have := (List.getElem?_eq_some_iff.1 hu).1
    simpa [ints] using this
  have e : (⟨w.heap.size, 0, none⟩ : Addr).add j = ⟨w.heap.size, j, none⟩ := by cases j <;> simp [Addr.add]
  rw [e, World.cell?_alloc_at _ _ _ _ rfl]
  match j, hj with
  | 0, _ => exact hu
  | 1, _ => exact hu
/-! ### the words -/
theorem words_take (k : Nat) (h : k < 16) : wordList.take (2 * (k + 1)) = wordList.take (2 * k) ++ [((k + 1 : Nat) : Int), -((k + 1 : Nat) : Int)] := by
  have : ∀ k, k < 16 → wordList.take (2 * (k + 1)) = wordList.take (2 * k) ++ [((k + 1 : Nat) : Int), -((k + 1 : Nat) : Int)] := by decide
  exact this k h
theorem words_len (k : Nat) (h : k ≤ 16) : (wordList.take (2 * k)).length = 2 * k := by
  rw [List.length_take, show wordList.length = 32 by decide]; omega
set_option maxHeartbeats 800000 in
theorem words_is (w : World) : Calls Try.prog 49 #[] w fun e w' => ∃ v, e = .returned v ∧ w'.ownsRow w.heap.size 2 1 v 32 (ints wordList) ∧ Below w.heap.size w w' := by
  go_enter Try.func49, Try.ntmps49
  go_wp2_with fail
  go_loopw [1, 2] (fun v i wr => ∃ k : Nat, k ≤ 16 ∧ i = .int .i64 ((k + 1 : Nat) : Int) ∧ wr.ownsRow w.heap.size 2 1 v (2 * k) (ints (wordList.take (2 * k))) ∧ Below w.heap.size w wr) (fun _ i _ => 17 - (intOf i).toNat)
  case atStart => exact ⟨0, Nat.zero_le _, rfl, own_empty _ _, (Below.refl _ _).alloc (Nat.le_refl _) _⟩
  case round =>
    obtain ⟨k, hk, rfl, hown, hbw⟩ := hrel
    by_cases hlt : k < 16
    · have hst := Lib.hid (words_take k hlt)
      have hcast : ((k + 1 : Nat) : Int) = (k : Int) + 1 := by omega
      rw [hcast] at hst ⊢
      have h1 : (k : Int) + 1 ≤ 16 := by omega
      have h0 : (0 : Int) ≤ k := by omega
      clear hcast
      go_wp2_with (at_builtin; refine append_ints rfl (.tmp 8) (.tmp 12) rfl w _ (2 * k) (wordList.take (2 * k)) rfl (hown.alloc _) (hbw.alloc hbw.size _) _ 2 2 [(k : Int) + 1, -((k : Int) + 1)] rfl (rd_two _ _ _ _) (by omega) ?_; intro v' w' ho2 hb2 _)
      go_roundw
      case rel => exact ⟨k + 1, by omega, by go_num, by rw [hst.out]; exact ho2, hb2⟩
      case measure => simp [intOf]; omega
    · obtain rfl : k = 16 := by omega
      have hfin := Lib.hid (show wordList.take (2 * 16) = wordList by decide)
      rw [hfin.out] at hown
      go_wp2_with fail
      go_ret
      exact ⟨_, rfl, hown, hbw⟩
/-! ### the court is made, with the active rules -/
def actR (rs : List Ru) (day : Int) : List Ru := rs.filter fun r => onB r.dat day
theorem actR_snoc {rs : List Ru} {k : Nat} {r : Ru} (day : Int) (h : rs[k]? = some r) : actR (rs.take (k + 1)) day = if onB r.dat day then actR (rs.take k) day ++ [r] else actR (rs.take k) day := by
  unfold actR
  rw [List.take_add_one, h, List.filter_append]
  cases e : onB r.dat day <;> simp [e]
theorem step_append_flat {ops : Array Oper} {o : Oper} {a : Act} {K : Act → World → Prop} {Q : Exit → Act → World → Prop} {E : Prop} {w1 : World} (hgd : o.guard = none) (s x : Operand)
    (ho : o.op = .call { callee := .builtin .append, args := #[s, x], argTypes := #[29, 29] }) (B : Nat) (v : Value) (m : Nat) (xs : List Value) (hs : a.eval s = v)
    (hown : w1.ownsRow B tR 5 v m xs) (hB : B ≤ w1.heap.size) (g c : Nat) (r : Ru) (hx : a.eval x = .slice (some ⟨g, 0, none⟩) 1 c) (hc : ∀ j, j < 5 → w1.cell? ⟨g, j, none⟩ = r.cells[j]?) (hn : m ≤ 2097152)
    (h : ∀ v' w', w'.ownsRow B tR 5 v' (m + 1) (xs ++ r.cells) → w1.grownBy w' v.ownBlock → K (a.put o.dst v') w') :
    if Region.wanted o (yielded ops a.tmps) = true then Oper.wp Try.prog o a w1 K Q else E := by
  have hw : Region.wanted o (yielded ops a.tmps) = true := by simp [Region.wanted, hgd]
  rw [if_pos hw]
  obtain ⟨i0, hi, hz0, hz1, hz2⟩ := info_parts info_rule
  refine wp_append_own (w := w1) s x 29 ho B tR i0 (.agg #[.int .i64 0, .slice none 0 0, .int .i64 0, .int .i64 0, .int .i64 0]) 5 56 Try.underlying29 hi hz0 hz1 hz2 rfl (by decide) v m xs hs hown ⟨g, 0, none⟩ 1 c r.cells hx rfl ?_ (cells_one r) ?_ ?_ hB ?_
  · intro j u hj
    have hlt : j < 5 := (List.getElem?_eq_some_iff.1 hj).1
    have := hc j hlt
    rw [hj] at this
    have e : (⟨g, 0, none⟩ : Addr).add j = ⟨g, j, none⟩ := by cases j <;> simp [Addr.add]
    rw [e]; exact this
  · unfold maxLen; omega
  · omega
  · intro v' w' h1 h2 _
    exact h v' w' h1 h2
theorem step_append_i {ops : Array Oper} {o : Oper} {a : Act} {K : Act → World → Prop} {Q : Exit → Act → World → Prop} {E : Prop} {w1 : World} (hgd : o.guard = none) (s x : Operand)
    (ho : o.op = .call { callee := .builtin .append, args := #[s, x], argTypes := #[26, 26] }) (B : Nat) (v : Value) (n : Nat) (zs : List Int) (hs : a.eval s = v)
    (hown : w1.ownsRow B 2 1 v n (ints zs)) (hB : B ≤ w1.heap.size) (g : Nat) (c : Nat) (z : Int) (hx : a.eval x = .slice (some ⟨g, 0, none⟩) 1 c) (hc : w1.cell? ⟨g, 0, none⟩ = some (.int .i64 z)) (hn : n + 1 ≤ 4194304)
    (h : ∀ v' w', w'.ownsRow B 2 1 v' (n + 1) (ints (zs ++ [z])) → w1.grownBy w' v.ownBlock → K (a.put o.dst v') w') :
    if Region.wanted o (yielded ops a.tmps) = true then Oper.wp Try.prog o a w1 K Q else E := by
  have hw : Region.wanted o (yielded ops a.tmps) = true := by simp [Region.wanted, hgd]
  rw [if_pos hw]
  obtain ⟨i0, hi, hz0, hz1, hz2⟩ := info_parts info_int
  refine wp_append_own (w := w1) s x 26 ho B 2 i0 (.int .i64 0) 1 8 Try.underlying26 hi hz0 hz1 hz2 rfl (by decide) v n (ints zs) hs hown ⟨g, 0, none⟩ 1 c [.int .i64 z] hx rfl ?_ ?_ ?_ ?_ hB ?_
  · intro j u hj
    match j, hj with
    | 0, hj => simp at hj; subst hj; simpa [Addr.add] using hc
  · intro u hu; simp at hu; subst hu; rfl
  · unfold maxLen; omega
  · omega
  · intro v' w' h1 h2 _
    rw [← ints_one, ← ints_append] at h1
    exact h v' w' h1 h2
/-- the cells that a round reads and writes: the court's first two, the rule in its box -/
structure CF (w : World) (cb : Nat) (v0 v1 : Value) (bx : Nat) (r : Ru) : Prop where
  lc : cb < w.heap.size
  lb : bx < w.heap.size
  c0 : w.cell? ⟨cb, 0, none⟩ = some v0
  c1 : w.cell? ⟨cb, 1, none⟩ = some v1
  b0 : w.cell? ⟨bx, 0, none⟩ = some (.int .i64 r.hd)
  b1 : w.cell? ⟨bx, 1, none⟩ = some (.slice r.A r.n r.c)
  b2 : w.cell? ⟨bx, 2, none⟩ = some (.int .i64 r.fr)
  b3 : w.cell? ⟨bx, 3, none⟩ = some (.int .i64 r.tt)
  b4 : w.cell? ⟨bx, 4, none⟩ = some (.int .i64 r.rk)
  f0 : w.frozen? ⟨cb, 0, none⟩ = false
  f1 : w.frozen? ⟨cb, 1, none⟩ = false
theorem CF.grown {w w' : World} {cb : Nat} {v0 v1 : Value} {bx : Nat} {r : Ru} {row : Option Nat} (h : CF w cb v0 v1 bx r) (hg : w.grownBy w' row) (h1 : row ≠ some cb) (h2 : row ≠ some bx) : CF w' cb v0 v1 bx r :=
  ⟨Nat.lt_of_lt_of_le h.lc hg.size, Nat.lt_of_lt_of_le h.lb hg.size, hg.cell h.c0 (fun e => h1 e.symm), hg.cell h.c1 (fun e => h1 e.symm), hg.cell h.b0 (fun e => h2 e.symm), hg.cell h.b1 (fun e => h2 e.symm), hg.cell h.b2 (fun e => h2 e.symm), hg.cell h.b3 (fun e => h2 e.symm), hg.cell h.b4 (fun e => h2 e.symm),
    (by have := hg.block cb h.lc (fun e => h1 e.symm); have h0 := h.f0; unfold World.frozen? at *; simpa [this] using h0), (by have := hg.block cb h.lc (fun e => h1 e.symm); have h0 := h.f1; unfold World.frozen? at *; simpa [this] using h0)⟩
theorem CF.alloc {w : World} {cb : Nat} {v0 v1 : Value} {bx : Nat} {r : Ru} (h : CF w cb v0 v1 bx r) (o : Go.Obj) : CF (w.alloc o) cb v0 v1 bx r := h.grown (World.grownBy_alloc w o none) (by simp) (by simp)
theorem CF.drew {w : World} {cb : Nat} {v0 v1 : Value} {bx : Nat} {r : Ru} (h : CF w cb v0 v1 bx r) : CF w.drew cb v0 v1 bx r := ⟨h.lc, h.lb, h.c0, h.c1, h.b0, h.b1, h.b2, h.b3, h.b4, h.f0, h.f1⟩
/-- what stands in the middle of a round: the two rows of the call's own, the cells -/
structure SJ (w0 w : World) (b3 : Nat) (va : Value) (na : Nat) (xa : List Value) (vb : Value) (nb : Nat) (zb : List Int) (cb : Nat) (v0 v1 : Value) (bx : Nat) (r : Ru) : Prop where
  o0 : w.ownsRow b3 tR 5 va na xa
  o1 : w.ownsRow b3 tI 1 vb nb (ints zb)
  cf : CF w cb v0 v1 bx r
  sz : b3 ≤ w.heap.size
  be : Below b3 w0 w
section
variable {w0 w w' : World} {b3 : Nat} {va : Value} {na : Nat} {xa : List Value} {vb : Value} {nb : Nat} {zb : List Int} {cb : Nat} {v0 v1 : Value} {bx : Nat} {r : Ru}
theorem SJ.alloc (h : SJ w0 w b3 va na xa vb nb zb cb v0 v1 bx r) (o : Go.Obj) : SJ w0 (w.alloc o) b3 va na xa vb nb zb cb v0 v1 bx r :=
  ⟨own_on h.o0 (bl_a o), own_on h.o1 (bl_a o), h.cf.alloc o, Nat.le_trans h.sz (bl_a o).size, h.be.alloc h.sz o⟩
theorem SJ.drew (h : SJ w0 w b3 va na xa vb nb zb cb v0 v1 bx r) : SJ w0 w.drew b3 va na xa vb nb zb cb v0 v1 bx r := ⟨h.o0, h.o1, h.cf.drew, h.sz, h.be.drew⟩
theorem SJ.app0 {va' : Value} {na' : Nat} {xa' : List Value} (h : SJ w0 w b3 va na xa vb nb zb cb v0 v1 bx r) (ne : va.ownBlock ≠ some bx) (lc : cb < b3) (ho : w'.ownsRow b3 tR 5 va' na' xa') (hg : w.grownBy w' va.ownBlock) : SJ w0 w' b3 va' na' xa' vb nb zb cb v0 v1 bx r :=
  ⟨ho, World.ownsRow.kept h.o1 hg (own_kinds h.o1 h.o0 (Ne.symm tR_ne_tI)), h.cf.grown hg (fun e => by have := (h.o0.lt _ e).1; omega) ne, Nat.le_trans h.sz hg.size, h.be.grown hg h.sz fun k hk => (h.o0.lt k hk).1⟩
theorem SJ.app1 {vb' : Value} {nb' : Nat} {zb' : List Int} (h : SJ w0 w b3 va na xa vb nb zb cb v0 v1 bx r) (ne : vb.ownBlock ≠ some bx) (lc : cb < b3) (ho : w'.ownsRow b3 tI 1 vb' nb' (ints zb')) (hg : w.grownBy w' vb.ownBlock) : SJ w0 w' b3 va na xa vb' nb' zb' cb v0 v1 bx r :=
  ⟨World.ownsRow.kept h.o0 hg (own_kinds h.o0 h.o1 tR_ne_tI), ho, h.cf.grown hg (fun e => by have := (h.o1.lt _ e).1; omega) ne, Nat.le_trans h.sz hg.size, h.be.grown hg h.sz fun k hk => (h.o1.lt k hk).1⟩
end
/-- the court in the making -/
structure JR (W wr : World) (B : Option Addr) (k d : Nat) (v0 v1 : Value) (rs' : List Ru) (zs : List Int) : Prop where
  sz : W.heap.size + 3 ≤ wr.heap.size
  be : Below W.heap.size W wr
  c0 : wr.cell? ⟨W.heap.size + 2, 0, none⟩ = some v0
  c1 : wr.cell? ⟨W.heap.size + 2, 1, none⟩ = some v1
  c2 : wr.cell? ⟨W.heap.size + 2, 2, none⟩ = some (.slice B k d)
  c3 : wr.cell? ⟨W.heap.size + 2, 3, none⟩ = some (.map (some W.heap.size))
  c4 : wr.cell? ⟨W.heap.size + 2, 4, none⟩ = some (.map (some (W.heap.size + 1)))
  f0 : wr.frozen? ⟨W.heap.size + 2, 0, none⟩ = false
  f1 : wr.frozen? ⟨W.heap.size + 2, 1, none⟩ = false
  o0 : wr.ownsRow (W.heap.size + 3) tR 5 v0 rs'.length (flat rs')
  o1 : wr.ownsRow (W.heap.size + 3) tI 1 v1 zs.length (ints zs)
  m0 : MapB wr W.heap.size fun _ => false
  m1 : MapB wr (W.heap.size + 1) fun _ => false
section
variable {W wr w' : World} {B : Option Addr} {k d : Nat} {v0 v1 : Value} {rs' : List Ru} {zs : List Int}
theorem grown_setCell (w : World) (b i : Nat) (v : Value) : w.grownBy (w.setCell ⟨b, i, none⟩ v) (some b) :=
  ⟨rfl, rfl, rfl, by simp [World.setCell], fun k _ hne => Below.heap_setCell _ _ _ _ (fun e => hne (by simp [e]))⟩
theorem frozen_of_block {a b : World} {p : Addr} (h : b.heap[p.block]? = a.heap[p.block]?) : b.frozen? p = a.frozen? p := by unfold World.frozen?; rw [h]
theorem JR.on (h : JR W wr B k d v0 v1 rs' zs) (hb : Below wr.heap.size wr w') : JR W w' B k d v0 v1 rs' zs := by
  have hl : W.heap.size + 2 < wr.heap.size := by have := h.sz; omega
  exact ⟨Nat.le_trans h.sz hb.size, below_step h.be hb, (hb.cell (p := ⟨_, 0, none⟩) hl).trans h.c0, (hb.cell (p := ⟨_, 1, none⟩) hl).trans h.c1, (hb.cell (p := ⟨_, 2, none⟩) hl).trans h.c2, (hb.cell (p := ⟨_, 3, none⟩) hl).trans h.c3, (hb.cell (p := ⟨_, 4, none⟩) hl).trans h.c4,
    (frozen_of_block (p := ⟨_, 0, none⟩) (hb.block _ hl)).trans h.f0, (frozen_of_block (p := ⟨_, 1, none⟩) (hb.block _ hl)).trans h.f1, own_on h.o0 hb, own_on h.o1 hb, h.m0.below hb h.m0.lt, h.m1.below hb h.m1.lt⟩
/-- a round's end -/
theorem JR.fin {wX : World} {va vb : Value} {na : Nat} {ra : List Ru} {zb : List Int} {bx : Nat} {r : Ru} (h : JR W wr B k d v0 v1 rs' zs) (hS : SJ wr wX (W.heap.size + 3) va ra.length (flat ra) vb zb.length zb (W.heap.size + 2) v0 v1 bx r) :
    JR W ((wX.setCell ⟨W.heap.size + 2, 0, none⟩ va).setCell ⟨W.heap.size + 2, 1, none⟩ vb) B k d va vb ra zb := by
  have hl : W.heap.size + 2 < wX.heap.size := hS.cf.lc
  have hb0 := hS.be
  have hg0 : wX.grownBy (wX.setCell ⟨W.heap.size + 2, 0, none⟩ va) (some (W.heap.size + 2)) := grown_setCell _ _ _ _
  have hg1 : (wX.setCell ⟨W.heap.size + 2, 0, none⟩ va).grownBy ((wX.setCell ⟨W.heap.size + 2, 0, none⟩ va).setCell ⟨W.heap.size + 2, 1, none⟩ vb) (some (W.heap.size + 2)) := grown_setCell _ _ _ _
  have hg := hg0.trans hg1
  refine ⟨Nat.le_trans hS.sz (by simp), (h.be.trans (hb0.mono (by omega))).grown hg (by have := hS.sz; omega) (fun k hk => by injection hk with hk; omega), ?_, ?_, ?_, ?_, ?_, ?_, ?_,
    own_far (own_far hS.o0 (p := ⟨W.heap.size + 2, 0, none⟩) (by simp only; omega) va) (p := ⟨W.heap.size + 2, 1, none⟩) (by simp only; omega) vb,
    own_far (own_far hS.o1 (p := ⟨W.heap.size + 2, 0, none⟩) (by simp only; omega) va) (p := ⟨W.heap.size + 2, 1, none⟩) (by simp only; omega) vb,
    (h.m0.below hb0 (by omega)).kept hg (by simp), (h.m1.below hb0 (by omega)).kept hg (by simp)⟩
  all_goals have e2 := (hb0.cell (p := ⟨W.heap.size + 2, 2, none⟩) (by simp only; omega)).trans h.c2
  all_goals have e3 := (hb0.cell (p := ⟨W.heap.size + 2, 3, none⟩) (by simp only; omega)).trans h.c3
  all_goals have e4 := (hb0.cell (p := ⟨W.heap.size + 2, 4, none⟩) (by simp only; omega)).trans h.c4
  all_goals have e0 := hS.cf.c0
  all_goals have e1 := hS.cf.c1
  all_goals have g0 := hS.cf.f0
  all_goals have g1 := hS.cf.f1
  all_goals go_simp
end
end Go.Proofs.Ytmfglflahlddbaa
