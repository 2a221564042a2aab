/-
  ReadRule: the program's function.
-/
import Derived.Test.YtinocfehjdlohaaDoorReadD
namespace Go.Proofs.YtinocfehjdlohaaDoor
open Go.ChangeShapes Go.WideShapes Go.ChangeAt Go.RowKit
set_option linter.unusedVariables false
set_option linter.unusedSimpArgs false

theorem results_cell_tmp {P : Program} {fn : Func} {p q : Tmp} {ty : TypeId} (h : fn.results = #[.cell p ty, .tmp q]) (tmps : Array Value) (w : World) {ad : Addr} {v u : Value} (ha : tmps.getD p undef = .pointer (some ad)) (hu : tmps.getD q undef = u) (hl : (loadVar ty ad).run P w = .ok v w) :
    (results fn tmps).run P w = .ok (.tuple #[v, u]) w := by
  subst hu
  simp only [results, h]
  simp only [Sem.run_bind, List.mapM_toArray] at *
  simp [Sem.run_bind, Result.andThen]
  have ha' : tmps[p]?.getD undef = .pointer (some ad) := by simpa [Array.getD_eq_getD_getElem?] using ha
  rw [ha']
  have e1 : Sem.run P (asAddr (.pointer (some ad))) w = .ok ad w := rfl
  rw [e1]
  simp only
  rw [hl]
  simp
def zr : Ru := ⟨0, 0, 0, 0, none, 0, 0, []⟩
/-- the two boxes of a reading function: what is returned, what is filled -/
structure RI (W w : World) (g0 g base : Nat) (r : Ru) : Prop where
  be : Below W.heap.size W w
  b0 : BoxF w g0 zr
  b1 : BoxF w g r
  h0 : W.heap.size ≤ g0
  h1 : W.heap.size ≤ g
  ne : g0 ≠ g
  l0 : g0 < base
  l1 : g < base
  lb : base ≤ w.heap.size
theorem box_of_block {w w' : World} {g : Nat} {r : Ru} (h : BoxF w g r) (e : w'.heap[g]? = w.heap[g]?) : BoxF w' g r :=
  ⟨⟨(World.cell?_of_block (a := ⟨g, 0, none⟩) e).trans h.box.c0, (World.cell?_of_block (a := ⟨g, 1, none⟩) e).trans h.box.c1, (World.cell?_of_block (a := ⟨g, 2, none⟩) e).trans h.box.c2, (World.cell?_of_block (a := ⟨g, 3, none⟩) e).trans h.box.c3, (World.cell?_of_block (a := ⟨g, 4, none⟩) e).trans h.box.c4⟩, fun o => (World.frozen?_of_block (a := ⟨g, o, none⟩) e).trans (h.fz o)⟩
theorem set_far (w : World) (g o j : Nat) (u : Value) (h : o ≠ j) : (w.setCell ⟨g, o, none⟩ u).cell? ⟨g, j, none⟩ = w.cell? ⟨g, j, none⟩ := World.cell?_setCell_other _ _ _ _ (by intro e; injection e with _ e; first | exact h e | exact h e.symm)
section
variable {W w w' : World} {g0 g base : Nat} {r : Ru}
theorem RI.on (h : RI W w g0 g base r) (hb : Below w.heap.size w w') : RI W w' g0 g base r :=
  ⟨below_step h.be hb, h.b0.below hb (by have := h.l0; have := h.lb; omega), h.b1.below hb (by have := h.l1; have := h.lb; omega), h.h0, h.h1, h.ne, h.l0, h.l1, Nat.le_trans h.lb hb.size⟩
theorem RI.grow {row : Option Nat} (h : RI W w g0 g base r) (hg : w.grownBy w' row) (hr : ∀ k, row = some k → base ≤ k) : RI W w' g0 g base r :=
  ⟨below_grown h.be hg fun k hk => by have := hr k hk; have := h.l0; have := h.h0; omega,
   box_of_block h.b0 (hg.block g0 (by have := h.l0; have := h.lb; omega) fun e => by have := hr _ e.symm; have := h.l0; omega),
   box_of_block h.b1 (hg.block g (by have := h.l1; have := h.lb; omega) fun e => by have := hr _ e.symm; have := h.l1; omega), h.h0, h.h1, h.ne, h.l0, h.l1, Nat.le_trans h.lb hg.size⟩
theorem RI.more (h : RI W w g0 g base r) {b : Nat} (h1 : base ≤ b) (h2 : b ≤ w.heap.size) : RI W w g0 g b r :=
  ⟨h.be, h.b0, h.b1, h.h0, h.h1, h.ne, by have := h.l0; omega, by have := h.l1; omega, h2⟩
theorem RI.set (h : RI W w g0 g base r) (o : Nat) (u : Value) (r' : Ru) (hb : Box (w.setCell ⟨g, o, none⟩ u) g r') : RI W (w.setCell ⟨g, o, none⟩ u) g0 g base r' :=
  ⟨h.be.setCell (p := ⟨g, o, none⟩) h.h1 u, h.b0.far (fun e => h.ne e.symm) u, ⟨hb, fun j => by rw [frozen_set]; exact h.b1.fz j⟩, h.h0, h.h1, h.ne, h.l0, h.l1, by simpa [World.setCell] using h.lb⟩
theorem RI.set0 (h : RI W w g0 g base r) (z : Int) : RI W (w.setCell ⟨g, 0, none⟩ (.int .i64 z)) g0 g base { r with hd := z } :=
  h.set 0 _ _ ⟨World.cell?_setCell_same _ _ _ h.b1.box.c0, (set_far _ _ _ _ _ (by decide)).trans h.b1.box.c1, (set_far _ _ _ _ _ (by decide)).trans h.b1.box.c2, (set_far _ _ _ _ _ (by decide)).trans h.b1.box.c3, (set_far _ _ _ _ _ (by decide)).trans h.b1.box.c4⟩
theorem RI.set1 (h : RI W w g0 g base r) (A : Option Addr) (n c : Nat) (zs : List Int) : RI W (w.setCell ⟨g, 1, none⟩ (.slice A n c)) g0 g base { r with A := A, n := n, c := c, ifs := zs } :=
  h.set 1 _ _ ⟨(set_far _ _ _ _ _ (by decide)).trans h.b1.box.c0, World.cell?_setCell_same _ _ _ h.b1.box.c1, (set_far _ _ _ _ _ (by decide)).trans h.b1.box.c2, (set_far _ _ _ _ _ (by decide)).trans h.b1.box.c3, (set_far _ _ _ _ _ (by decide)).trans h.b1.box.c4⟩
theorem RI.set2 (h : RI W w g0 g base r) (z : Int) : RI W (w.setCell ⟨g, 2, none⟩ (.int .i64 z)) g0 g base { r with fr := z } :=
  h.set 2 _ _ ⟨(set_far _ _ _ _ _ (by decide)).trans h.b1.box.c0, (set_far _ _ _ _ _ (by decide)).trans h.b1.box.c1, World.cell?_setCell_same _ _ _ h.b1.box.c2, (set_far _ _ _ _ _ (by decide)).trans h.b1.box.c3, (set_far _ _ _ _ _ (by decide)).trans h.b1.box.c4⟩
theorem RI.set3 (h : RI W w g0 g base r) (z : Int) : RI W (w.setCell ⟨g, 3, none⟩ (.int .i64 z)) g0 g base { r with tt := z } :=
  h.set 3 _ _ ⟨(set_far _ _ _ _ _ (by decide)).trans h.b1.box.c0, (set_far _ _ _ _ _ (by decide)).trans h.b1.box.c1, (set_far _ _ _ _ _ (by decide)).trans h.b1.box.c2, World.cell?_setCell_same _ _ _ h.b1.box.c3, (set_far _ _ _ _ _ (by decide)).trans h.b1.box.c4⟩
theorem RI.set4 (h : RI W w g0 g base r) (z : Int) : RI W (w.setCell ⟨g, 4, none⟩ (.int .i64 z)) g0 g base { r with rk := z } :=
  h.set 4 _ _ ⟨(set_far _ _ _ _ _ (by decide)).trans h.b1.box.c0, (set_far _ _ _ _ _ (by decide)).trans h.b1.box.c1, (set_far _ _ _ _ _ (by decide)).trans h.b1.box.c2, (set_far _ _ _ _ _ (by decide)).trans h.b1.box.c3, World.cell?_setCell_same _ _ _ h.b1.box.c4⟩
end
/-- behind a store into a box the rows above stay -/
theorem own_set {w : World} {base g o n : Nat} {e : TypeId} {v u : Value} {xs : List Value} (h : w.ownsRow base e 1 v n xs) (hg : g < base) : (w.setCell ⟨g, o, none⟩ u).ownsRow base e 1 v n xs := own_far h (p := ⟨g, o, none⟩) hg u
/-- what a reading function returns -/
def ReadEnds (W : World) (d : Rl) (ok : Bool) (E : Ending) (w' : World) : Prop :=
  ∃ A n c, E = .returned (.tuple #[.agg #[.int .i64 d.hd, .slice A n c, .int .i64 d.fr, .int .i64 d.tt, .int .i64 d.rk], .bool ok]) ∧ w'.ownsRow W.heap.size tI 1 (.slice A n c) n (ints d.ifs) ∧ Below W.heap.size W w'
theorem cut_as {l t a b : List UInt8} {c : Bool} (sep : ByteArray) (h : Lib.cut l t = (a, b, c)) (ht : sep.data.toList = t) (w : World) (hw : RW w) (hl : l.length ≤ 1048576) :
    Calls Tryd.prog 36 #[.string (txB l), .string sep] w fun e w' => e = .returned (.tuple #[.string (txB a), .string (txB b), .bool c]) ∧ Below w.heap.size w w' := by
  have H := cut_is l sep t ht w hw hl
  rw [h] at H
  exact H
theorem cut_len {l t a b : List UInt8} {c : Bool} (h : Lib.cut l t = (a, b, c)) : a.length ≤ l.length ∧ b.length ≤ l.length := by
  unfold Lib.cut at h
  split at h
  · simp only [Prod.mk.injEq] at h
    obtain ⟨rfl, rfl, _⟩ := h
    simp; omega
  · simp only [Prod.mk.injEq] at h
    obtain ⟨rfl, rfl, _⟩ := h
    simp
theorem append_int_g {ops : Array Oper} {rest : List Oper} {o : Oper} {a : Act} {Q : Exit → Act → World → Prop} {w1 : World} (hgd : o.guard = none) (s x : Operand)
    (ho : o.op = .call { callee := .builtin .append, args := #[s, x], argTypes := #[22, 22] }) (base : Nat) (hB : base ≤ w1.heap.size) (v : Value) (n : Nat) (zs : List Int) (hs : a.eval s = v)
    (hown : w1.ownsRow base 2 1 v n (ints zs)) (g : Nat) (c : Nat) (z : Int) (hx : a.eval x = .slice (some ⟨g, 0, none⟩) 1 c) (hc : w1.cell? ⟨g, 0, none⟩ = some (.int .i64 z)) (hn : n + 1 ≤ 4194304)
    (h : ∀ v' w', w'.ownsRow base 2 1 v' (n + 1) (ints (zs ++ [z])) → w1.grownBy w' v.ownBlock → wpList Tryd.prog ops Q rest (a.put o.dst v') w') : wpList Tryd.prog ops Q (o :: rest) a w1 := by
  obtain ⟨i0, hi, hz0, hz1, hz2⟩ := info_parts info_int
  refine wpList_append_own w1 hgd s x 22 ho base 2 i0 (.int .i64 0) 1 8 Tryd.underlying22 hi hz0 hz1 hz2 rfl (by decide) v n (ints zs) hs hown ⟨g, 0, none⟩ 1 c [.int .i64 z] hx rfl ?_ ?_ ?_ ?_ hB ?_
  · intro j u hj
    match j, hj with
    | 0, hj => simp at hj; subst hj; simpa [Addr.add] using hc
  · intro u hu; simp at hu; subst hu; rfl
  · unfold maxLen; omega
  · omega
  · intro v' w' h1 h2 _
    rw [← ints_one, ← ints_append] at h1
    exact h v' w' h1 h2
theorem RI.new {W w4 : World} (hb : Below (W.alloc (.cells #[.int .i64 0, .slice none 0 0, .int .i64 0, .int .i64 0, .int .i64 0] 28)).heap.size (W.alloc (.cells #[.int .i64 0, .slice none 0 0, .int .i64 0, .int .i64 0, .int .i64 0] 28)) w4) :
    RI W (w4.alloc (.cells #[.int .i64 0, .slice none 0 0, .int .i64 0, .int .i64 0, .int .i64 0] 28)) W.heap.size w4.heap.size (w4.heap.size + 1) zr := by
  have h1 := (Below.alloc (Below.refl W.heap.size W) (Nat.le_refl _) (.cells #[.int .i64 0, .slice none 0 0, .int .i64 0, .int .i64 0, .int .i64 0] 28))
  have h2 := below_step h1 hb
  have hs : W.heap.size + 1 ≤ w4.heap.size := by have := hb.size; simpa using this
  have b0 := (BoxF.new W zr 28).below hb (by simp)
  refine ⟨h2.alloc h2.size _, b0.below (Below.alloc (Below.refl w4.heap.size w4) (Nat.le_refl _) _) (by omega), BoxF.new w4 zr 28, Nat.le_refl _, by omega, by omega, by omega, by omega, by simp⟩
structure LI (W w : World) (g0 g gs base : Nat) (r : Ru) (ws : List (List UInt8)) : Prop where
  ri : RI W w g0 g base r
  wd : ∀ (j : Nat) x, (strs ws)[j]? = some x → w.cell? ⟨gs, j, none⟩ = some x
  ls : gs < base
  ng : gs ≠ g
section
variable {W w w' : World} {g0 g gs base : Nat} {r : Ru} {ws : List (List UInt8)}
theorem LI.on (h : LI W w g0 g gs base r ws) (hb : Below w.heap.size w w') : LI W w' g0 g gs base r ws :=
  ⟨h.ri.on hb, fun j x hx => (hb.cell (p := ⟨gs, j, none⟩) (Nat.lt_of_lt_of_le h.ls h.ri.lb)).trans (h.wd j x hx), h.ls, h.ng⟩
theorem LI.grow {row : Option Nat} (h : LI W w g0 g gs base r ws) (hg : w.grownBy w' row) (hr : ∀ k, row = some k → base ≤ k) : LI W w' g0 g gs base r ws :=
  ⟨h.ri.grow hg hr, fun j x hx => (World.cell?_of_block (a := ⟨gs, j, none⟩) (hg.block gs (Nat.lt_of_lt_of_le h.ls h.ri.lb) fun e => by have := hr _ e.symm; have := h.ls; omega)).trans (h.wd j x hx), h.ls, h.ng⟩
theorem LI.set1 (h : LI W w g0 g gs base r ws) (A : Option Addr) (n c : Nat) (zs : List Int) : LI W (w.setCell ⟨g, 1, none⟩ (.slice A n c)) g0 g gs base { r with A := A, n := n, c := c, ifs := zs } ws :=
  ⟨h.ri.set1 A n c zs, fun j x hx => (World.cell?_setCell_far w ⟨g, 1, none⟩ ⟨gs, j, none⟩ _ (fun e => h.ng e.symm)).trans (h.wd j x hx), h.ls, h.ng⟩
end
theorem splitK_len (sep : List UInt8) : ∀ (k : Nat) (s : List UInt8), (∀ x ∈ Lib.splitK sep 0 k s, x.length ≤ s.length)
  | 0, s, x, hx => by simp [Lib.splitK] at hx; subst hx; exact Nat.le_refl _
  | k + 1, s, x, hx => by
    unfold Lib.splitK at hx
    split at hx
    · simp at hx; subst hx; exact Nat.le_refl _
    · rcases List.mem_cons.1 hx with rfl | h
      · simp; omega
      · have := splitK_len sep k _ x h
        rw [List.length_drop] at this
        omega
theorem splitK_count (sep : List UInt8) : ∀ (k : Nat) (s : List UInt8), (Lib.splitK sep 0 k s).length ≤ k + 1
  | 0, s => by simp [Lib.splitK]
  | k + 1, s => by
    unfold Lib.splitK
    split
    · simp
    · have := splitK_count sep k (s.drop ((Lib.index s sep).toNat + sep.length))
      simp only [List.length_cons]; omega
theorem split_words {s sep : List UInt8} : (∀ x ∈ Lib.split s sep, x.length ≤ s.length) ∧ (Lib.split s sep).length ≤ s.length + 2 :=
  ⟨splitK_len sep _ s, Nat.le_trans (splitK_count sep _ s) (by have := Lib.count_le s sep; omega)⟩
theorem trim_len (s p : List UInt8) : (Lib.trimSuffix s p).length ≤ s.length := by
  unfold Lib.trimSuffix; split
  · simp
  · exact Nat.le_refl _
def zcells : List Value := [.int .i64 0, .slice none 0 0, .int .i64 0, .int .i64 0, .int .i64 0]
set_option maxRecDepth 100000 in
set_option maxHeartbeats 3200000 in
theorem impl_ReadRule (l : List UInt8) (w : World) (hl : l.length ≤ 1048576) (hw : RW w) : Calls Tryd.prog 18 #[.string (txB l)] w (ReadEnds w (ReadRule_r0 l) (ReadRule_r1 l)) := by
  have HW := Lib.hid hw
  clear hw
  have hz : (txB l).size = l.length := txB_size l
  by_cases h2 : l.length ≤ 200
  case neg =>
    have hg : goodB l = false := by unfold goodB; simp [h2]
    have hfin := Lib.hid (show ReadRule_r0 l = zeroRl ∧ ReadRule_r1 l = false by simp [ReadRule_r0, ReadRule_r1, hg])
    have i1 : (200 : Int) < l.length := by omega
    go_enter Tryd.func18, Tryd.ntmps18
    go_wp2_with fail
    (try simp only [Exit.inBlock, Exit.then])
    refine bodyPost_ret (v := .tuple #[.agg #[.int .i64 0, .slice none 0 0, .int .i64 0, .int .i64 0, .int .i64 0], .bool false]) (results_cell_tmp rfl _ _ rfl rfl ?_) rfl ?_
    · go_simp
    · rw [hfin.out.1, hfin.out.2]
      refine ⟨none, 0, 0, rfl, World.ownsRow_nil _ _ _ _, ?_⟩
      exact (Below.refl _ _).alloc (Nat.le_refl _) _
  obtain ⟨a1, b1, c1, h1⟩ : ∃ a b c, Lib.cut l [32, 114] = (a, b, c) := ⟨_, _, _, rfl⟩
  obtain ⟨a2, b2, c2, h2'⟩ : ∃ a b c, Lib.cut a1 [45] = (a, b, c) := ⟨_, _, _, rfl⟩
  obtain ⟨a3, b3, c3, h3⟩ : ∃ a b c, Lib.cut b1 [58, 32] = (a, b, c) := ⟨_, _, _, rfl⟩
  obtain ⟨a4, b4, c4, h4⟩ : ∃ a b c, Lib.cut b3 [61, 62, 32] = (a, b, c) := ⟨_, _, _, rfl⟩
  have hpar : parseR l = ⟨rd b4, parseIfs a4, rd a2, rd b2, rd a3⟩ := by unfold parseR; rw [h1]; simp only; rw [h2', h3]; simp only; rw [h4]
  have L1 := cut_len h1
  have L2 := cut_len h2'
  have L3 := cut_len h3
  have L4 := cut_len h4
  have K1 := Lib.hid h1; have K2 := Lib.hid h2'; have K3 := Lib.hid h3; have K4 := Lib.hid h4
  have HPAR := Lib.hid hpar
  have m1 : a1.length ≤ 200 := by omega
  have m2 : b1.length ≤ 200 := by omega
  have m3 : a2.length ≤ 200 := by omega
  have m4 : b2.length ≤ 200 := by omega
  have m5 : a3.length ≤ 200 := by omega
  have m6 : b3.length ≤ 200 := by omega
  have m7 : a4.length ≤ 200 := by omega
  have m8 : b4.length ≤ 200 := by omega
  clear h1 h2' h3 h4 hpar L1 L2 L3 L4
  have hb0 := (Below.alloc (Below.refl w.heap.size w) (Nat.le_refl _) (.cells #[.int .i64 0, .slice none 0 0, .int .i64 0, .int .i64 0, .int .i64 0] 28))
  have HB0 := Lib.hid hb0
  clear hb0
  go_enter Tryd.func18, Tryd.ntmps18
  go_wp2_with fail
  refine (cut_as ⟨#[32, 114]⟩ K1.out rfl _ (HW.out.on HB0.out) hl).mono ?_
  rintro e w1 ⟨rfl, hb⟩
  have HB := Lib.hid hb
  clear hb
  go_wp2_with fail
  refine (cut_as ⟨#[45]⟩ K2.out rfl _ ((HW.out.on HB0.out).on HB.out) (by omega)).mono ?_
  rintro e w2 ⟨rfl, hb⟩
  replace HB := Lib.hid (below_step HB.out hb)
  clear hb
  go_wp2_with fail
  refine (cut_as ⟨#[58, 32]⟩ K3.out rfl _ ((HW.out.on HB0.out).on HB.out) (by omega)).mono ?_
  rintro e w3 ⟨rfl, hb⟩
  replace HB := Lib.hid (below_step HB.out hb)
  clear hb
  go_wp2_with fail
  refine (cut_as ⟨#[61, 62, 32]⟩ K4.out rfl _ ((HW.out.on HB0.out).on HB.out) (by omega)).mono ?_
  rintro e w4 ⟨rfl, hb⟩
  replace HB := Lib.hid (below_step HB.out hb)
  clear hb
  have T0 := Lib.hid (RI.new HB.out)
  go_wp2_with fail
  obtain ⟨g, hg⟩ : ∃ g, g = w4.heap.size := ⟨_, rfl⟩
  rw [← hg] at T0 ⊢
  generalize w4.alloc (.cells #[.int .i64 0, .slice none 0 0, .int .i64 0, .int .i64 0, .int .i64 0] 28) = v0 at T0 ⊢
  clear hg HB HB0 K1 K2 K3 K4
  refine (readDecimal_is a2 _ (HW.out.on (T0).out.be) (by omega)).mono ?_
  rintro e v1 ⟨rfl, hb⟩
  have t1 := (T0).out.on hb
  have x1 := t1.b1.box.c2
  have f1 := t1.b1.fz 2
  have T1 := Lib.hid (t1.set2 (rd a2))
  clear hb t1 T0
  try dsimp only at x1
  go_wp2_with fail
  clear x1 f1
  generalize v1.setCell ⟨g, 2, none⟩ (.int .i64 (rd a2)) = v1' at T1 ⊢
  refine (readDecimal_is b2 _ (HW.out.on (T1).out.be) (by omega)).mono ?_
  rintro e v2 ⟨rfl, hb⟩
  have t1 := (T1).out.on hb
  have x1 := t1.b1.box.c3
  have f1 := t1.b1.fz 3
  have T2 := Lib.hid (t1.set3 (rd b2))
  clear hb t1 T1
  try dsimp only at x1
  go_wp2_with fail
  clear x1 f1
  generalize v2.setCell ⟨g, 3, none⟩ (.int .i64 (rd b2)) = v2' at T2 ⊢
  refine (readDecimal_is a3 _ (HW.out.on (T2).out.be) (by omega)).mono ?_
  rintro e v3 ⟨rfl, hb⟩
  have t1 := (T2).out.on hb
  have x1 := t1.b1.box.c4
  have f1 := t1.b1.fz 4
  have T3 := Lib.hid (t1.set4 (rd a3))
  clear hb t1 T2
  try dsimp only at x1
  go_wp2_with fail
  clear x1 f1
  generalize v3.setCell ⟨g, 4, none⟩ (.int .i64 (rd a3)) = v3' at T3 ⊢
  refine (readDecimal_is b4 _ (HW.out.on T3.out.be) (by omega)).mono ?_
  rintro e v4 ⟨rfl, hb⟩
  have t1 := T3.out.on hb
  obtain ⟨x0, x1, x2, x3, x4⟩ := t1.b1.box
  have f0 := t1.b1.fz 0
  have T4 := Lib.hid (t1.set0 (rd b4))
  clear hb t1 T3
  dsimp only [zr] at x0 x1 x2 x3 x4
  have RB := Lib.hid (show ∀ zs : List Int, I64s zs → zs.length ≤ 300 → RlB ⟨rd b4, zs, rd a2, rd b2, rd a3⟩ from fun zs h1 h2 => by
    have r1 := rd_bnd b4; have r2 := rd_bnd a2; have r3 := rd_bnd b2; have r4 := rd_bnd a3
    have k : ∀ x : Int, -1000000000000000 ≤ x ∧ x ≤ 1000000000000000 → I64b x := fun x h => by unfold I64b; omega
    exact ⟨k _ r1, k _ r2, k _ r3, k _ r4, h1, by show zs.length ≤ _; omega⟩)
  by_cases h0 : a4 = []
  · have he : (txB a4).toList.isEmpty = true := by rw [h0, Go.ByteArray.toList_eq, txB_data]; rfl
    have hzs : parseIfs a4 = [] := by unfold parseIfs; rw [if_pos h0]
    rw [hzs] at HPAR
    have HOWN := Lib.hid (World.ownsRow_nil (v4.setCell ⟨g, 0, none⟩ (.int .i64 (rd b4))) (w.heap.size + 1) tI 1)
    clear h0 hzs
    go_wp2_with fail
    clear x0 x1 x2 x3 x4 f0
    generalize v4.setCell ⟨g, 0, none⟩ (.int .i64 (rd b4)) = vN at T4 HOWN ⊢
    (
            refine (impl_RuleText (rd b4) (rd a2) (rd b2) (rd a3) none 0 0 [] _ (Rd.of_own HOWN.out) (by omega) (RB.out _ (fun z hz => by cases hz) (by simp)) (HW.out.on (T4).out.be).tab).mono ?_
            rintro e vM ⟨rfl, hb⟩
            have HOM := Lib.hid (own_on HOWN.out hb)
            have t2 := (T4).out.on hb
            obtain ⟨y0, y1, y2, y3, y4⟩ := t2.b0.box
            have ff := t2.b0.fz
            have TM := Lib.hid t2
            clear hb HOWN T4
            dsimp only [zr] at y0 y1 y2 y3 y4
            have g0 := ff 0; have g1 := ff 1; have g2 := ff 2; have g3 := ff 3; have g4 := ff 4
            have hgood : goodB l = (validB ⟨rd b4, [], rd a2, rd b2, rd a3⟩ && (ruleTx ⟨rd b4, [], rd a2, rd b2, rd a3⟩ == l)) := by
              unfold goodB; rw [HPAR.out]; simp [h2]
            have HG := Lib.hid hgood
            clear hgood ff
            cases hv : validB ⟨rd b4, [], rd a2, rd b2, rd a3⟩
            · have hr := rt_no hv
              rw [hr.1, hr.2]
              have hfin := Lib.hid (show ReadRule_r0 l = zeroRl ∧ ReadRule_r1 l = false by simp [ReadRule_r0, ReadRule_r1, HG.out, hv])
              clear hr hv
              go_wp2_with fail
              (
                    (try simp only [Exit.inBlock, Exit.then])
                    refine bodyPost_ret (v := .tuple #[.agg #[.int .i64 0, .slice none 0 0, .int .i64 0, .int .i64 0, .int .i64 0], .bool false]) (results_cell_tmp rfl _ _ rfl rfl ?_) rfl ?_
                    · go_simp
                    · rw [hfin.out.1, hfin.out.2]
                      refine ⟨none, 0, 0, rfl, World.ownsRow_nil _ _ _ _, ?_⟩
                      iterate 5 (refine Below.setCell ?_ (by exact Nat.le_refl _) _)
                      exact TM.out.be)
            · have hr := rt_yes hv
              rw [hr.1, hr.2]
              have hte := tx_eq (ruleTx ⟨rd b4, [], rd a2, rd b2, rd a3⟩) l
              obtain ⟨tb, htb⟩ : ∃ b, (ruleTx ⟨rd b4, [], rd a2, rd b2, rd a3⟩ == l) = b := ⟨_, rfl⟩
              rw [htb] at hte HG
              obtain ⟨st, hst⟩ : ∃ s, txB (ruleTx ⟨rd b4, [], rd a2, rd b2, rd a3⟩) = s := ⟨_, rfl⟩
              rw [hst] at hte ⊢
              cases tb
              · have hfin := Lib.hid (show ReadRule_r0 l = zeroRl ∧ ReadRule_r1 l = false by simp [ReadRule_r0, ReadRule_r1, HG.out])
                clear hr hv hst htb
                go_wp2_with fail
                (
                    (try simp only [Exit.inBlock, Exit.then])
                    refine bodyPost_ret (v := .tuple #[.agg #[.int .i64 0, .slice none 0 0, .int .i64 0, .int .i64 0, .int .i64 0], .bool false]) (results_cell_tmp rfl _ _ rfl rfl ?_) rfl ?_
                    · go_simp
                    · rw [hfin.out.1, hfin.out.2]
                      refine ⟨none, 0, 0, rfl, World.ownsRow_nil _ _ _ _, ?_⟩
                      iterate 5 (refine Below.setCell ?_ (by exact Nat.le_refl _) _)
                      exact TM.out.be)
              · have hfin := Lib.hid (show ReadRule_r0 l = ⟨rd b4, [], rd a2, rd b2, rd a3⟩ ∧ ReadRule_r1 l = true by
                  have hgt : goodB l = true := by rw [HG.out, hv]; rfl
                  unfold ReadRule_r0 ReadRule_r1; rw [hgt, if_pos rfl, HPAR.out]; exact ⟨rfl, rfl⟩)
                clear hr hv hst htb
                obtain ⟨z0, z1, z2, z3, z4⟩ := TM.out.b1.box
                try dsimp only [zr] at z0 z1 z2 z3 z4
                go_wp2_with fail
                (try simp only [Exit.inBlock, Exit.then])
                refine bodyPost_ret (v := .tuple #[.agg #[.int .i64 (rd b4), .slice none 0 0, .int .i64 (rd a2), .int .i64 (rd b2), .int .i64 (rd a3)], .bool true]) (results_cell_tmp rfl _ _ rfl rfl ?_) rfl ?_
                · go_simp
                · rw [hfin.out.1, hfin.out.2]
                  refine ⟨_, _, _, rfl, ?_, ?_⟩
                  · refine own_base (base := (w.heap.size + 1)) ?_ (by omega)
                    iterate 5 (refine own_far ?_ (Nat.lt_succ_self _) _)
                    exact HOM.out
                  · iterate 5 (refine Below.setCell ?_ (by exact Nat.le_refl _) _)
                    exact TM.out.be)
  · have he : (txB a4).toList.isEmpty = false := by
      rw [Go.ByteArray.toList_eq, txB_data]
      cases hq : a4 with
      | nil => exact absurd hq h0
      | cons a t => rfl
    obtain ⟨tr, htr⟩ : ∃ t, t = Lib.trimSuffix a4 [32] := ⟨_, rfl⟩
    obtain ⟨ws, hws⟩ : ∃ t, t = Lib.split tr [32, 38, 32] := ⟨_, rfl⟩
    obtain ⟨zs, hzs⟩ : ∃ t, t = ws.map rd := ⟨_, rfl⟩
    have hpi : parseIfs a4 = zs := by unfold parseIfs; rw [if_neg h0, hzs, hws, htr]
    have m9 : tr.length ≤ 200 := by rw [htr]; have := trim_len a4 [32]; omega
    have hsw := split_words (s := tr) (sep := [32, 38, 32])
    rw [← hws] at hsw
    have hwl := hsw.2
    rw [hpi] at HPAR
    have hzl : zs.length = ws.length := by rw [hzs, List.length_map]
    have HZI := Lib.hid (show I64s zs from fun z hz => by
      rw [hzs] at hz
      obtain ⟨x, _, rfl⟩ := List.mem_map.1 hz
      have := rd_bnd x
      omega)
    have HTR := Lib.hid htr
    have HWS := Lib.hid hws
    have HZS := Lib.hid hzs
    clear h0 hpi htr hws hzs
    go_wp2_with fail
    clear x0 x1 x2 x3 x4 f0
    generalize v4.setCell ⟨g, 0, none⟩ (.int .i64 (rd b4)) = vP at T4 ⊢
    refine (trim_is a4 ⟨#[32]⟩ [32] rfl _ (by omega)).mono ?_
    rintro e w' ⟨rfl, rfl⟩
    rw [← HTR.out]
    go_wp2_with fail
    refine (split_is tr ⟨#[32, 38, 32]⟩ [32, 38, 32] rfl (by decide) _ (HW.out.on T4.out.be) (by omega)).mono ?_
    rintro e w' ⟨nw, rfl, hnw, rfl⟩
    rw [← HWS.out] at hnw ⊢
    have hn1 : nw ≤ ws.length := by omega
    have hn2 : ws.length ≤ nw := by omega
    have hz1 : zs.length ≤ ws.length := by omega
    have hz2 : ws.length ≤ zs.length := by omega
    have HSW := Lib.hid hsw.1
    clear hnw hzl hsw
    have hal := Below.alloc (Below.refl w'.heap.size w') (Nat.le_refl _) (.cells (strs ws).toArray 9)
    have hsz : (w'.alloc (.cells (strs ws).toArray 9)).heap.size = w'.heap.size + 1 := by simp
    have TL : LI w (w'.alloc (.cells (strs ws).toArray 9)) w.heap.size g w'.heap.size (w'.heap.size + 1) ⟨rd b4, rd a2, rd b2, rd a3, none, 0, 0, zs.take 0⟩ ws :=
      ⟨(T4.out.on hal).more (by have := T4.out.lb; omega) (by omega), fun j x hx => by
        rw [World.cell?_alloc_at _ _ _ _ rfl]
        simpa using hx, by omega, by have := T4.out.l1; have := T4.out.lb; omega⟩
    have TLL := Lib.hid TL
    clear TL hal hsz T4
    obtain ⟨gs, hgs⟩ : ∃ x, x = w'.heap.size := ⟨_, rfl⟩
    rw [← hgs] at TLL ⊢
    obtain ⟨base, hbase⟩ : ∃ x, x = gs + 1 := ⟨_, rfl⟩
    rw [← hbase] at TLL
    generalize w'.alloc (.cells (strs ws).toArray 9) = vQ at TLL ⊢
    clear hgs hbase
    go_wp2_with fail
    go_loopw [17, 18, 19, 81] (fun _ _ _ i wr => ∃ (k : Nat) (A : Option Addr) (c : Nat), k ≤ nw ∧ i = .int .i64 k ∧ LI w wr w.heap.size g gs base ⟨rd b4, rd a2, rd b2, rd a3, A, k, c, zs.take k⟩ ws ∧ wr.ownsRow base tI 1 (.slice A k c) k (ints (zs.take k))) (fun _ _ _ i _ => nw - (intOf i).toNat)
    case atStart => exact ⟨0, none, 0, Nat.zero_le _, rfl, TLL.out, World.ownsRow_nil _ _ _ _⟩
    case round =>
      clear TLL
      obtain ⟨k, A, c, hk, rfl, hL, hown⟩ := hrel
      by_cases hlt : k < nw
      · have hkw : k < ws.length := by omega
        obtain ⟨x, hx⟩ : ∃ x, ws[k]? = some x := ⟨_, List.getElem?_eq_getElem hkw⟩
        have hxl := HSW.out x (List.mem_of_getElem? hx)
        have hcx := hL.wd k (.string (txB x)) (by rw [strs_at, hx]; rfl)
        have hst := Lib.hid (show zs.take (k + 1) = zs.take k ++ [rd x] by
          rw [List.take_add_one, HZS.out, List.getElem?_map, hx]; rfl)
        have HLL := Lib.hid hL
        have HO := Lib.hid hown
        have i1 : (0 : Int) ≤ k := by omega
        have i2 : (k : Int) < nw := by omega
        clear hL hown hx
        go_wp2_with fail
        refine (readDecimal_is x _ (HW.out.on HLL.out.ri.be) (by omega)).mono ?_
        rintro e w2 ⟨rfl, hb⟩
        have L2 := HLL.out.on hb
        have O2 := own_on HO.out hb
        have y1 := L2.ri.b1.box.c1
        dsimp only at y1
        have HL2 := Lib.hid L2
        have HO2 := Lib.hid O2
        have hbs := L2.ri.lb
        clear hb L2 O2 HLL HO hcx
        have HAPP := Lib.hid (fun (v' : Value) (w' : World) (ho : w'.ownsRow base tI 1 v' (k + 1) (ints (zs.take k ++ [rd x]))) (hg : (w2.alloc (.cells #[.int .i64 (rd x)] 2)).grownBy w' (Value.slice A k c).ownBlock) => show ∃ A' c', v' = .slice A' (k + 1) c' ∧ LI w w' w.heap.size g gs base ⟨rd b4, rd a2, rd b2, rd a3, A, k, c, zs.take k⟩ ws from by
          obtain ⟨A', c', hv', _⟩ := own_form ho
          exact ⟨A', c', hv', (HL2.out.on (Below.alloc (Below.refl w2.heap.size w2) (Nat.le_refl _) _)).grow hg fun q hq => (HO2.out.lt q hq).1⟩)
        have HBA := Lib.hid (show base ≤ (w2.alloc (.cells #[.int .i64 (rd x)] 2)).heap.size by rw [World.size_alloc]; omega)
        have HO4 := Lib.hid (HO2.out.alloc (.cells #[.int .i64 (rd x)] 2))
        have hk9 : k + 1 ≤ 4194304 := by omega
        go_wp2_with (at_builtin; go_loud (refine append_int_g rfl (.tmp 91) (.tmp 93) rfl base HBA.out _ k _ rfl HO4.out _ _ (rd x) rfl (cell_new _ _ _) hk9 ?_; intro v' w' ho2 hg2; obtain ⟨A', c', hv', L3⟩ := HAPP.out v' w' ho2 hg2; subst hv'; have y2 := L3.ri.b1.box.c1; have f2 := L3.ri.b1.fz 1; dsimp only at y2; have HL3 := Lib.hid (L3.set1 A' (k + 1) c' (zs.take (k + 1))); have HO3 := Lib.hid ho2; clear L3 ho2 hg2))
        go_roundw
        case rel =>
          refine ⟨k + 1, A', c', by omega, by go_num, HL3.out, ?_⟩
          rw [hst.out]
          exact own_set HO3.out (HL3.out.ri.l1)
        case measure => simp [intOf]; omega
      · obtain rfl : k = nw := by omega
        have hzt : zs.take k = zs := List.take_of_length_le (by omega)
        rw [hzt] at hown hL
        have HOWN := Lib.hid hown
        have hRI := hL.ri
        obtain ⟨x0, x1, x2, x3, x4⟩ := hRI.b1.box
        dsimp only at x0 x1 x2 x3 x4
        have T9 := Lib.hid hRI
        have hll := hRI.l0
        clear hown hL hzt hRI
        go_wp2_with fail
        clear x0 x1 x2 x3 x4
        (
            refine (impl_RuleText (rd b4) (rd a2) (rd b2) (rd a3) A k c zs _ (Rd.of_own HOWN.out) (by omega) (RB.out _ HZI.out (by omega)) (HW.out.on (T9).out.be).tab).mono ?_
            rintro e vM ⟨rfl, hb⟩
            have HOM := Lib.hid (own_on HOWN.out hb)
            have t2 := (T9).out.on hb
            obtain ⟨y0, y1, y2, y3, y4⟩ := t2.b0.box
            have ff := t2.b0.fz
            have TM := Lib.hid t2
            clear hb HOWN T9
            dsimp only [zr] at y0 y1 y2 y3 y4
            have g0 := ff 0; have g1 := ff 1; have g2 := ff 2; have g3 := ff 3; have g4 := ff 4
            have hgood : goodB l = (validB ⟨rd b4, zs, rd a2, rd b2, rd a3⟩ && (ruleTx ⟨rd b4, zs, rd a2, rd b2, rd a3⟩ == l)) := by
              unfold goodB; rw [HPAR.out]; simp [h2]
            have HG := Lib.hid hgood
            clear hgood ff
            cases hv : validB ⟨rd b4, zs, rd a2, rd b2, rd a3⟩
            · have hr := rt_no hv
              rw [hr.1, hr.2]
              have hfin := Lib.hid (show ReadRule_r0 l = zeroRl ∧ ReadRule_r1 l = false by simp [ReadRule_r0, ReadRule_r1, HG.out, hv])
              clear hr hv
              go_wp2_with fail
              (
                    (try simp only [Exit.inBlock, Exit.then])
                    refine bodyPost_ret (v := .tuple #[.agg #[.int .i64 0, .slice none 0 0, .int .i64 0, .int .i64 0, .int .i64 0], .bool false]) (results_cell_tmp rfl _ _ rfl rfl ?_) rfl ?_
                    · go_simp
                    · rw [hfin.out.1, hfin.out.2]
                      refine ⟨none, 0, 0, rfl, World.ownsRow_nil _ _ _ _, ?_⟩
                      iterate 5 (refine Below.setCell ?_ (by exact Nat.le_refl _) _)
                      exact TM.out.be)
            · have hr := rt_yes hv
              rw [hr.1, hr.2]
              have hte := tx_eq (ruleTx ⟨rd b4, zs, rd a2, rd b2, rd a3⟩) l
              obtain ⟨tb, htb⟩ : ∃ b, (ruleTx ⟨rd b4, zs, rd a2, rd b2, rd a3⟩ == l) = b := ⟨_, rfl⟩
              rw [htb] at hte HG
              obtain ⟨st, hst⟩ : ∃ s, txB (ruleTx ⟨rd b4, zs, rd a2, rd b2, rd a3⟩) = s := ⟨_, rfl⟩
              rw [hst] at hte ⊢
              cases tb
              · have hfin := Lib.hid (show ReadRule_r0 l = zeroRl ∧ ReadRule_r1 l = false by simp [ReadRule_r0, ReadRule_r1, HG.out])
                clear hr hv hst htb
                go_wp2_with fail
                (
                    (try simp only [Exit.inBlock, Exit.then])
                    refine bodyPost_ret (v := .tuple #[.agg #[.int .i64 0, .slice none 0 0, .int .i64 0, .int .i64 0, .int .i64 0], .bool false]) (results_cell_tmp rfl _ _ rfl rfl ?_) rfl ?_
                    · go_simp
                    · rw [hfin.out.1, hfin.out.2]
                      refine ⟨none, 0, 0, rfl, World.ownsRow_nil _ _ _ _, ?_⟩
                      iterate 5 (refine Below.setCell ?_ (by exact Nat.le_refl _) _)
                      exact TM.out.be)
              · have hfin := Lib.hid (show ReadRule_r0 l = ⟨rd b4, zs, rd a2, rd b2, rd a3⟩ ∧ ReadRule_r1 l = true by
                  have hgt : goodB l = true := by rw [HG.out, hv]; rfl
                  unfold ReadRule_r0 ReadRule_r1; rw [hgt, if_pos rfl, HPAR.out]; exact ⟨rfl, rfl⟩)
                clear hr hv hst htb
                obtain ⟨z0, z1, z2, z3, z4⟩ := TM.out.b1.box
                try dsimp only [zr] at z0 z1 z2 z3 z4
                go_wp2_with fail
                (try simp only [Exit.inBlock, Exit.then])
                refine bodyPost_ret (v := .tuple #[.agg #[.int .i64 (rd b4), .slice A k c, .int .i64 (rd a2), .int .i64 (rd b2), .int .i64 (rd a3)], .bool true]) (results_cell_tmp rfl _ _ rfl rfl ?_) rfl ?_
                · go_simp
                · rw [hfin.out.1, hfin.out.2]
                  refine ⟨_, _, _, rfl, ?_, ?_⟩
                  · refine own_base (base := base) ?_ (by omega)
                    iterate 5 (refine own_far ?_ hll _)
                    exact HOM.out
                  · iterate 5 (refine Below.setCell ?_ (by exact Nat.le_refl _) _)
                    exact TM.out.be)
end Go.Proofs.YtinocfehjdlohaaDoor
