/-
  ReadRule: the law's walk.
-/
import Derived.Test.YtinocfehjdlohaaDoorReadV
import Derived.Test.YtinocfehjdlohaaDoorReadI
namespace Go.Proofs.YtinocfehjdlohaaDoor
open Go.ChangeShapes Go.WideShapes Go.ChangeAt Go.RowKit
set_option linter.unusedVariables false
set_option linter.unusedSimpArgs false

theorem markRule_own (hd fr tt rk : Int) (A : Option Addr) (n c lo hi : Nat) (k : Int) (cs : List Value) (w : World) (ho : w.ownsRow lo tI 1 (.slice A n c) n cs) (hI : ∀ g, (Value.slice A n c).ownBlock = some g → g < hi) (hn : n ≤ 2097152) (hk0 : 0 ≤ k) (hk1 : k ≤ 1073741824) :
    Calls Tryd.prog 19 #[.agg #[.int .i64 hd, .slice A n c, .int .i64 fr, .int .i64 tt, .int .i64 rk], .int .i64 k] w fun e w' => e = .returned (.int .i64 (k + n)) ∧ w'.ownsRow lo tI 1 (.slice A n c) n (ints (up k n)) ∧ Only lo hi w w' := by
  go_enter Tryd.func19, Tryd.ntmps19
  go_wp2_with fail
  refine (markInt64S_any _ lo _ _ _ _ (World.ownsRow.alloc ho _) hn (by omega) (by omega)).mono ?_
  rintro e w2 ⟨rfl, ho2, hg2⟩
  go_wp2_with fail
  go_ret
  exact ⟨rfl, ho2, (Only.of_grown (row := none) (World.grownBy_alloc w _ none) (fun g h => by cases h)).trans (Only.of_grown hg2 (fun x hx => ⟨(ho.lt x hx).1, hI x hx⟩))⟩
theorem heldRule_own (hd fr tt rk : Int) (A : Option Addr) (n c : Nat) (k : Int) (w : World) (hr : Rd w w.heap.size 1 A n (ints (up k n))) (hn : n ≤ 2097152) (hk0 : 0 ≤ k) (hk1 : k ≤ 1073741824) :
    Calls Tryd.prog 20 #[.agg #[.int .i64 hd, .slice A n c, .int .i64 fr, .int .i64 tt, .int .i64 rk], .int .i64 k] w fun e w' => e = .returned (.int .i64 (k + n)) ∧ Below w.heap.size w w' := by
  go_enter Tryd.func20, Tryd.ntmps20
  go_wp2_with fail
  refine (heldInt64S_any _ _ _ _ _ ((hr.alloc (Nat.le_refl _) _).more (by simp)) hn (by omega) (by omega)).mono ?_
  rintro e w2 ⟨rfl, rfl⟩
  go_wp2_with fail
  go_ret
  exact ⟨rfl, (Below.refl _ _).alloc (Nat.le_refl _) _⟩
/-- what the law keeps: the boxes of the two results, the rows of their Ifs -/
structure LW (W w : World) (b0 b1 : Nat) (r0 r1 : Ru) (cs : List Int) : Prop where
  be : Below W.heap.size W w
  x0 : BoxF w b0 r0
  x1 : BoxF w b1 r1
  o0 : w.ownsRow W.heap.size tI 1 (.slice r0.A r0.n r0.c) r0.n (ints r0.ifs)
  o1 : w.ownsRow (b0 + 1) tI 1 (.slice r1.A r1.n r1.c) r1.n (ints cs)
  l1 : b1 < w.heap.size
  h0 : ∀ g, (Value.slice r0.A r0.n r0.c).ownBlock = some g → g < b0 + 1
  h1 : ∀ g, (Value.slice r1.A r1.n r1.c).ownBlock = some g → g < b1
  hb : W.heap.size ≤ b0
  hc : b0 < b1
theorem LW.on {W w w' : World} {b0 b1 : Nat} {r0 r1 : Ru} {cs : List Int} (h : LW W w b0 b1 r0 r1 cs) (k : Below w.heap.size w w') : LW W w' b0 b1 r0 r1 cs :=
  ⟨below_step h.be k, h.x0.below k (by have := h.hc; have := h.l1; omega), h.x1.below k h.l1, own_on h.o0 k, own_on h.o1 k, Nat.lt_of_lt_of_le h.l1 k.size, h.h0, h.h1, h.hb, h.hc⟩
theorem LW.only {W w w' : World} {b0 b1 : Nat} {r0 r1 : Ru} {cs ds : List Int} (h : LW W w b0 b1 r0 r1 cs) (k : Only (b0 + 1) b1 w w') (ho : w'.ownsRow (b0 + 1) tI 1 (.slice r1.A r1.n r1.c) r1.n (ints ds)) : LW W w' b0 b1 r0 r1 ds :=
  ⟨below_only h.be k (by have := h.hb; omega), box_of_block h.x0 (k.block b0 (by have := h.hc; have := h.l1; omega) (by omega)), box_of_block h.x1 (k.block b1 h.l1 (by omega)), own_only h.o0 h.h0 k (.inl (Nat.le_refl _)), ho, Nat.lt_of_lt_of_le h.l1 k.size, h.h0, h.h1, h.hb, h.hc⟩
/-- the first result's box -/
structure LW0 (W w : World) (b0 : Nat) (r0 : Ru) : Prop where
  be : Below W.heap.size W w
  x0 : BoxF w b0 r0
  o0 : w.ownsRow W.heap.size tI 1 (.slice r0.A r0.n r0.c) r0.n (ints r0.ifs)
  h0 : ∀ g, (Value.slice r0.A r0.n r0.c).ownBlock = some g → g < b0 + 1
  hb : W.heap.size ≤ b0
  l0 : w.heap.size = b0 + 1
theorem LW0.new {W w : World} (be : Below W.heap.size W w) (hd fr tt rk : Int) (A : Option Addr) (n c : Nat) (zs : List Int) (ho : w.ownsRow W.heap.size tI 1 (.slice A n c) n (ints zs)) :
    LW0 W (w.alloc (.cells #[.int .i64 hd, .slice A n c, .int .i64 fr, .int .i64 tt, .int .i64 rk] 28)) w.heap.size ⟨hd, fr, tt, rk, A, n, c, zs⟩ :=
  ⟨be.alloc be.size _, BoxF.new w ⟨hd, fr, tt, rk, A, n, c, zs⟩ _, ho.alloc _, fun g hg => by have := (ho.lt g hg).2; omega, be.size, by simp⟩
theorem LW.new {W w w' : World} {b0 : Nat} {r0 : Ru} (h : LW0 W w b0 r0) (k : Below w.heap.size w w') (hd fr tt rk : Int) (A : Option Addr) (n c : Nat) (zs : List Int) (ho : w'.ownsRow w.heap.size tI 1 (.slice A n c) n (ints zs)) :
    LW W (w'.alloc (.cells #[.int .i64 hd, .slice A n c, .int .i64 fr, .int .i64 tt, .int .i64 rk] 28)) b0 w'.heap.size r0 ⟨hd, fr, tt, rk, A, n, c, zs⟩ zs := by
  have h2 := k.alloc k.size (.cells #[.int .i64 hd, .slice A n c, .int .i64 fr, .int .i64 tt, .int .i64 rk] 28)
  have hs := k.size
  rw [h.l0] at ho
  exact ⟨below_step h.be h2, h.x0.below h2 (by rw [h.l0]; omega), BoxF.new w' ⟨hd, fr, tt, rk, A, n, c, zs⟩ _, own_on h.o0 h2, ho.alloc _, by simp, h.h0, fun g hg => (ho.lt g hg).2, h.hb, by have := h.l0; omega⟩
theorem rr_small (l : List UInt8) : (ReadRule_r0 l).ifs.length ≤ 6 := by
  unfold ReadRule_r0
  split
  · rename_i h
    unfold goodB at h
    simp only [Bool.and_eq_true] at h
    exact (rlV h.2.1).n
  · simp [zeroRl]
set_option maxRecDepth 100000 in
set_option maxHeartbeats 3200000 in
theorem lawReadRule_short (l : List UInt8) (W : World) (hw : RW W) (hl : l.length ≤ 1048576) :
    Calls Tryd.prog 5 #[.string (txB l)] W fun e w' => e = .returned (.bool true) ∧ Below W.heap.size W w' := by
  have HW := Lib.hid hw
  have hz : (txB l).size = l.length := txB_size l
  have i0 : ¬ (1048576 : Int) < l.length := by omega
  have hsm := rr_small l
  obtain ⟨d, hd⟩ : ∃ d, ReadRule_r0 l = d := ⟨_, rfl⟩
  obtain ⟨ok, hok⟩ : ∃ d, ReadRule_r1 l = d := ⟨_, rfl⟩
  have HS := Lib.hid (fun (w : World) => show Calls Tryd.prog 17 #[.string (txB l)] w (ReadEnds w d ok) by rw [← hd, ← hok]; exact spec_ReadRule l w hl)
  have HI := Lib.hid (fun (w : World) (hw : RW w) => show Calls Tryd.prog 18 #[.string (txB l)] w (ReadEnds w d ok) by rw [← hd, ← hok]; exact impl_ReadRule l w hl hw)
  rw [hd] at hsm
  obtain ⟨hh, zs, fr, tt, rk⟩ := d
  dsimp only at hsm
  clear hd hok hw
  go_enter Tryd.func5, Tryd.ntmps5
  go_wp2_with fail
  refine (HS.out _).mono ?_
  rintro e w1 ⟨A0, n0, c0, rfl, ho0, hb⟩
  dsimp only at ho0
  have hn0 : zs.length = n0 := by have := ho0.1; simp [ints] at this; omega
  have L0 := Lib.hid (LW0.new hb hh fr tt rk A0 n0 c0 zs ho0)
  have HN0 := Lib.hid hn0
  clear hb ho0 hn0
  go_wp2_with fail
  obtain ⟨b0, hb0⟩ : ∃ b, b = w1.heap.size := ⟨_, rfl⟩
  rw [← hb0] at L0 ⊢
  generalize w1.alloc (.cells #[.int .i64 hh, .slice A0 n0 c0, .int .i64 fr, .int .i64 tt, .int .i64 rk] 28) = w2 at L0 ⊢
  clear hb0
  refine (HI.out _ (HW.out.on L0.out.be)).mono ?_
  rintro e w3 ⟨A1, n1, c1, rfl, ho1, hb3⟩
  dsimp only at ho1
  have hn1 : zs.length = n1 := by have := ho1.1; simp [ints] at this; omega
  obtain rfl : n0 = n1 := by have := HN0.out; omega
  have L1 := Lib.hid (LW.new L0.out hb3 hh fr tt rk A1 n0 c1 zs ho1)
  have hnn : n0 ≤ 6 := by omega
  clear hb3 ho1 hn1 hsm L0
  obtain ⟨x0, x1, x2, x3, x4⟩ := L1.out.x0.box; obtain ⟨y0, y1, y2, y3, y4⟩ := L1.out.x1.box; (try dsimp only at x0 x1 x2 x3 x4 y0 y1 y2 y3 y4)
  go_wp2_with fail
  clear x0 x1 x2 x3 x4 y0 y1 y2 y3 y4
  obtain ⟨b1, hb1⟩ : ∃ b, b = w3.heap.size := ⟨_, rfl⟩
  rw [← hb1] at L1 ⊢
  generalize w3.alloc (.cells #[.int .i64 hh, .slice A1 n0 c1, .int .i64 fr, .int .i64 tt, .int .i64 rk] 28) = w4 at L1 ⊢
  clear hb1
  refine (eqRule_yes hh fr tt rk A1 A0 n0 c1 c0 zs _ (Rd.of_own L1.out.o1) (Rd.of_own L1.out.o0) (by omega)).mono ?_
  rintro e w5 ⟨rfl, hb⟩
  have L2 := Lib.hid (L1.out.on hb)
  clear hb L1
  obtain ⟨x0, x1, x2, x3, x4⟩ := L2.out.x0.box; obtain ⟨y0, y1, y2, y3, y4⟩ := L2.out.x1.box; (try dsimp only at x0 x1 x2 x3 x4 y0 y1 y2 y3 y4)
  go_wp2_with fail
  clear x0 x1 x2 x3 x4 y0 y1 y2 y3 y4
  refine (markRule_own hh fr tt rk A1 n0 c1 (b0 + 1) b1 1 (ints zs) _ L2.out.o1 L2.out.h1 (by omega) (by omega) (by omega)).mono ?_
  rintro e w6 ⟨rfl, ho, hon⟩
  have L3 := Lib.hid (L2.out.only hon ho)
  clear ho hon L2
  obtain ⟨x0, x1, x2, x3, x4⟩ := L3.out.x0.box; obtain ⟨y0, y1, y2, y3, y4⟩ := L3.out.x1.box; (try dsimp only at x0 x1 x2 x3 x4 y0 y1 y2 y3 y4)
  go_wp2_with fail
  clear x0 x1 x2 x3 x4 y0 y1 y2 y3 y4
  refine (heldRule_own hh fr tt rk A1 n0 c1 1 _ (Rd.of_own L3.out.o1) (by omega) (by omega) (by omega)).mono ?_
  rintro e w7 ⟨rfl, hb⟩
  have L4 := Lib.hid (L3.out.on hb)
  clear hb L3
  obtain ⟨x0, x1, x2, x3, x4⟩ := L4.out.x0.box; obtain ⟨y0, y1, y2, y3, y4⟩ := L4.out.x1.box; (try dsimp only at x0 x1 x2 x3 x4 y0 y1 y2 y3 y4)
  go_wp2_with fail
  clear x0 x1 x2 x3 x4 y0 y1 y2 y3 y4
  refine (HI.out _ (HW.out.on L4.out.be)).mono ?_
  rintro e w8 ⟨A2, n2, c2, rfl, ho2, hb⟩
  dsimp only at ho2
  have hn2 : zs.length = n2 := by have := ho2.1; simp [ints] at this; omega
  obtain rfl : n0 = n2 := by have := HN0.out; omega
  have L5 := Lib.hid (L4.out.on (hb.alloc hb.size (.cells #[.int .i64 hh, .slice A2 n0 c2, .int .i64 fr, .int .i64 tt, .int .i64 rk] 28)))
  have HO2 := Lib.hid (ho2.alloc (.cells #[.int .i64 hh, .slice A2 n0 c2, .int .i64 fr, .int .i64 tt, .int .i64 rk] 28))
  clear hb ho2 hn2 L4
  obtain ⟨x0, x1, x2, x3, x4⟩ := L5.out.x0.box; obtain ⟨y0, y1, y2, y3, y4⟩ := L5.out.x1.box; (try dsimp only at x0 x1 x2 x3 x4 y0 y1 y2 y3 y4)
  go_wp2_with fail
  clear x0 x1 x2 x3 x4 y0 y1 y2 y3 y4
  refine (eqRule_yes hh fr tt rk A2 A0 n0 c2 c0 zs _ (Rd.of_own HO2.out) (Rd.of_own L5.out.o0) (by omega)).mono ?_
  rintro e w9 ⟨rfl, hb⟩
  have L6 := Lib.hid (L5.out.on hb)
  clear hb L5 HO2
  obtain ⟨x0, x1, x2, x3, x4⟩ := L6.out.x0.box; obtain ⟨y0, y1, y2, y3, y4⟩ := L6.out.x1.box; (try dsimp only at x0 x1 x2 x3 x4 y0 y1 y2 y3 y4)
  go_wp2_with fail
  clear x0 x1 x2 x3 x4 y0 y1 y2 y3 y4
  refine (heldRule_own hh fr tt rk A1 n0 c1 1 _ (Rd.of_own L6.out.o1) (by omega) (by omega) (by omega)).mono ?_
  rintro e w10 ⟨rfl, hb⟩
  have L7 := Lib.hid (L6.out.on hb)
  clear hb L6
  go_wp2_with fail
  go_ret
  exact ⟨rfl, L7.out.be⟩
end Go.Proofs.YtinocfehjdlohaaDoor
