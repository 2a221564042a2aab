/-
  PEOPLE: three slices of floats by value: SamePeople, ValidPeople: what the program's and the reference's functions return.
-/
import Derived.Test.YtkdiegplbloccaaSameF
import Derived.Test.YtkdiegplbloccaaAppF
import Derived.Test.YtkdiegplbloccaaFundF
namespace Go.Proofs.Ytkdiegplbloccaa
open Fl
open Go.ChangeShapes Go.WideShapes Go.ChangeAt Go.RowKit
set_option linter.unusedVariables false
set_option linter.unusedSimpArgs false

/-- people: three slices and what they hold -/
structure Pp where
  A : Option Addr
  n : Nat
  c : Nat
  xs : List Nat
  B : Option Addr
  m : Nat
  d : Nat
  ys : List Nat
  C : Option Addr
  k : Nat
  e : Nat
  zs : List Nat
def Pp.V (p : Pp) : Value := .agg #[.slice p.A p.n p.c, .slice p.B p.m p.d, .slice p.C p.k p.e]
structure PpRd (w : World) (p : Pp) : Prop where
  r0 : Rd w w.heap.size 1 p.A p.n (flts p.xs)
  r1 : Rd w w.heap.size 1 p.B p.m (flts p.ys)
  r2 : Rd w w.heap.size 1 p.C p.k (flts p.zs)
structure PpB (p : Pp) : Prop where
  n0 : p.n ≤ 1048576
  n1 : p.m ≤ 1048576
  n2 : p.k ≤ 1048576
  f0 : F32s p.xs
  f1 : F32s p.ys
  f2 : F32s p.zs
theorem PpRd.on {w w' : World} {p : Pp} (h : PpRd w p) (hb : Below w.heap.size w w') : PpRd w' p := ⟨h.r0.on hb, h.r1.on hb, h.r2.on hb⟩
theorem bl_2 {w : World} (o o' : Go.Obj) : Below w.heap.size w ((w.alloc o).alloc o') := ((Below.refl _ _).alloc (Nat.le_refl _) _).alloc (by simp) _
theorem bl_1 {w : World} (o : Go.Obj) : Below w.heap.size w (w.alloc o) := (Below.refl _ _).alloc (Nat.le_refl _) _
def SamePeople_r0 (p q : Pp) : Bool := sameFs p.xs q.xs && (sameFs p.ys q.ys && sameFs p.zs q.zs)
theorem sameNumbers_any (A : Option Addr) (n c : Nat) (xs : List Nat) (B : Option Addr) (m d : Nat) (ys : List Nat) (w : World) (hr : Rd w w.heap.size 1 A n (flts xs)) (hs : Rd w w.heap.size 1 B m (flts ys)) (hn : n ≤ 1048576) (hm : m ≤ 1048576) (ha : F32s xs) (hb : F32s ys) :
    Calls Try.prog 61 #[.slice A n c, .slice B m d] w fun e w' => e = .returned (.bool (sameFs xs ys)) ∧ Below w.heap.size w w' := sameNumbers_is A n c xs B m d ys w hr hs hn hm ha hb rfl
set_option maxHeartbeats 1600000 in
theorem impl_SamePeople (p q : Pp) (w : World) (hp : PpRd w p) (hq : PpRd w q) (bp : PpB p) (bq : PpB q) :
    Calls Try.prog 18 #[p.V, q.V] w fun e w' => e = .returned (.bool (SamePeople_r0 p q)) ∧ Below w.heap.size w w' := by
  obtain ⟨A, n, c, xs, B, m, d, ys, C, k, e0, zs⟩ := p
  obtain ⟨A', n', c', xs', B', m', d', ys', C', k', e', zs'⟩ := q
  have hbb := bl_2 (w := w) (.cells #[.slice A n c, .slice B m d, .slice C k e0] 27) (.cells #[.slice A' n' c', .slice B' m' d', .slice C' k' e'] 27)
  have hp2 := hp.on hbb
  have hq2 := hq.on hbb
  obtain ⟨r0, r1, r2⟩ := hp2
  obtain ⟨s0, s1, s2⟩ := hq2
  obtain ⟨n0, n1, n2, f0, f1, f2⟩ := bp
  obtain ⟨m0, m1, m2, g0, g1, g2⟩ := bq
  dsimp only at r0 r1 r2 s0 s1 s2 n0 n1 n2 f0 f1 f2 m0 m1 m2 g0 g1 g2
  have HK := Lib.hid (show ∀ w', Below ((w.alloc (.cells #[.slice A n c, .slice B m d, .slice C k e0] 27)).alloc (.cells #[.slice A' n' c', .slice B' m' d', .slice C' k' e'] 27)).heap.size ((w.alloc (.cells #[.slice A n c, .slice B m d, .slice C k e0] 27)).alloc (.cells #[.slice A' n' c', .slice B' m' d', .slice C' k' e'] 27)) w' →
      w'.cell? ⟨w.heap.size, 1, none⟩ = some (.slice B m d) ∧ w'.cell? ⟨w.heap.size, 2, none⟩ = some (.slice C k e0) ∧ w'.cell? ⟨w.heap.size + 1, 1, none⟩ = some (.slice B' m' d') ∧ w'.cell? ⟨w.heap.size + 1, 2, none⟩ = some (.slice C' k' e') from fun w' hb =>
    ⟨(hb.cell (p := ⟨w.heap.size, 1, none⟩) (by simp; omega)).trans (by go_simp), (hb.cell (p := ⟨w.heap.size, 2, none⟩) (by simp; omega)).trans (by go_simp), (hb.cell (p := ⟨w.heap.size + 1, 1, none⟩) (by simp)).trans (by go_simp), (hb.cell (p := ⟨w.heap.size + 1, 2, none⟩) (by simp)).trans (by go_simp)⟩)
  have R := Lib.hid (And.intro r0 (And.intro r1 (And.intro r2 (And.intro s0 (And.intro s1 s2)))))
  have G := Lib.hid (And.intro f0 (And.intro f1 (And.intro f2 (And.intro g0 (And.intro g1 g2)))))
  have HB := Lib.hid hbb
  clear hp hq r0 r1 r2 s0 s1 s2 f0 f1 f2 g0 g1 g2 hbb
  unfold SamePeople_r0 Pp.V
  dsimp only
  cases t0 : sameFs xs xs'
  · go_enter Try.func18, Try.ntmps18
    go_wp2_with fail
    refine (sameNumbers_any A n c xs A' n' c' xs' _ R.out.1 R.out.2.2.2.1 n0 m0 G.out.1 G.out.2.2.2.1).mono ?_
    rintro e w1 ⟨rfl, hb⟩
    rw [t0]
    go_wp2_with fail
    go_ret
    exact ⟨rfl, below_step HB.out hb⟩
  cases t1 : sameFs ys ys'
  · go_enter Try.func18, Try.ntmps18
    go_wp2_with fail
    refine (sameNumbers_any A n c xs A' n' c' xs' _ R.out.1 R.out.2.2.2.1 n0 m0 G.out.1 G.out.2.2.2.1).mono ?_
    rintro e w1 ⟨rfl, hb⟩
    rw [t0]
    obtain ⟨x1, x2, x3, x4⟩ := HK.out _ hb
    have HB1 := Lib.hid hb
    clear hb
    go_wp2_with fail
    refine (sameNumbers_any B m d ys B' m' d' ys' _ (R.out.2.1.on HB1.out) (R.out.2.2.2.2.1.on HB1.out) n1 m1 G.out.2.1 G.out.2.2.2.2.1).mono ?_
    rintro e w2 ⟨rfl, hb⟩
    rw [t1]
    go_wp2_with fail
    go_ret
    exact ⟨rfl, below_step HB.out (below_step HB1.out hb)⟩
  · go_enter Try.func18, Try.ntmps18
    go_wp2_with fail
    refine (sameNumbers_any A n c xs A' n' c' xs' _ R.out.1 R.out.2.2.2.1 n0 m0 G.out.1 G.out.2.2.2.1).mono ?_
    rintro e w1 ⟨rfl, hb⟩
    rw [t0]
    obtain ⟨x1, x2, x3, x4⟩ := HK.out _ hb
    have HB1 := Lib.hid hb
    clear hb
    go_wp2_with fail
    refine (sameNumbers_any B m d ys B' m' d' ys' _ (R.out.2.1.on HB1.out) (R.out.2.2.2.2.1.on HB1.out) n1 m1 G.out.2.1 G.out.2.2.2.2.1).mono ?_
    rintro e w2 ⟨rfl, hb⟩
    rw [t1]
    have HB2 := Lib.hid (below_step HB1.out hb)
    obtain ⟨y1, y2, y3, y4⟩ := HK.out _ HB2.out
    clear hb x1 x2 x3 x4
    go_wp2_with fail
    refine (sameNumbers_any C k e0 zs C' k' e' zs' _ (R.out.2.2.1.on HB2.out) (R.out.2.2.2.2.2.on HB2.out) n2 m2 G.out.2.2.1 G.out.2.2.2.2.2).mono ?_
    rintro e w3 ⟨rfl, hb⟩
    go_wp2_with fail
    go_ret
    exact ⟨ret_bool (by simp), below_step HB.out (below_step HB2.out hb)⟩
set_option maxHeartbeats 1600000 in
theorem spec_SamePeople (p q : Pp) (w : World) (hp : PpRd w p) (hq : PpRd w q) (bp : PpB p) (bq : PpB q) :
    Calls Try.prog 16 #[p.V, q.V] w fun e w' => e = .returned (.bool (SamePeople_r0 p q)) ∧ Below w.heap.size w w' := by
  obtain ⟨A, n, c, xs, B, m, d, ys, C, k, e0, zs⟩ := p
  obtain ⟨A', n', c', xs', B', m', d', ys', C', k', e', zs'⟩ := q
  have hbb := bl_2 (w := w) (.cells #[.slice A n c, .slice B m d, .slice C k e0] 27) (.cells #[.slice A' n' c', .slice B' m' d', .slice C' k' e'] 27)
  have hp2 := hp.on hbb
  have hq2 := hq.on hbb
  obtain ⟨r0, r1, r2⟩ := hp2
  obtain ⟨s0, s1, s2⟩ := hq2
  obtain ⟨n0, n1, n2, f0, f1, f2⟩ := bp
  obtain ⟨m0, m1, m2, g0, g1, g2⟩ := bq
  dsimp only at r0 r1 r2 s0 s1 s2 n0 n1 n2 f0 f1 f2 m0 m1 m2 g0 g1 g2
  have HK := Lib.hid (show ∀ w', Below ((w.alloc (.cells #[.slice A n c, .slice B m d, .slice C k e0] 27)).alloc (.cells #[.slice A' n' c', .slice B' m' d', .slice C' k' e'] 27)).heap.size ((w.alloc (.cells #[.slice A n c, .slice B m d, .slice C k e0] 27)).alloc (.cells #[.slice A' n' c', .slice B' m' d', .slice C' k' e'] 27)) w' →
      w'.cell? ⟨w.heap.size, 1, none⟩ = some (.slice B m d) ∧ w'.cell? ⟨w.heap.size, 2, none⟩ = some (.slice C k e0) ∧ w'.cell? ⟨w.heap.size + 1, 1, none⟩ = some (.slice B' m' d') ∧ w'.cell? ⟨w.heap.size + 1, 2, none⟩ = some (.slice C' k' e') from fun w' hb =>
    ⟨(hb.cell (p := ⟨w.heap.size, 1, none⟩) (by simp; omega)).trans (by go_simp), (hb.cell (p := ⟨w.heap.size, 2, none⟩) (by simp; omega)).trans (by go_simp), (hb.cell (p := ⟨w.heap.size + 1, 1, none⟩) (by simp)).trans (by go_simp), (hb.cell (p := ⟨w.heap.size + 1, 2, none⟩) (by simp)).trans (by go_simp)⟩)
  have R := Lib.hid (And.intro r0 (And.intro r1 (And.intro r2 (And.intro s0 (And.intro s1 s2)))))
  have G := Lib.hid (And.intro f0 (And.intro f1 (And.intro f2 (And.intro g0 (And.intro g1 g2)))))
  have HB := Lib.hid hbb
  clear hp hq r0 r1 r2 s0 s1 s2 f0 f1 f2 g0 g1 g2 hbb
  unfold SamePeople_r0 Pp.V
  dsimp only
  cases t0 : sameFs xs xs'
  · go_enter Try.func16, Try.ntmps16
    go_wp2_with fail
    refine (l01SameAll_any A n c xs A' n' c' xs' _ R.out.1 R.out.2.2.2.1 n0 m0 G.out.1 G.out.2.2.2.1).mono ?_
    rintro e w1 ⟨rfl, hb⟩
    rw [t0]
    go_wp2_with fail
    go_ret
    exact ⟨rfl, below_step HB.out hb⟩
  cases t1 : sameFs ys ys'
  · go_enter Try.func16, Try.ntmps16
    go_wp2_with fail
    refine (l01SameAll_any A n c xs A' n' c' xs' _ R.out.1 R.out.2.2.2.1 n0 m0 G.out.1 G.out.2.2.2.1).mono ?_
    rintro e w1 ⟨rfl, hb⟩
    rw [t0]
    obtain ⟨x1, x2, x3, x4⟩ := HK.out _ hb
    have HB1 := Lib.hid hb
    clear hb
    go_wp2_with fail
    refine (l01SameAll_any B m d ys B' m' d' ys' _ (R.out.2.1.on HB1.out) (R.out.2.2.2.2.1.on HB1.out) n1 m1 G.out.2.1 G.out.2.2.2.2.1).mono ?_
    rintro e w2 ⟨rfl, hb⟩
    rw [t1]
    go_wp2_with fail
    go_ret
    exact ⟨rfl, below_step HB.out (below_step HB1.out hb)⟩
  · go_enter Try.func16, Try.ntmps16
    go_wp2_with fail
    refine (l01SameAll_any A n c xs A' n' c' xs' _ R.out.1 R.out.2.2.2.1 n0 m0 G.out.1 G.out.2.2.2.1).mono ?_
    rintro e w1 ⟨rfl, hb⟩
    rw [t0]
    obtain ⟨x1, x2, x3, x4⟩ := HK.out _ hb
    have HB1 := Lib.hid hb
    clear hb
    go_wp2_with fail
    refine (l01SameAll_any B m d ys B' m' d' ys' _ (R.out.2.1.on HB1.out) (R.out.2.2.2.2.1.on HB1.out) n1 m1 G.out.2.1 G.out.2.2.2.2.1).mono ?_
    rintro e w2 ⟨rfl, hb⟩
    rw [t1]
    have HB2 := Lib.hid (below_step HB1.out hb)
    obtain ⟨y1, y2, y3, y4⟩ := HK.out _ HB2.out
    clear hb x1 x2 x3 x4
    go_wp2_with fail
    refine (l01SameAll_any C k e0 zs C' k' e' zs' _ (R.out.2.2.1.on HB2.out) (R.out.2.2.2.2.2.on HB2.out) n2 m2 G.out.2.2.1 G.out.2.2.2.2.2).mono ?_
    rintro e w3 ⟨rfl, hb⟩
    go_wp2_with fail
    go_ret
    exact ⟨ret_bool (by simp), below_step HB.out (below_step HB2.out hb)⟩
end Go.Proofs.Ytkdiegplbloccaa
