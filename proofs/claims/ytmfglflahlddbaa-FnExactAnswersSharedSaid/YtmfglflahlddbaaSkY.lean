/-
  The law FnExactAnswersShared: from its first call to the second.
-/
import Derived.Test.YtmfglflahlddbaaSkX
namespace Go.Proofs.Ytmfglflahlddbaa
open Go.ChangeShapes Go.WideShapes Go.ChangeAt Go.RowKit Sm Go.Conc
set_option linter.unusedVariables false

structure L2F (H : Nat) (v : World) (n0 : Nat) (ds : List Rl) (n1 : Nat) (zss : List (List Int)) (day k : Int) (vw vg : Value) (G5 : Option Addr) (c5 : Nat) (G6 : Option Addr) (c6 : Nat) (l6 l7 l8 : Nat) : Prop where
  hH : H ≤ l6 ∧ l6 ≤ l7 ∧ l7 ≤ l8 ∧ l8 ≤ v.heap.size
  ow : v.ownsRow H tI 1 vw (shR ds zss day k).length (ints (shR ds zss day k))
  og : v.ownsRow H tI 1 vg (shR ds zss day k).length (ints (up 1 (shR ds zss day k).length))
  o5 : Obj v l6 l7 (.slice G5 n0 c5) n0 ds
  o6 : ObjW v l7 l8 (.slice G6 n1 c6) n1 zss
def L2K (H n0 : Nat) (ds : List Rl) (n1 : Nat) (zss : List (List Int)) (day k : Int) (a : Act) (w' : World) : Prop :=
  ∃ (Aw Ag : Option Addr) (cw cg : Nat) (G5 : Option Addr) (c5 : Nat) (G6 : Option Addr) (c6 l6 l7 l8 : Nat) (x : Nat → Value), L2F H w' n0 ds n1 zss day k (.slice Aw (shR ds zss day k).length cw) (.slice Ag (shR ds zss day k).length cg) G5 c5 G6 c6 l6 l7 l8 ∧ a = ⟨#[x 0, x 1, x 2, x 3, x 4, x 5, x 6, x 7, x 8, x 9, .slice Aw (shR ds zss day k).length cw, .bool (shOk ds zss day k), x 12, x 13, .slice Ag (shR ds zss day k).length cg, .bool (shOk ds zss day k), x 16, .int .i64 (1 + ((shR ds zss day k).length : Nat)), x 18, x 19, x 20, x 21, x 22, x 23, x 24, x 25, x 26, x 27, x 28, x 29, x 30, x 31, x 32, x 33, x 34, x 35, x 36, x 37, x 38, x 39, x 40, x 41, x 42, x 43, x 44, x 45, x 46, x 47, x 48, x 49, x 50, x 51, x 52, x 53, x 54, x 55, x 56, x 57, x 58, x 59, x 60, x 61, x 62, x 63, x 64, x 65, x 66, x 67, x 68, x 69, x 70, x 71, x 72, x 73, x 74, x 75, x 76, x 77, x 78, x 79, x 80, x 81, x 82, x 83, x 84, x 85, x 86, x 87, x 88, x 89, x 90, x 91, x 92, x 93, x 94, x 95, x 96, x 97, x 98, x 99, x 100, x 101, x 102, x 103, .slice G5 n0 c5, x 105, .slice G6 n1 c6, .int .i64 day, .int .i64 k, x 109, x 110, x 111, x 112, x 113, x 114, x 115, x 116, x 117, x 118, x 119, x 120, x 121, x 122, x 123, x 124, x 125, x 126, x 127, x 128], []⟩
theorem l2k {H n0 : Nat} {ds : List Rl} {n1 : Nat} {zss : List (List Int)} {day k : Int} {Aw Ag : Option Addr} {cw cg : Nat} {G5 : Option Addr} {c5 : Nat} {G6 : Option Addr} {c6 l6 l7 l8 : Nat} {w' : World} {t : Array Value} (h1 : L2F H w' n0 ds n1 zss day k (.slice Aw (shR ds zss day k).length cw) (.slice Ag (shR ds zss day k).length cg) G5 c5 G6 c6 l6 l7 l8) (h : t = #[t.getD 0 undef, t.getD 1 undef, t.getD 2 undef, t.getD 3 undef, t.getD 4 undef, t.getD 5 undef, t.getD 6 undef, t.getD 7 undef, t.getD 8 undef, t.getD 9 undef, .slice Aw (shR ds zss day k).length cw, .bool (shOk ds zss day k), t.getD 12 undef, t.getD 13 undef, .slice Ag (shR ds zss day k).length cg, .bool (shOk ds zss day k), t.getD 16 undef, .int .i64 (1 + ((shR ds zss day k).length : Nat)), t.getD 18 undef, t.getD 19 undef, t.getD 20 undef, t.getD 21 undef, t.getD 22 undef, t.getD 23 undef, t.getD 24 undef, t.getD 25 undef, t.getD 26 undef, t.getD 27 undef, t.getD 28 undef, t.getD 29 undef, t.getD 30 undef, t.getD 31 undef, t.getD 32 undef, t.getD 33 undef, t.getD 34 undef, t.getD 35 undef, t.getD 36 undef, t.getD 37 undef, t.getD 38 undef, t.getD 39 undef, t.getD 40 undef, t.getD 41 undef, t.getD 42 undef, t.getD 43 undef, t.getD 44 undef, t.getD 45 undef, t.getD 46 undef, t.getD 47 undef, t.getD 48 undef, t.getD 49 undef, t.getD 50 undef, t.getD 51 undef, t.getD 52 undef, t.getD 53 undef, t.getD 54 undef, t.getD 55 undef, t.getD 56 undef, t.getD 57 undef, t.getD 58 undef, t.getD 59 undef, t.getD 60 undef, t.getD 61 undef, t.getD 62 undef, t.getD 63 undef, t.getD 64 undef, t.getD 65 undef, t.getD 66 undef, t.getD 67 undef, t.getD 68 undef, t.getD 69 undef, t.getD 70 undef, t.getD 71 undef, t.getD 72 undef, t.getD 73 undef, t.getD 74 undef, t.getD 75 undef, t.getD 76 undef, t.getD 77 undef, t.getD 78 undef, t.getD 79 undef, t.getD 80 undef, t.getD 81 undef, t.getD 82 undef, t.getD 83 undef, t.getD 84 undef, t.getD 85 undef, t.getD 86 undef, t.getD 87 undef, t.getD 88 undef, t.getD 89 undef, t.getD 90 undef, t.getD 91 undef, t.getD 92 undef, t.getD 93 undef, t.getD 94 undef, t.getD 95 undef, t.getD 96 undef, t.getD 97 undef, t.getD 98 undef, t.getD 99 undef, t.getD 100 undef, t.getD 101 undef, t.getD 102 undef, t.getD 103 undef, .slice G5 n0 c5, t.getD 105 undef, .slice G6 n1 c6, .int .i64 day, .int .i64 k, t.getD 109 undef, t.getD 110 undef, t.getD 111 undef, t.getD 112 undef, t.getD 113 undef, t.getD 114 undef, t.getD 115 undef, t.getD 116 undef, t.getD 117 undef, t.getD 118 undef, t.getD 119 undef, t.getD 120 undef, t.getD 121 undef, t.getD 122 undef, t.getD 123 undef, t.getD 124 undef, t.getD 125 undef, t.getD 126 undef, t.getD 127 undef, t.getD 128 undef]) : L2K H n0 ds n1 zss day k ⟨t, []⟩ w' :=
  ⟨Aw, Ag, cw, cg, G5, c5, G6, c6, l6, l7, l8, fun i => t.getD i undef, h1, congrArg (fun x => (⟨x, []⟩ : Act)) h⟩
def G23 (H : Nat) (A0 : Option Addr) (n0 c0 : Nat) (ds : List Rl) (A1 : Option Addr) (n1 c1 : Nat) (zss : List (List Int)) (day k : Int) (W : World) (Aw Ag : Option Addr) (cw cg : Nat) (a : Act) (u : World) : Prop :=
  ∃ x : Nat → Value, u.ownsRow H tI 1 (.slice Aw (shR ds zss day k).length cw) (shR ds zss day k).length (ints (shR ds zss day k)) ∧ u.ownsRow H tI 1 (.slice Ag (shR ds zss day k).length cg) (shR ds zss day k).length (ints (up 1 (shR ds zss day k).length)) ∧ Below H W u ∧ a = ⟨#[.slice A0 n0 c0, .slice A1 n1 c1, .int .i64 day, .int .i64 k, x 4, x 5, x 6, x 7, x 8, x 9, .slice Aw (shR ds zss day k).length cw, .bool (shOk ds zss day k), x 12, x 13, .slice Ag (shR ds zss day k).length cg, .bool (shOk ds zss day k), x 16, .int .i64 (1 + ((shR ds zss day k).length : Nat)), x 18, x 19, x 20, x 21, x 22, x 23, x 24, x 25, x 26, x 27, x 28, x 29, x 30, x 31, x 32, x 33, x 34, x 35, x 36, x 37, x 38, x 39, x 40, x 41, x 42, x 43, x 44, x 45, x 46, x 47, x 48, x 49, x 50, x 51, x 52, x 53, x 54, x 55, x 56, x 57, x 58, x 59, x 60, x 61, x 62, x 63, x 64, x 65, x 66, x 67, x 68, x 69, x 70, x 71, x 72, x 73, x 74, x 75, x 76, x 77, x 78, x 79, x 80, x 81, x 82, x 83, x 84, x 85, x 86, x 87, x 88, x 89, x 90, x 91, x 92, x 93, x 94, x 95, x 96, x 97, x 98, x 99, x 100, x 101, x 102, x 103, x 104, x 105, x 106, x 107, x 108, x 109, x 110, x 111, x 112, x 113, x 114, x 115, x 116, x 117, x 118, x 119, x 120, x 121, x 122, x 123, x 124, x 125, x 126, x 127, x 128], []⟩
theorem g23 {H : Nat} {A0 : Option Addr} {n0 c0 : Nat} {ds : List Rl} {A1 : Option Addr} {n1 c1 : Nat} {zss : List (List Int)} {day k : Int} {W u : World} {Aw Ag : Option Addr} {cw cg : Nat} {t : Array Value} (h1 : u.ownsRow H tI 1 (.slice Aw (shR ds zss day k).length cw) (shR ds zss day k).length (ints (shR ds zss day k))) (h2 : u.ownsRow H tI 1 (.slice Ag (shR ds zss day k).length cg) (shR ds zss day k).length (ints (up 1 (shR ds zss day k).length))) (h3 : Below H W u) (h : t = #[.slice A0 n0 c0, .slice A1 n1 c1, .int .i64 day, .int .i64 k, t.getD 4 undef, t.getD 5 undef, t.getD 6 undef, t.getD 7 undef, t.getD 8 undef, t.getD 9 undef, .slice Aw (shR ds zss day k).length cw, .bool (shOk ds zss day k), t.getD 12 undef, t.getD 13 undef, .slice Ag (shR ds zss day k).length cg, .bool (shOk ds zss day k), t.getD 16 undef, .int .i64 (1 + ((shR ds zss day k).length : Nat)), t.getD 18 undef, t.getD 19 undef, t.getD 20 undef, t.getD 21 undef, t.getD 22 undef, t.getD 23 undef, t.getD 24 undef, t.getD 25 undef, t.getD 26 undef, t.getD 27 undef, t.getD 28 undef, t.getD 29 undef, t.getD 30 undef, t.getD 31 undef, t.getD 32 undef, t.getD 33 undef, t.getD 34 undef, t.getD 35 undef, t.getD 36 undef, t.getD 37 undef, t.getD 38 undef, t.getD 39 undef, t.getD 40 undef, t.getD 41 undef, t.getD 42 undef, t.getD 43 undef, t.getD 44 undef, t.getD 45 undef, t.getD 46 undef, t.getD 47 undef, t.getD 48 undef, t.getD 49 undef, t.getD 50 undef, t.getD 51 undef, t.getD 52 undef, t.getD 53 undef, t.getD 54 undef, t.getD 55 undef, t.getD 56 undef, t.getD 57 undef, t.getD 58 undef, t.getD 59 undef, t.getD 60 undef, t.getD 61 undef, t.getD 62 undef, t.getD 63 undef, t.getD 64 undef, t.getD 65 undef, t.getD 66 undef, t.getD 67 undef, t.getD 68 undef, t.getD 69 undef, t.getD 70 undef, t.getD 71 undef, t.getD 72 undef, t.getD 73 undef, t.getD 74 undef, t.getD 75 undef, t.getD 76 undef, t.getD 77 undef, t.getD 78 undef, t.getD 79 undef, t.getD 80 undef, t.getD 81 undef, t.getD 82 undef, t.getD 83 undef, t.getD 84 undef, t.getD 85 undef, t.getD 86 undef, t.getD 87 undef, t.getD 88 undef, t.getD 89 undef, t.getD 90 undef, t.getD 91 undef, t.getD 92 undef, t.getD 93 undef, t.getD 94 undef, t.getD 95 undef, t.getD 96 undef, t.getD 97 undef, t.getD 98 undef, t.getD 99 undef, t.getD 100 undef, t.getD 101 undef, t.getD 102 undef, t.getD 103 undef, t.getD 104 undef, t.getD 105 undef, t.getD 106 undef, t.getD 107 undef, t.getD 108 undef, t.getD 109 undef, t.getD 110 undef, t.getD 111 undef, t.getD 112 undef, t.getD 113 undef, t.getD 114 undef, t.getD 115 undef, t.getD 116 undef, t.getD 117 undef, t.getD 118 undef, t.getD 119 undef, t.getD 120 undef, t.getD 121 undef, t.getD 122 undef, t.getD 123 undef, t.getD 124 undef, t.getD 125 undef, t.getD 126 undef, t.getD 127 undef, t.getD 128 undef]) : G23 H A0 n0 c0 ds A1 n1 c1 zss day k W Aw Ag cw cg ⟨t, []⟩ u :=
  ⟨fun i => t.getD i undef, h1, h2, h3, congrArg (fun x => (⟨x, []⟩ : Act)) h⟩
set_option maxRecDepth 100000 in
set_option maxHeartbeats 6400000 in
theorem l1_mid {H : Nat} (A0 : Option Addr) (n0 c0 : Nat) (ds : List Rl) (A1 : Option Addr) (n1 c1 : Nat) (zss : List (List Int)) (day k : Int) (W : World) (vw vg : Value) (G2 : Option Addr) (c2 : Nat) (G3 : Option Addr) (c3 l2 l3 l4 l5 : Nat) (x : Nat → Value) (hF : L1F H W A0 n0 ds A1 n1 zss day k vw G2 c2 G3 c3 l2 l3 l4) (og : ObjI W l4 l5 vg (shR ds zss day k).length (shR ds zss day k)) (h5 : l4 ≤ l5 ∧ l5 ≤ W.heap.size)
    (hz : szD ds ≤ 1048576) (hs : szM zss ≤ 1048576) (cs : List Frame) :
    ∃ a w', L2K H n0 ds n1 zss day k a w' ∧ Steps Try.prog (lone (lB.at ⟨#[.slice A0 n0 c0, .slice A1 n1 c1, .int .i64 day, .int .i64 k, x 4, x 5, x 6, x 7, x 8, x 9, vw, .bool (shOk ds zss day k), .slice G2 n0 c2, .slice G3 n1 c3, x 14, x 15, x 16, x 17, x 18, x 19, x 20, x 21, x 22, x 23, x 24, x 25, x 26, x 27, x 28, x 29, x 30, x 31, x 32, x 33, x 34, x 35, x 36, x 37, x 38, x 39, x 40, x 41, x 42, x 43, x 44, x 45, .slice G2 n0 c2, .slice G3 n1 c3, .int .i64 day, .int .i64 k, .tuple #[vg, .bool (shOk ds zss day k)], x 51, x 52, x 53, x 54, x 55, x 56, x 57, x 58, x 59, x 60, x 61, x 62, x 63, x 64, x 65, x 66, x 67, x 68, x 69, x 70, x 71, x 72, x 73, x 74, x 75, x 76, x 77, x 78, x 79, x 80, x 81, x 82, x 83, x 84, x 85, x 86, x 87, x 88, x 89, x 90, x 91, x 92, x 93, x 94, x 95, x 96, x 97, x 98, x 99, x 100, x 101, x 102, x 103, x 104, x 105, x 106, x 107, x 108, x 109, x 110, x 111, x 112, x 113, x 114, x 115, x 116, x 117, x 118, x 119, x 120, x 121, x 122, x 123, x 124, x 125, x 126, x 127, x 128], []⟩ (.inRegion (opsOf lP9) [5, 6, 7, 8, 9] :: [.code lC10])) cs W) (lone (lB.at a (.inRegion (opsOf lP23) [6, 7, 8, 9, 10, 11] :: [.code lC24])) cs w') := by
  obtain ⟨⟨j2, j3, j4, j5⟩, K0, K1, ow, o2, o3⟩ := hF
  obtain ⟨j6, j7⟩ := h5
  have hH : H ≤ W.heap.size := by omega
  have r0 := K0.rd
  have r1 := K1.rd
  obtain ⟨Aw, cw, rfl⟩ := ow.form
  obtain ⟨Ag, cg, rfl⟩ := og.form
  have hL := shR_len ds zss day k
  have hB : Below H W W := Below.refl _ _
  obtain ⟨a1, w1, ⟨rfl, rfl⟩, hs1⟩ := ops_more (P := Try.prog) (ops := opsOf lP9) (ops2 := opsOf lP9) (K := fun a u => a = ⟨#[.slice A0 n0 c0, .slice A1 n1 c1, .int .i64 day, .int .i64 k, x 4, x 5, x 6, x 7, x 8, x 9, .slice Aw (shR ds zss day k).length cw, .bool (shOk ds zss day k), .slice G2 n0 c2, .slice G3 n1 c3, .slice Ag (shR ds zss day k).length cg, .bool (shOk ds zss day k), x 16, x 17, x 18, x 19, x 20, x 21, x 22, x 23, x 24, x 25, x 26, x 27, x 28, x 29, x 30, x 31, x 32, x 33, x 34, x 35, x 36, x 37, x 38, x 39, x 40, x 41, x 42, x 43, x 44, .tuple #[.slice Ag (shR ds zss day k).length cg, .bool (shOk ds zss day k)], .slice G2 n0 c2, .slice G3 n1 c3, .int .i64 day, .int .i64 k, .tuple #[.slice Ag (shR ds zss day k).length cg, .bool (shOk ds zss day k)], .slice Ag (shR ds zss day k).length cg, .bool (shOk ds zss day k), x 53, x 54, x 55, x 56, x 57, x 58, x 59, x 60, x 61, x 62, x 63, x 64, x 65, x 66, x 67, x 68, x 69, x 70, x 71, x 72, x 73, x 74, x 75, x 76, x 77, x 78, x 79, x 80, x 81, x 82, x 83, x 84, x 85, x 86, x 87, x 88, x 89, x 90, x 91, x 92, x 93, x 94, x 95, x 96, x 97, x 98, x 99, x 100, x 101, x 102, x 103, x 104, x 105, x 106, x 107, x 108, x 109, x 110, x 111, x 112, x 113, x 114, x 115, x 116, x 117, x 118, x 119, x 120, x 121, x 122, x 123, x 124, x 125, x 126, x 127, x 128], []⟩ ∧ u = W) (fun _ => rfl) [5, 6, 7, 8, 9] ⟨#[.slice A0 n0 c0, .slice A1 n1 c1, .int .i64 day, .int .i64 k, x 4, x 5, x 6, x 7, x 8, x 9, .slice Aw (shR ds zss day k).length cw, .bool (shOk ds zss day k), .slice G2 n0 c2, .slice G3 n1 c3, x 14, x 15, x 16, x 17, x 18, x 19, x 20, x 21, x 22, x 23, x 24, x 25, x 26, x 27, x 28, x 29, x 30, x 31, x 32, x 33, x 34, x 35, x 36, x 37, x 38, x 39, x 40, x 41, x 42, x 43, x 44, x 45, .slice G2 n0 c2, .slice G3 n1 c3, .int .i64 day, .int .i64 k, .tuple #[.slice Ag (shR ds zss day k).length cg, .bool (shOk ds zss day k)], x 51, x 52, x 53, x 54, x 55, x 56, x 57, x 58, x 59, x 60, x 61, x 62, x 63, x 64, x 65, x 66, x 67, x 68, x 69, x 70, x 71, x 72, x 73, x 74, x 75, x 76, x 77, x 78, x 79, x 80, x 81, x 82, x 83, x 84, x 85, x 86, x 87, x 88, x 89, x 90, x 91, x 92, x 93, x 94, x 95, x 96, x 97, x 98, x 99, x 100, x 101, x 102, x 103, x 104, x 105, x 106, x 107, x 108, x 109, x 110, x 111, x 112, x 113, x 114, x 115, x 116, x 117, x 118, x 119, x 120, x 121, x 122, x 123, x 124, x 125, x 126, x 127, x 128], []⟩ W (fun _ _ => rfl) (by
    unfold lP9 lC9 lC8 lC7 lC6 lC5 lC4 lC3 lC2 lC1 lC0 Try.f3
    dsimp only [sq1, sq2, opsOf]
    go_wp2_with fail
    refine Or.inl ?_
    go_simp
    refine Or.inl ?_
    go_simp
    refine Or.inl ?_
    go_simp
    refine Or.inl ?_
    go_simp
    refine Or.inl ?_
    go_simp
    exact ⟨rfl, rfl, rfl⟩) lB [] [.code lC10] cs
  have key : Gets Try.prog lC10 lC23 lB [] cs (G23 H A0 n0 c0 ds A1 n1 c1 zss day k w1 Aw Ag cw cg) ⟨#[.slice A0 n0 c0, .slice A1 n1 c1, .int .i64 day, .int .i64 k, x 4, x 5, x 6, x 7, x 8, x 9, .slice Aw (shR ds zss day k).length cw, .bool (shOk ds zss day k), .slice G2 n0 c2, .slice G3 n1 c3, .slice Ag (shR ds zss day k).length cg, .bool (shOk ds zss day k), x 16, x 17, x 18, x 19, x 20, x 21, x 22, x 23, x 24, x 25, x 26, x 27, x 28, x 29, x 30, x 31, x 32, x 33, x 34, x 35, x 36, x 37, x 38, x 39, x 40, x 41, x 42, x 43, x 44, .tuple #[.slice Ag (shR ds zss day k).length cg, .bool (shOk ds zss day k)], .slice G2 n0 c2, .slice G3 n1 c3, .int .i64 day, .int .i64 k, .tuple #[.slice Ag (shR ds zss day k).length cg, .bool (shOk ds zss day k)], .slice Ag (shR ds zss day k).length cg, .bool (shOk ds zss day k), x 53, x 54, x 55, x 56, x 57, x 58, x 59, x 60, x 61, x 62, x 63, x 64, x 65, x 66, x 67, x 68, x 69, x 70, x 71, x 72, x 73, x 74, x 75, x 76, x 77, x 78, x 79, x 80, x 81, x 82, x 83, x 84, x 85, x 86, x 87, x 88, x 89, x 90, x 91, x 92, x 93, x 94, x 95, x 96, x 97, x 98, x 99, x 100, x 101, x 102, x 103, x 104, x 105, x 106, x 107, x 108, x 109, x 110, x 111, x 112, x 113, x 114, x 115, x 116, x 117, x 118, x 119, x 120, x 121, x 122, x 123, x 124, x 125, x 126, x 127, x 128], []⟩ w1 := by
    refine Gets.step lc10 ?_
    unfold lP10 lC10 lC9 lC8 lC7 lC6 lC5 lC4 lC3 lC2 lC1 lC0 Try.f3
    dsimp only [sq1, sq2]
    go_wp2_with fail
    refine (eqInt64S_yes _ _ _ _ _ _ _ og.rd ow.rd (by omega)).mono ?_
    rintro e w2 ⟨rfl, hb'⟩
    replace ow := ow.on hb'
    replace og := og.on hb'
    replace o2 := o2.on hb'
    replace o3 := o3.on hb'
    replace hB := bH_step hH hB hb'
    clear hb'
    go_wp2_with fail
    refine ⟨rfl, ?_⟩
    refine Gets.step lc11 ?_
    unfold lP11 lC11 lC10 lC9 lC8 lC7 lC6 lC5 lC4 lC3 lC2 lC1 lC0 Try.f3
    dsimp only [sq1, sq2]
    go_wp2_with fail
    refine (toRs_any _ _ _ ds _ ((r0.below hB).more (bH_size hH hB)) hz).mono ?_
    rintro e w3 ⟨E2, q2, rfl, e2, hb'⟩
    replace ow := ow.on hb'
    replace og := og.on hb'
    replace o2 := o2.on hb'
    replace o3 := o3.on hb'
    replace hB := bH_step hH hB hb'
    clear hb'
    go_wp2_with fail
    refine (eqRs_yes _ _ _ _ _ ds _ o2.rd e2.rd (by omega)).mono ?_
    rintro e w4 ⟨rfl, hb'⟩
    replace ow := ow.on hb'
    replace og := og.on hb'
    replace o2 := o2.on hb'
    replace o3 := o3.on hb'
    replace hB := bH_step hH hB hb'
    clear hb' e2
    go_wp2_with fail
    refine ⟨rfl, ?_⟩
    refine Gets.step lc12 ?_
    unfold lP12 lC12 lC11 lC10 lC9 lC8 lC7 lC6 lC5 lC4 lC3 lC2 lC1 lC0 Try.f3
    dsimp only [sq1, sq2]
    go_wp2_with fail
    refine (toMs_any _ _ _ zss _ ((r1.below hB).more (bH_size hH hB)) hs).mono ?_
    rintro e w5 ⟨E3, q3, rfl, e3, hb'⟩
    replace ow := ow.on hb'
    replace og := og.on hb'
    replace o2 := o2.on hb'
    replace o3 := o3.on hb'
    replace hB := bH_step hH hB hb'
    clear hb'
    go_wp2_with fail
    refine (eqMs_yes _ _ _ _ _ zss _ o3.rd e3.rd hs).mono ?_
    rintro e w6 ⟨rfl, hb'⟩
    replace ow := ow.on hb'
    replace og := og.on hb'
    replace o2 := o2.on hb'
    replace o3 := o3.on hb'
    replace hB := bH_step hH hB hb'
    clear hb' e3
    go_wp2_with fail
    refine ⟨rfl, ?_⟩
    refine Gets.step lc13 ?_
    unfold lP13 lC13 lC12 lC11 lC10 lC9 lC8 lC7 lC6 lC5 lC4 lC3 lC2 lC1 lC0 Try.f3
    dsimp only [sq1, sq2]
    go_wp2_with fail
    refine ⟨rfl, ?_⟩
    refine Gets.step lc14 ?_
    unfold lP14 lC14 lC13 lC12 lC11 lC10 lC9 lC8 lC7 lC6 lC5 lC4 lC3 lC2 lC1 lC0 Try.f3
    dsimp only [sq1, sq2]
    go_wp2_with fail
    refine (markRs_any _ l2 l3 _ 1 ds _ o2 (by omega) (by omega) (by omega)).mono ?_
    rintro e w7 ⟨rfl, _, hon⟩
    replace ow := ow.only hon (.inl (Nat.le_refl _))
    replace og := og.only hon (.inr j4)
    replace o3 := o3.only hon (.inr (Nat.le_refl _))
    replace hB := bH_only hH hB hon j2
    clear hon o2
    obtain ⟨p1, hp1, hp2⟩ : ∃ p : Int, p = 1 + totD ds ∧ (0 ≤ p ∧ p ≤ 1073741824) := ⟨_, rfl, by have := tot_sz ds; omega⟩
    rw [← hp1]
    clear hp1
    go_wp2_with fail
    refine ⟨rfl, ?_⟩
    refine Gets.step lc15 ?_
    unfold lP15 lC15 lC14 lC13 lC12 lC11 lC10 lC9 lC8 lC7 lC6 lC5 lC4 lC3 lC2 lC1 lC0 Try.f3
    dsimp only [sq1, sq2]
    go_wp2_with fail
    refine (markMs_any _ l3 l4 _ p1 zss _ o3 hs hp2.1 hp2.2).mono ?_
    rintro e w8 ⟨p2, rfl, hp3, hon⟩
    replace ow := ow.only hon (.inl j3)
    replace og := og.only hon (.inr (Nat.le_refl _))
    replace hB := bH_only hH hB hon (by omega)
    clear hon o3 hp2
    go_wp2_with fail
    refine ⟨rfl, ?_⟩
    refine Gets.step lc16 ?_
    unfold lP16 lC16 lC15 lC14 lC13 lC12 lC11 lC10 lC9 lC8 lC7 lC6 lC5 lC4 lC3 lC2 lC1 lC0 Try.f3
    dsimp only [sq1, sq2]
    go_wp2_with fail
    refine (eqInt64S_yes _ _ _ _ _ _ _ og.rd ow.rd (by omega)).mono ?_
    rintro e w9 ⟨rfl, hb'⟩
    replace ow := ow.on hb'
    replace og := og.on hb'
    replace hB := bH_step hH hB hb'
    clear hb'
    go_wp2_with fail
    refine ⟨rfl, ?_⟩
    refine Gets.step lc17 ?_
    unfold lP17 lC17 lC16 lC15 lC14 lC13 lC12 lC11 lC10 lC9 lC8 lC7 lC6 lC5 lC4 lC3 lC2 lC1 lC0 Try.f3
    dsimp only [sq1, sq2]
    go_wp2_with fail
    refine ⟨rfl, ?_⟩
    refine Gets.step lc18 ?_
    unfold lP18 lC18 lC17 lC16 lC15 lC14 lC13 lC12 lC11 lC10 lC9 lC8 lC7 lC6 lC5 lC4 lC3 lC2 lC1 lC0 Try.f3
    dsimp only [sq1, sq2]
    go_wp2_with fail
    refine (markI_any _ l4 l5 _ 1 _ _ og (by omega) (by omega) (by omega)).mono ?_
    rintro e w10 ⟨rfl, pp, hon⟩
    replace ow := ow.only hon (.inl (by omega))
    replace hB := bH_only hH hB hon (by omega)
    clear hon og
    have og := pp
    clear pp
    go_wp2_with fail
    refine ⟨rfl, ?_⟩
    refine Gets.step lc19 ?_
    unfold lP19 lC19 lC18 lC17 lC16 lC15 lC14 lC13 lC12 lC11 lC10 lC9 lC8 lC7 lC6 lC5 lC4 lC3 lC2 lC1 lC0 Try.f3
    dsimp only [sq1, sq2]
    go_wp2_with fail
    refine ⟨rfl, ?_⟩
    refine Gets.step lc20 ?_
    unfold lP20 lC20 lC19 lC18 lC17 lC16 lC15 lC14 lC13 lC12 lC11 lC10 lC9 lC8 lC7 lC6 lC5 lC4 lC3 lC2 lC1 lC0 Try.f3
    dsimp only [sq1, sq2]
    go_wp2_with fail
    refine (heldInt64S_any _ _ _ _ _ og.rd (by omega) (by omega) (by omega)).mono ?_
    rintro e w11 ⟨rfl, rfl⟩
    go_wp2_with fail
    refine ⟨rfl, ?_⟩
    refine Gets.step lc21 ?_
    unfold lP21 lC21 lC20 lC19 lC18 lC17 lC16 lC15 lC14 lC13 lC12 lC11 lC10 lC9 lC8 lC7 lC6 lC5 lC4 lC3 lC2 lC1 lC0 Try.f3
    dsimp only [sq1, sq2]
    go_wp2_with fail
    refine ⟨rfl, ?_⟩
    refine Gets.step lc22 ?_
    unfold lP22 lC22 lC21 lC20 lC19 lC18 lC17 lC16 lC15 lC14 lC13 lC12 lC11 lC10 lC9 lC8 lC7 lC6 lC5 lC4 lC3 lC2 lC1 lC0 Try.f3
    dsimp only [sq1, sq2]
    go_wp2_with fail
    refine ⟨rfl, Gets.done ?_⟩
    exact g23 (own_base ow.1 (Nat.le_refl _)) (own_base og.1 (by omega)) hB rfl
  obtain ⟨a2, u, ⟨y, ow2, og2, hB2, rfl⟩, hs2⟩ := key
  obtain ⟨a3, u3, hK, hs3⟩ := ops_more (P := Try.prog) (ops := opsOf lP23) (ops2 := opsOf lP23) (K := L2K H n0 ds n1 zss day k) (fun _ => rfl) [0, 1, 2, 3, 4, 5] ⟨#[.slice A0 n0 c0, .slice A1 n1 c1, .int .i64 day, .int .i64 k, y 4, y 5, y 6, y 7, y 8, y 9, .slice Aw (shR ds zss day k).length cw, .bool (shOk ds zss day k), y 12, y 13, .slice Ag (shR ds zss day k).length cg, .bool (shOk ds zss day k), y 16, .int .i64 (1 + ((shR ds zss day k).length : Nat)), y 18, y 19, y 20, y 21, y 22, y 23, y 24, y 25, y 26, y 27, y 28, y 29, y 30, y 31, y 32, y 33, y 34, y 35, y 36, y 37, y 38, y 39, y 40, y 41, y 42, y 43, y 44, y 45, y 46, y 47, y 48, y 49, y 50, y 51, y 52, y 53, y 54, y 55, y 56, y 57, y 58, y 59, y 60, y 61, y 62, y 63, y 64, y 65, y 66, y 67, y 68, y 69, y 70, y 71, y 72, y 73, y 74, y 75, y 76, y 77, y 78, y 79, y 80, y 81, y 82, y 83, y 84, y 85, y 86, y 87, y 88, y 89, y 90, y 91, y 92, y 93, y 94, y 95, y 96, y 97, y 98, y 99, y 100, y 101, y 102, y 103, y 104, y 105, y 106, y 107, y 108, y 109, y 110, y 111, y 112, y 113, y 114, y 115, y 116, y 117, y 118, y 119, y 120, y 121, y 122, y 123, y 124, y 125, y 126, y 127, y 128], []⟩ u (fun _ _ => rfl) (by
    clear ow og hs1 hs2 o2 o3
    unfold lP23 lC23 lC22 lC21 lC20 lC19 lC18 lC17 lC16 lC15 lC14 lC13 lC12 lC11 lC10 lC9 lC8 lC7 lC6 lC5 lC4 lC3 lC2 lC1 lC0 Try.f3
    dsimp only [sq1, sq2, opsOf]
    go_wp2_with fail
    refine Or.inl ?_
    go_simp
    refine Or.inl ?_
    go_simp
    refine (toRs_any _ _ _ ds _ ((r0.below hB2).more (bH_size hH hB2)) hz).mono ?_
    rintro e w12 ⟨G5, c5, rfl, o5, hb'⟩
    have q1 := bH_size hH hB2
    have q2 := hb'.size
    replace ow2 := own_on ow2 hb'
    replace og2 := own_on og2 hb'
    replace hB2 := bH_step hH hB2 hb'
    clear hb'
    go_wp2_with fail
    refine Or.inl ?_
    go_simp
    refine Or.inl ?_
    go_simp
    refine (toMs_any _ _ _ zss _ ((r1.below hB2).more (bH_size hH hB2)) hs).mono ?_
    rintro e w13 ⟨G6, c6, rfl, o6, hb'⟩
    have q3 := hb'.size
    replace ow2 := own_on ow2 hb'
    replace og2 := own_on og2 hb'
    replace o5 := o5.on hb'
    clear hb' hB2
    go_wp2_with fail
    refine Or.inl ?_
    go_simp
    refine Or.inl ?_
    go_simp
    exact ⟨rfl, l2k ⟨⟨q1, q2, q3, Nat.le_refl _⟩, ow2, og2, o5, o6⟩ rfl⟩) lB [6, 7, 8, 9, 10, 11] [.code lC24] cs
  refine ⟨a3, u3, hK, Steps.trans hs1 (.head step_region_end (Steps.trans hs2 ?_))⟩
  rw [lc23]
  refine .head step_seq ?_
  rw [show lP23 = .region 31 (opsOf lP23) false from lp23]
  refine .head step_region ?_
  rw [show List.range (opsOf lP23).size = [0, 1, 2, 3, 4, 5] ++ [6, 7, 8, 9, 10, 11] from by rw [lp23_size]; rfl]
  exact hs3
end Go.Proofs.Ytmfglflahlddbaa

