/-
  The law FnExactDrawsShared: to the first call.
-/
import Derived.Test.YtneclhkpgalnlaaShZa
namespace Go.Proofs.Ytneclhkpgalnlaa
open Go.ChangeShapes Go.WideShapes Go.ChangeAt Go.RowKit Sm Go.Conc
set_option linter.unusedVariables false
structure L1F (H : Nat) (v : World) (A0 : Option Addr) (n0 : Nat) (z0 : List Int) (A1 : Option Addr) (n1 : Nat) (z1 : List Int) (k : Int) (vw : Value) (gA gR : Nat) : Prop where
  hH : H ≤ v.heap.size
  r0 : Rd v H 1 A0 n0 (ints z0)
  r1 : Rd v H 1 A1 n1 (ints z1)
  ow : v.ownsRow H 2 1 vw (shareR z0 z1 k).length (ints (shareR z0 z1 k))
  o2 : v.ownsRow H 2 1 (.slice (some ⟨gA, 0, none⟩) n0 n0) n0 (ints z0)
  o3 : v.ownsRow H 2 1 (.slice (some ⟨gR, 0, none⟩) n1 n1) n1 (ints z1)
  a2w : Ap vw (.slice (some ⟨gA, 0, none⟩) n0 n0)
  a3w : Ap vw (.slice (some ⟨gR, 0, none⟩) n1 n1)
  a23 : Ap (.slice (some ⟨gA, 0, none⟩) n0 n0) (.slice (some ⟨gR, 0, none⟩) n1 n1)
  hne : gA ≠ gR
def L1J (H : Nat) (W : World) (A0 : Option Addr) (n0 c0 : Nat) (z0 : List Int) (A1 : Option Addr) (n1 c1 : Nat) (z1 : List Int) (k : Int) (a : Act) (w' : World) : Prop :=
  ∃ (vw : Value) (gA gR : Nat) (x : Nat → Value), L1F H w' A0 n0 z0 A1 n1 z1 k vw gA gR ∧ Below H W w' ∧ a = ⟨#[.slice A0 n0 c0, .slice A1 n1 c1, .int .i64 k, x 3, x 4, x 5, x 6, vw, .bool (shareOk z0 z1 k), .slice (some ⟨gA, 0, none⟩) n0 n0, .slice (some ⟨gR, 0, none⟩) n1 n1, x 11, x 12, x 13, x 14, x 15, x 16, x 17, x 18, x 19, x 20, x 21, x 22, x 23, x 24, x 25, x 26, x 27, x 28, x 29, x 30, x 31, x 32, x 33, x 34, x 35, x 36, x 37, x 38, x 39, x 40, x 41, x 42, x 43, x 44, x 45, x 46, x 47, x 48, x 49, x 50, x 51, x 52, x 53, x 54, x 55, x 56, x 57, x 58, x 59, x 60, x 61, x 62, x 63, x 64, x 65, x 66, x 67, x 68, x 69, x 70, x 71, x 72, x 73, x 74, x 75, x 76, x 77, x 78, x 79, x 80, x 81, x 82, x 83, x 84, x 85, x 86, x 87, x 88, x 89, x 90, x 91, x 92, x 93, x 94, x 95, x 96, x 97, x 98, x 99, x 100, x 101, x 102, x 103, x 104, x 105, x 106, x 107, x 108, x 109, x 110, x 111, x 112, x 113, x 114, x 115, x 116, x 117, x 118], []⟩
theorem l1j {H : Nat} {W w' : World} {A0 : Option Addr} {n0 c0 : Nat} {z0 : List Int} {A1 : Option Addr} {n1 c1 : Nat} {z1 : List Int} {k : Int} {vw : Value} {gA gR : Nat} {t : Array Value} (h1 : L1F H w' A0 n0 z0 A1 n1 z1 k vw gA gR) (h2 : Below H W w') (h : t = #[.slice A0 n0 c0, .slice A1 n1 c1, .int .i64 k, t.getD 3 undef, t.getD 4 undef, t.getD 5 undef, t.getD 6 undef, vw, .bool (shareOk z0 z1 k), .slice (some ⟨gA, 0, none⟩) n0 n0, .slice (some ⟨gR, 0, none⟩) n1 n1, t.getD 11 undef, t.getD 12 undef, t.getD 13 undef, t.getD 14 undef, t.getD 15 undef, t.getD 16 undef, t.getD 17 undef, t.getD 18 undef, t.getD 19 undef, t.getD 20 undef, t.getD 21 undef, t.getD 22 undef, t.getD 23 undef, t.getD 24 undef, t.getD 25 undef, t.getD 26 undef, t.getD 27 undef, t.getD 28 undef, t.getD 29 undef, t.getD 30 undef, t.getD 31 undef, t.getD 32 undef, t.getD 33 undef, t.getD 34 undef, t.getD 35 undef, t.getD 36 undef, t.getD 37 undef, t.getD 38 undef, t.getD 39 undef, t.getD 40 undef, t.getD 41 undef, t.getD 42 undef, t.getD 43 undef, t.getD 44 undef, t.getD 45 undef, t.getD 46 undef, t.getD 47 undef, t.getD 48 undef, t.getD 49 undef, t.getD 50 undef, t.getD 51 undef, t.getD 52 undef, t.getD 53 undef, t.getD 54 undef, t.getD 55 undef, t.getD 56 undef, t.getD 57 undef, t.getD 58 undef, t.getD 59 undef, t.getD 60 undef, t.getD 61 undef, t.getD 62 undef, t.getD 63 undef, t.getD 64 undef, t.getD 65 undef, t.getD 66 undef, t.getD 67 undef, t.getD 68 undef, t.getD 69 undef, t.getD 70 undef, t.getD 71 undef, t.getD 72 undef, t.getD 73 undef, t.getD 74 undef, t.getD 75 undef, t.getD 76 undef, t.getD 77 undef, t.getD 78 undef, t.getD 79 undef, t.getD 80 undef, t.getD 81 undef, t.getD 82 undef, t.getD 83 undef, t.getD 84 undef, t.getD 85 undef, t.getD 86 undef, t.getD 87 undef, t.getD 88 undef, t.getD 89 undef, t.getD 90 undef, t.getD 91 undef, t.getD 92 undef, t.getD 93 undef, t.getD 94 undef, t.getD 95 undef, t.getD 96 undef, t.getD 97 undef, t.getD 98 undef, t.getD 99 undef, t.getD 100 undef, t.getD 101 undef, t.getD 102 undef, t.getD 103 undef, t.getD 104 undef, t.getD 105 undef, t.getD 106 undef, t.getD 107 undef, t.getD 108 undef, t.getD 109 undef, t.getD 110 undef, t.getD 111 undef, t.getD 112 undef, t.getD 113 undef, t.getD 114 undef, t.getD 115 undef, t.getD 116 undef, t.getD 117 undef, t.getD 118 undef]) : L1J H W A0 n0 c0 z0 A1 n1 c1 z1 k ⟨t, []⟩ w' :=
  ⟨vw, gA, gR, fun i => t.getD i undef, h1, h2, congrArg (fun x => (⟨x, []⟩ : Act)) h⟩
def L1K (H : Nat) (W : World) (A0 : Option Addr) (n0 c0 : Nat) (z0 : List Int) (A1 : Option Addr) (n1 c1 : Nat) (z1 : List Int) (k : Int) (a : Act) (w' : World) : Prop :=
  ∃ (vw : Value) (gA gR : Nat) (x : Nat → Value), L1F H w' A0 n0 z0 A1 n1 z1 k vw gA gR ∧ Below H W w' ∧ a = ⟨#[.slice A0 n0 c0, .slice A1 n1 c1, .int .i64 k, x 3, x 4, x 5, x 6, vw, .bool (shareOk z0 z1 k), .slice (some ⟨gA, 0, none⟩) n0 n0, .slice (some ⟨gR, 0, none⟩) n1 n1, x 11, x 12, x 13, x 14, x 15, x 16, x 17, x 18, x 19, x 20, x 21, x 22, x 23, x 24, x 25, x 26, x 27, x 28, x 29, x 30, x 31, x 32, x 33, x 34, x 35, x 36, x 37, .slice (some ⟨gA, 0, none⟩) n0 n0, .slice (some ⟨gR, 0, none⟩) n1 n1, .int .i64 k, x 41, x 42, x 43, x 44, x 45, x 46, x 47, x 48, x 49, x 50, x 51, x 52, x 53, x 54, x 55, x 56, x 57, x 58, x 59, x 60, x 61, x 62, x 63, x 64, x 65, x 66, x 67, x 68, x 69, x 70, x 71, x 72, x 73, x 74, x 75, x 76, x 77, x 78, x 79, x 80, x 81, x 82, x 83, x 84, x 85, x 86, x 87, x 88, x 89, x 90, x 91, x 92, x 93, x 94, x 95, x 96, x 97, x 98, x 99, x 100, x 101, x 102, x 103, x 104, x 105, x 106, x 107, x 108, x 109, x 110, x 111, x 112, x 113, x 114, x 115, x 116, x 117, x 118], []⟩
set_option maxRecDepth 100000 in
set_option maxHeartbeats 3200000 in
theorem l1_pre {H : Nat} (A0 : Option Addr) (n0 c0 : Nat) (z0 : List Int) (A1 : Option Addr) (n1 c1 : Nat) (z1 : List Int) (k : Int) (W : World) (hH : H ≤ W.heap.size) (r0 : Rd W H 1 A0 n0 (ints z0)) (r1 : Rd W H 1 A1 n1 (ints z1)) (m0 : n0 ≤ 1048576) (m1 : n1 ≤ 1048576) (bk : -9223372036854775808 ≤ k ∧ k ≤ 9223372036854775807) (cs : List Frame) :
    ∃ a w', L1K H W A0 n0 c0 z0 A1 n1 c1 z1 k a w' ∧
      Steps Try.prog (lone (Frame.enter Try.prog 3 #[.slice A0 n0 c0, .slice A1 n1 c1, .int .i64 k] .normal) cs W) (lone (lB.at a (.inRegion (opsOf lP6) [3, 4, 5, 6, 7, 8] :: [.code lC7])) cs w') := by
  have hB : Below H W W := Below.refl _ _
  have key : Gets Try.prog lC0 lC6 lB [] cs (L1J H W A0 n0 c0 z0 A1 n1 c1 z1 k) ⟨#[.slice A0 n0 c0, .slice A1 n1 c1, .int .i64 k, undef, undef, undef, undef, undef, undef, undef, undef, undef, undef, undef, undef, undef, undef, undef, undef, undef, undef, undef, undef, undef, undef, undef, undef, undef, undef, undef, undef, undef, undef, undef, undef, undef, undef, undef, undef, undef, undef, undef, undef, undef, undef, undef, undef, undef, undef, undef, undef, undef, undef, undef, undef, undef, undef, undef, undef, undef, undef, undef, undef, undef, undef, undef, undef, undef, undef, undef, undef, undef, undef, undef, undef, undef, undef, undef, undef, undef, undef, undef, undef, undef, undef, undef, undef, undef, undef, undef, undef, undef, undef, undef, undef, undef, undef, undef, undef, undef, undef, undef, undef, undef, undef, undef, undef, undef, undef, undef, undef, undef, undef, undef, undef, undef, undef, undef, undef], []⟩ W := by
    refine Gets.step lc0 ?_
    unfold lP0 lC0 Try.f3
    dsimp only [sq1, sq2]
    go_wp2_with fail
    refine ⟨rfl, ?_⟩
    refine Gets.step lc1 ?_
    unfold lP1 lC1 lC0 Try.f3
    dsimp only [sq1, sq2]
    go_wp2_with fail
    refine ⟨rfl, ?_⟩
    refine Gets.step lc2 ?_
    unfold lP2 lC2 lC1 lC0 Try.f3
    dsimp only [sq1, sq2]
    go_wp2_with fail
    refine ⟨rfl, ?_⟩
    refine Gets.step lc3 ?_
    unfold lP3 lC3 lC2 lC1 lC0 Try.f3
    dsimp only [sq1, sq2]
    go_wp2_with fail
    refine (toInt64S_any _ _ _ z0 _ ((r0.below hB).more (bH_size hH hB)) m0).mono ?_
    rintro e w1 ⟨g1, rfl, o1, hb⟩
    replace o1 := own_base o1 (bH_size hH hB)
    replace hB := bH_step hH hB hb
    clear hb
    go_wp2_with fail
    refine (toInt64S_any _ _ _ z1 _ ((r1.below hB).more (bH_size hH hB)) m1).mono ?_
    rintro e w2 ⟨g1b, rfl, o1b, hb⟩
    have ap_o1b_o1 := own_apart o1 o1b
    replace o1b := own_base o1b (bH_size hH hB)
    replace o1 := own_on o1 hb
    replace hB := bH_step hH hB hb
    clear hb
    go_wp2_with fail
    refine (spec_ds _ _ _ z0 _ _ _ z1 k _ (Rd.of_own o1) m0 (Rd.of_own o1b) m1 bk).mono ?_
    rintro e w3 ⟨vw, rfl, ow, hb⟩
    replace ow := own_base ow (bH_size hH hB)
    replace hB := bH_step hH hB hb
    clear hb o1 o1b ap_o1b_o1
    go_wp2_with fail
    refine ⟨rfl, ?_⟩
    refine Gets.step lc4 ?_
    unfold lP4 lC4 lC3 lC2 lC1 lC0 Try.f3
    dsimp only [sq1, sq2]
    go_wp2_with fail
    refine (toInt64S_any _ _ _ z0 _ ((r0.below hB).more (bH_size hH hB)) m0).mono ?_
    rintro e w4 ⟨gA, rfl, o2, hb⟩
    have ap_o2_ow := own_apart ow o2
    replace o2 := own_base o2 (bH_size hH hB)
    replace ow := own_on ow hb
    replace hB := bH_step hH hB hb
    clear hb
    go_wp2_with fail
    refine ⟨rfl, ?_⟩
    refine Gets.step lc5 ?_
    unfold lP5 lC5 lC4 lC3 lC2 lC1 lC0 Try.f3
    dsimp only [sq1, sq2]
    go_wp2_with fail
    refine (toInt64S_any _ _ _ z1 _ ((r1.below hB).more (bH_size hH hB)) m1).mono ?_
    rintro e w5 ⟨gR, rfl, o3, hb⟩
    have ap_o3_ow := own_apart ow o3
    have ap_o3_o2 := own_apart o2 o3
    replace o3 := own_base o3 (bH_size hH hB)
    replace ow := own_on ow hb
    replace o2 := own_on o2 hb
    replace hB := bH_step hH hB hb
    clear hb
    go_wp2_with fail
    refine ⟨rfl, Gets.done ?_⟩
    have hne : gA ≠ gR := fun e => by
      rcases ap_o3_o2.1 with h | h
      · cases h
      · exact h (by rw [e]; rfl)
    exact l1j ⟨bH_size hH hB, r0.below hB, r1.below hB, ow, o2, o3, ap_o2_ow, ap_o3_ow, ap_o3_o2, hne⟩ hB rfl
  obtain ⟨a1, w1, ⟨vw, gA, gR, x, hF, hB1, rfl⟩, hs1⟩ := key
  obtain ⟨a2, w2, ⟨rfl, rfl⟩, hs2⟩ := ops_more (P := Try.prog) (ops := opsOf lP6) (ops2 := opsOf lP6) (K := fun a u => a = ⟨#[.slice A0 n0 c0, .slice A1 n1 c1, .int .i64 k, x 3, x 4, x 5, x 6, vw, .bool (shareOk z0 z1 k), .slice (some ⟨gA, 0, none⟩) n0 n0, .slice (some ⟨gR, 0, none⟩) n1 n1, x 11, x 12, x 13, x 14, x 15, x 16, x 17, x 18, x 19, x 20, x 21, x 22, x 23, x 24, x 25, x 26, x 27, x 28, x 29, x 30, x 31, x 32, x 33, x 34, x 35, x 36, x 37, .slice (some ⟨gA, 0, none⟩) n0 n0, .slice (some ⟨gR, 0, none⟩) n1 n1, .int .i64 k, x 41, x 42, x 43, x 44, x 45, x 46, x 47, x 48, x 49, x 50, x 51, x 52, x 53, x 54, x 55, x 56, x 57, x 58, x 59, x 60, x 61, x 62, x 63, x 64, x 65, x 66, x 67, x 68, x 69, x 70, x 71, x 72, x 73, x 74, x 75, x 76, x 77, x 78, x 79, x 80, x 81, x 82, x 83, x 84, x 85, x 86, x 87, x 88, x 89, x 90, x 91, x 92, x 93, x 94, x 95, x 96, x 97, x 98, x 99, x 100, x 101, x 102, x 103, x 104, x 105, x 106, x 107, x 108, x 109, x 110, x 111, x 112, x 113, x 114, x 115, x 116, x 117, x 118], []⟩ ∧ u = w1) (fun _ => rfl) [0, 1, 2] ⟨#[.slice A0 n0 c0, .slice A1 n1 c1, .int .i64 k, x 3, x 4, x 5, x 6, vw, .bool (shareOk z0 z1 k), .slice (some ⟨gA, 0, none⟩) n0 n0, .slice (some ⟨gR, 0, none⟩) n1 n1, x 11, x 12, x 13, x 14, x 15, x 16, x 17, x 18, x 19, x 20, x 21, x 22, x 23, x 24, x 25, x 26, x 27, x 28, x 29, x 30, x 31, x 32, x 33, x 34, x 35, x 36, x 37, x 38, x 39, x 40, x 41, x 42, x 43, x 44, x 45, x 46, x 47, x 48, x 49, x 50, x 51, x 52, x 53, x 54, x 55, x 56, x 57, x 58, x 59, x 60, x 61, x 62, x 63, x 64, x 65, x 66, x 67, x 68, x 69, x 70, x 71, x 72, x 73, x 74, x 75, x 76, x 77, x 78, x 79, x 80, x 81, x 82, x 83, x 84, x 85, x 86, x 87, x 88, x 89, x 90, x 91, x 92, x 93, x 94, x 95, x 96, x 97, x 98, x 99, x 100, x 101, x 102, x 103, x 104, x 105, x 106, x 107, x 108, x 109, x 110, x 111, x 112, x 113, x 114, x 115, x 116, x 117, x 118], []⟩ w1 (fun _ _ => rfl) (by
    unfold lP6 lC6 lC5 lC4 lC3 lC2 lC1 lC0 Try.f3
    dsimp only [sq1, sq2, opsOf]
    go_wp2_with fail
    refine Or.inl ?_
    go_simp
    refine Or.inl ?_
    go_simp
    refine Or.inl ?_
    go_simp
    exact ⟨rfl, rfl, rfl⟩) lB [3, 4, 5, 6, 7, 8] [.code lC7] cs
  refine ⟨_, w2, ⟨vw, gA, gR, x, hF, hB1, rfl⟩, ?_⟩
  rw [l_enter]
  refine Steps.trans hs1 ?_
  rw [lc6]
  refine .head step_seq ?_
  rw [show lP6 = .region 8 (opsOf lP6) false from lp6]
  refine .head step_region ?_
  rw [show List.range (opsOf lP6).size = [0, 1, 2] ++ [3, 4, 5, 6, 7, 8] from by rw [lp6_size]; rfl]
  exact hs2
end Go.Proofs.Ytneclhkpgalnlaa
namespace Go.Proofs.Ytneclhkpgalnlaa
open Go.ChangeShapes Go.WideShapes Go.ChangeAt Go.RowKit Sm Go.Conc
set_option linter.unusedVariables false
structure L2F (H : Nat) (v : World) (n0 : Nat) (z0 : List Int) (n1 : Nat) (z1 : List Int) (k : Int) (vw vg : Value) (g5 g6 : Nat) : Prop where
  hH : H ≤ v.heap.size
  ow : v.ownsRow H 2 1 vw (shareR z0 z1 k).length (ints (shareR z0 z1 k))
  og : v.ownsRow H 2 1 vg (shareR z0 z1 k).length (ints (up 1 (shareR z0 z1 k).length))
  o5 : v.ownsRow H 2 1 (.slice (some ⟨g5, 0, none⟩) n0 n0) n0 (ints z0)
  o6 : v.ownsRow H 2 1 (.slice (some ⟨g6, 0, none⟩) n1 n1) n1 (ints z1)
  a5w : Ap vw (.slice (some ⟨g5, 0, none⟩) n0 n0)
  a6w : Ap vw (.slice (some ⟨g6, 0, none⟩) n1 n1)
  a5g : Ap vg (.slice (some ⟨g5, 0, none⟩) n0 n0)
  a6g : Ap vg (.slice (some ⟨g6, 0, none⟩) n1 n1)
  hne : g5 ≠ g6
def L2K (H : Nat) (W : World) (n0 : Nat) (z0 : List Int) (n1 : Nat) (z1 : List Int) (k : Int) (a : Act) (w' : World) : Prop :=
  ∃ (Aw Ag : Option Addr) (cw cg g5 g6 : Nat) (x : Nat → Value), L2F H w' n0 z0 n1 z1 k (.slice Aw (shareR z0 z1 k).length cw) (.slice Ag (shareR z0 z1 k).length cg) g5 g6 ∧ Below H W w' ∧ a = ⟨#[x 0, x 1, x 2, x 3, x 4, x 5, x 6, .slice Aw (shareR z0 z1 k).length cw, .bool (shareOk z0 z1 k), x 9, x 10, .slice Ag (shareR z0 z1 k).length cg, .bool (shareOk z0 z1 k), x 13, .int .i64 (1 + ((shareR z0 z1 k).length : Nat)), x 15, x 16, x 17, x 18, x 19, x 20, x 21, x 22, x 23, x 24, x 25, x 26, x 27, x 28, x 29, x 30, x 31, x 32, x 33, x 34, x 35, x 36, x 37, x 38, x 39, x 40, x 41, x 42, x 43, x 44, x 45, x 46, x 47, x 48, x 49, x 50, x 51, x 52, x 53, x 54, x 55, x 56, x 57, x 58, x 59, x 60, x 61, x 62, x 63, x 64, x 65, x 66, x 67, x 68, x 69, x 70, x 71, x 72, x 73, x 74, x 75, x 76, x 77, x 78, x 79, x 80, x 81, x 82, x 83, x 84, x 85, x 86, x 87, x 88, x 89, x 90, x 91, x 92, x 93, x 94, .slice (some ⟨g5, 0, none⟩) n0 n0, x 96, .slice (some ⟨g6, 0, none⟩) n1 n1, .int .i64 k, x 99, x 100, x 101, x 102, x 103, x 104, x 105, x 106, x 107, x 108, x 109, x 110, x 111, x 112, x 113, x 114, x 115, x 116, x 117, x 118], []⟩
def Gets20 (H : Nat) (W : World) (A0 : Option Addr) (n0 c0 : Nat) (z0 : List Int) (A1 : Option Addr) (n1 c1 : Nat) (z1 : List Int) (k : Int) (Aw Ag : Option Addr) (cw cg : Nat) (a : Act) (u : World) : Prop :=
  ∃ x : Nat → Value, u.ownsRow H 2 1 (.slice Aw (shareR z0 z1 k).length cw) (shareR z0 z1 k).length (ints (shareR z0 z1 k)) ∧ u.ownsRow H 2 1 (.slice Ag (shareR z0 z1 k).length cg) (shareR z0 z1 k).length (ints (up 1 (shareR z0 z1 k).length)) ∧ Below H W u ∧ a = ⟨#[.slice A0 n0 c0, .slice A1 n1 c1, .int .i64 k, x 3, x 4, x 5, x 6, .slice Aw (shareR z0 z1 k).length cw, .bool (shareOk z0 z1 k), x 9, x 10, .slice Ag (shareR z0 z1 k).length cg, .bool (shareOk z0 z1 k), x 13, .int .i64 (1 + ((shareR z0 z1 k).length : Nat)), x 15, x 16, x 17, x 18, x 19, x 20, x 21, x 22, x 23, x 24, x 25, x 26, x 27, x 28, x 29, x 30, x 31, x 32, x 33, x 34, x 35, x 36, x 37, x 38, x 39, x 40, x 41, x 42, x 43, x 44, x 45, x 46, x 47, x 48, x 49, x 50, x 51, x 52, x 53, x 54, x 55, x 56, x 57, x 58, x 59, x 60, x 61, x 62, x 63, x 64, x 65, x 66, x 67, x 68, x 69, x 70, x 71, x 72, x 73, x 74, x 75, x 76, x 77, x 78, x 79, x 80, x 81, x 82, x 83, x 84, x 85, x 86, x 87, x 88, x 89, x 90, x 91, x 92, x 93, x 94, x 95, x 96, x 97, x 98, x 99, x 100, x 101, x 102, x 103, x 104, x 105, x 106, x 107, x 108, x 109, x 110, x 111, x 112, x 113, x 114, x 115, x 116, x 117, x 118], []⟩
theorem gets20 {H : Nat} {W u : World} {A0 : Option Addr} {n0 c0 : Nat} {z0 : List Int} {A1 : Option Addr} {n1 c1 : Nat} {z1 : List Int} {k : Int} {Aw Ag : Option Addr} {cw cg : Nat} {t : Array Value} (h1 : u.ownsRow H 2 1 (.slice Aw (shareR z0 z1 k).length cw) (shareR z0 z1 k).length (ints (shareR z0 z1 k))) (h2 : u.ownsRow H 2 1 (.slice Ag (shareR z0 z1 k).length cg) (shareR z0 z1 k).length (ints (up 1 (shareR z0 z1 k).length))) (h3 : Below H W u) (h : t = #[.slice A0 n0 c0, .slice A1 n1 c1, .int .i64 k, t.getD 3 undef, t.getD 4 undef, t.getD 5 undef, t.getD 6 undef, .slice Aw (shareR z0 z1 k).length cw, .bool (shareOk z0 z1 k), t.getD 9 undef, t.getD 10 undef, .slice Ag (shareR z0 z1 k).length cg, .bool (shareOk z0 z1 k), t.getD 13 undef, .int .i64 (1 + ((shareR z0 z1 k).length : Nat)), t.getD 15 undef, t.getD 16 undef, t.getD 17 undef, t.getD 18 undef, t.getD 19 undef, t.getD 20 undef, t.getD 21 undef, t.getD 22 undef, t.getD 23 undef, t.getD 24 undef, t.getD 25 undef, t.getD 26 undef, t.getD 27 undef, t.getD 28 undef, t.getD 29 undef, t.getD 30 undef, t.getD 31 undef, t.getD 32 undef, t.getD 33 undef, t.getD 34 undef, t.getD 35 undef, t.getD 36 undef, t.getD 37 undef, t.getD 38 undef, t.getD 39 undef, t.getD 40 undef, t.getD 41 undef, t.getD 42 undef, t.getD 43 undef, t.getD 44 undef, t.getD 45 undef, t.getD 46 undef, t.getD 47 undef, t.getD 48 undef, t.getD 49 undef, t.getD 50 undef, t.getD 51 undef, t.getD 52 undef, t.getD 53 undef, t.getD 54 undef, t.getD 55 undef, t.getD 56 undef, t.getD 57 undef, t.getD 58 undef, t.getD 59 undef, t.getD 60 undef, t.getD 61 undef, t.getD 62 undef, t.getD 63 undef, t.getD 64 undef, t.getD 65 undef, t.getD 66 undef, t.getD 67 undef, t.getD 68 undef, t.getD 69 undef, t.getD 70 undef, t.getD 71 undef, t.getD 72 undef, t.getD 73 undef, t.getD 74 undef, t.getD 75 undef, t.getD 76 undef, t.getD 77 undef, t.getD 78 undef, t.getD 79 undef, t.getD 80 undef, t.getD 81 undef, t.getD 82 undef, t.getD 83 undef, t.getD 84 undef, t.getD 85 undef, t.getD 86 undef, t.getD 87 undef, t.getD 88 undef, t.getD 89 undef, t.getD 90 undef, t.getD 91 undef, t.getD 92 undef, t.getD 93 undef, t.getD 94 undef, t.getD 95 undef, t.getD 96 undef, t.getD 97 undef, t.getD 98 undef, t.getD 99 undef, t.getD 100 undef, t.getD 101 undef, t.getD 102 undef, t.getD 103 undef, t.getD 104 undef, t.getD 105 undef, t.getD 106 undef, t.getD 107 undef, t.getD 108 undef, t.getD 109 undef, t.getD 110 undef, t.getD 111 undef, t.getD 112 undef, t.getD 113 undef, t.getD 114 undef, t.getD 115 undef, t.getD 116 undef, t.getD 117 undef, t.getD 118 undef]) : Gets20 H W A0 n0 c0 z0 A1 n1 c1 z1 k Aw Ag cw cg ⟨t, []⟩ u :=
  ⟨fun i => t.getD i undef, h1, h2, h3, congrArg (fun x => (⟨x, []⟩ : Act)) h⟩
theorem l2k {H : Nat} {W w' : World} {n0 : Nat} {z0 : List Int} {n1 : Nat} {z1 : List Int} {k : Int} {Aw Ag : Option Addr} {cw cg g5 g6 : Nat} {t : Array Value} (h1 : L2F H w' n0 z0 n1 z1 k (.slice Aw (shareR z0 z1 k).length cw) (.slice Ag (shareR z0 z1 k).length cg) g5 g6) (h2 : Below H W w') (h : t = #[t.getD 0 undef, t.getD 1 undef, t.getD 2 undef, t.getD 3 undef, t.getD 4 undef, t.getD 5 undef, t.getD 6 undef, .slice Aw (shareR z0 z1 k).length cw, .bool (shareOk z0 z1 k), t.getD 9 undef, t.getD 10 undef, .slice Ag (shareR z0 z1 k).length cg, .bool (shareOk z0 z1 k), t.getD 13 undef, .int .i64 (1 + ((shareR z0 z1 k).length : Nat)), t.getD 15 undef, t.getD 16 undef, t.getD 17 undef, t.getD 18 undef, t.getD 19 undef, t.getD 20 undef, t.getD 21 undef, t.getD 22 undef, t.getD 23 undef, t.getD 24 undef, t.getD 25 undef, t.getD 26 undef, t.getD 27 undef, t.getD 28 undef, t.getD 29 undef, t.getD 30 undef, t.getD 31 undef, t.getD 32 undef, t.getD 33 undef, t.getD 34 undef, t.getD 35 undef, t.getD 36 undef, t.getD 37 undef, t.getD 38 undef, t.getD 39 undef, t.getD 40 undef, t.getD 41 undef, t.getD 42 undef, t.getD 43 undef, t.getD 44 undef, t.getD 45 undef, t.getD 46 undef, t.getD 47 undef, t.getD 48 undef, t.getD 49 undef, t.getD 50 undef, t.getD 51 undef, t.getD 52 undef, t.getD 53 undef, t.getD 54 undef, t.getD 55 undef, t.getD 56 undef, t.getD 57 undef, t.getD 58 undef, t.getD 59 undef, t.getD 60 undef, t.getD 61 undef, t.getD 62 undef, t.getD 63 undef, t.getD 64 undef, t.getD 65 undef, t.getD 66 undef, t.getD 67 undef, t.getD 68 undef, t.getD 69 undef, t.getD 70 undef, t.getD 71 undef, t.getD 72 undef, t.getD 73 undef, t.getD 74 undef, t.getD 75 undef, t.getD 76 undef, t.getD 77 undef, t.getD 78 undef, t.getD 79 undef, t.getD 80 undef, t.getD 81 undef, t.getD 82 undef, t.getD 83 undef, t.getD 84 undef, t.getD 85 undef, t.getD 86 undef, t.getD 87 undef, t.getD 88 undef, t.getD 89 undef, t.getD 90 undef, t.getD 91 undef, t.getD 92 undef, t.getD 93 undef, t.getD 94 undef, .slice (some ⟨g5, 0, none⟩) n0 n0, t.getD 96 undef, .slice (some ⟨g6, 0, none⟩) n1 n1, .int .i64 k, t.getD 99 undef, t.getD 100 undef, t.getD 101 undef, t.getD 102 undef, t.getD 103 undef, t.getD 104 undef, t.getD 105 undef, t.getD 106 undef, t.getD 107 undef, t.getD 108 undef, t.getD 109 undef, t.getD 110 undef, t.getD 111 undef, t.getD 112 undef, t.getD 113 undef, t.getD 114 undef, t.getD 115 undef, t.getD 116 undef, t.getD 117 undef, t.getD 118 undef]) : L2K H W n0 z0 n1 z1 k ⟨t, []⟩ w' :=
  ⟨Aw, Ag, cw, cg, g5, g6, fun i => t.getD i undef, h1, h2, congrArg (fun x => (⟨x, []⟩ : Act)) h⟩
set_option maxRecDepth 100000 in
set_option maxHeartbeats 6400000 in
theorem l1_mid {H : Nat} (A0 : Option Addr) (n0 c0 : Nat) (z0 : List Int) (A1 : Option Addr) (n1 c1 : Nat) (z1 : List Int) (k : Int) (W : World) (vw vg : Value) (gA gR : Nat) (x : Nat → Value) (m0 : n0 ≤ 1048576) (m1 : n1 ≤ 1048576) (bk : -9223372036854775808 ≤ k ∧ k ≤ 9223372036854775807)
    (hF : L1F H W A0 n0 z0 A1 n1 z1 k vw gA gR) (og : W.ownsRow H 2 1 vg (shareR z0 z1 k).length (ints (shareR z0 z1 k))) (agw : Ap vw vg) (ag2 : Ap (.slice (some ⟨gA, 0, none⟩) n0 n0) vg) (ag3 : Ap (.slice (some ⟨gR, 0, none⟩) n1 n1) vg) (cs : List Frame) :
    ∃ a w', L2K H W n0 z0 n1 z1 k a w' ∧ Steps Try.prog (lone (lB.at ⟨#[.slice A0 n0 c0, .slice A1 n1 c1, .int .i64 k, x 3, x 4, x 5, x 6, vw, .bool (shareOk z0 z1 k), .slice (some ⟨gA, 0, none⟩) n0 n0, .slice (some ⟨gR, 0, none⟩) n1 n1, x 11, x 12, x 13, x 14, x 15, x 16, x 17, x 18, x 19, x 20, x 21, x 22, x 23, x 24, x 25, x 26, x 27, x 28, x 29, x 30, x 31, x 32, x 33, x 34, x 35, x 36, x 37, .slice (some ⟨gA, 0, none⟩) n0 n0, .slice (some ⟨gR, 0, none⟩) n1 n1, .int .i64 k, .tuple #[vg, .bool (shareOk z0 z1 k)], x 42, x 43, x 44, x 45, x 46, x 47, x 48, x 49, x 50, x 51, x 52, x 53, x 54, x 55, x 56, x 57, x 58, x 59, x 60, x 61, x 62, x 63, x 64, x 65, x 66, x 67, x 68, x 69, x 70, x 71, x 72, x 73, x 74, x 75, x 76, x 77, x 78, x 79, x 80, x 81, x 82, x 83, x 84, x 85, x 86, x 87, x 88, x 89, x 90, x 91, x 92, x 93, x 94, x 95, x 96, x 97, x 98, x 99, x 100, x 101, x 102, x 103, x 104, x 105, x 106, x 107, x 108, x 109, x 110, x 111, x 112, x 113, x 114, x 115, x 116, x 117, x 118], []⟩ (.inRegion (opsOf lP6) [4, 5, 6, 7, 8] :: [.code lC7])) cs W) (lone (lB.at a (.inRegion (opsOf lP20) [5, 6, 7, 8, 9, 10] :: [.code lC21])) cs w') := by
  obtain ⟨hH, r0, r1, ow, o2, o3, a2w, a3w, a23, hne⟩ := hF
  obtain ⟨Aw, cw, rfl, _⟩ := own_form ow
  obtain ⟨Ag, cg, rfl, _⟩ := own_form og
  have hL := share_len z0 z1 k
  have hB : Below H W W := Below.refl _ _
  obtain ⟨a1, w1, ⟨rfl, rfl⟩, hs1⟩ := ops_more (P := Try.prog) (ops := opsOf lP6) (ops2 := opsOf lP6) (K := fun a u => a = ⟨#[.slice A0 n0 c0, .slice A1 n1 c1, .int .i64 k, x 3, x 4, x 5, x 6, .slice Aw (shareR z0 z1 k).length cw, .bool (shareOk z0 z1 k), .slice (some ⟨gA, 0, none⟩) n0 n0, .slice (some ⟨gR, 0, none⟩) n1 n1, .slice Ag (shareR z0 z1 k).length cg, .bool (shareOk z0 z1 k), x 13, x 14, x 15, x 16, x 17, x 18, x 19, x 20, x 21, x 22, x 23, x 24, x 25, x 26, x 27, x 28, x 29, x 30, x 31, x 32, x 33, x 34, x 35, x 36, .tuple #[.slice Ag (shareR z0 z1 k).length cg, .bool (shareOk z0 z1 k)], .slice (some ⟨gA, 0, none⟩) n0 n0, .slice (some ⟨gR, 0, none⟩) n1 n1, .int .i64 k, .tuple #[.slice Ag (shareR z0 z1 k).length cg, .bool (shareOk z0 z1 k)], .slice Ag (shareR z0 z1 k).length cg, .bool (shareOk z0 z1 k), x 44, x 45, x 46, x 47, x 48, x 49, x 50, x 51, x 52, x 53, x 54, x 55, x 56, x 57, x 58, x 59, x 60, x 61, x 62, x 63, x 64, x 65, x 66, x 67, x 68, x 69, x 70, x 71, x 72, x 73, x 74, x 75, x 76, x 77, x 78, x 79, x 80, x 81, x 82, x 83, x 84, x 85, x 86, x 87, x 88, x 89, x 90, x 91, x 92, x 93, x 94, x 95, x 96, x 97, x 98, x 99, x 100, x 101, x 102, x 103, x 104, x 105, x 106, x 107, x 108, x 109, x 110, x 111, x 112, x 113, x 114, x 115, x 116, x 117, x 118], []⟩ ∧ u = W) (fun _ => rfl) [4, 5, 6, 7, 8] ⟨#[.slice A0 n0 c0, .slice A1 n1 c1, .int .i64 k, x 3, x 4, x 5, x 6, .slice Aw (shareR z0 z1 k).length cw, .bool (shareOk z0 z1 k), .slice (some ⟨gA, 0, none⟩) n0 n0, .slice (some ⟨gR, 0, none⟩) n1 n1, x 11, x 12, x 13, x 14, x 15, x 16, x 17, x 18, x 19, x 20, x 21, x 22, x 23, x 24, x 25, x 26, x 27, x 28, x 29, x 30, x 31, x 32, x 33, x 34, x 35, x 36, x 37, .slice (some ⟨gA, 0, none⟩) n0 n0, .slice (some ⟨gR, 0, none⟩) n1 n1, .int .i64 k, .tuple #[.slice Ag (shareR z0 z1 k).length cg, .bool (shareOk z0 z1 k)], x 42, x 43, x 44, x 45, x 46, x 47, x 48, x 49, x 50, x 51, x 52, x 53, x 54, x 55, x 56, x 57, x 58, x 59, x 60, x 61, x 62, x 63, x 64, x 65, x 66, x 67, x 68, x 69, x 70, x 71, x 72, x 73, x 74, x 75, x 76, x 77, x 78, x 79, x 80, x 81, x 82, x 83, x 84, x 85, x 86, x 87, x 88, x 89, x 90, x 91, x 92, x 93, x 94, x 95, x 96, x 97, x 98, x 99, x 100, x 101, x 102, x 103, x 104, x 105, x 106, x 107, x 108, x 109, x 110, x 111, x 112, x 113, x 114, x 115, x 116, x 117, x 118], []⟩ W (fun _ _ => rfl) (by
    unfold lP6 lC6 lC5 lC4 lC3 lC2 lC1 lC0 Try.f3
    dsimp only [sq1, sq2, opsOf]
    go_wp2_with fail
    refine Or.inl ?_
    go_simp
    refine Or.inl ?_
    go_simp
    refine Or.inl ?_
    go_simp
    refine Or.inl ?_
    go_simp
    refine Or.inl ?_
    go_simp
    exact ⟨rfl, rfl, rfl⟩) lB [] [.code lC7] cs
  have key : Gets Try.prog lC7 lC20 lB [] cs (Gets20 H w1 A0 n0 c0 z0 A1 n1 c1 z1 k Aw Ag cw cg) ⟨#[.slice A0 n0 c0, .slice A1 n1 c1, .int .i64 k, x 3, x 4, x 5, x 6, .slice Aw (shareR z0 z1 k).length cw, .bool (shareOk z0 z1 k), .slice (some ⟨gA, 0, none⟩) n0 n0, .slice (some ⟨gR, 0, none⟩) n1 n1, .slice Ag (shareR z0 z1 k).length cg, .bool (shareOk z0 z1 k), x 13, x 14, x 15, x 16, x 17, x 18, x 19, x 20, x 21, x 22, x 23, x 24, x 25, x 26, x 27, x 28, x 29, x 30, x 31, x 32, x 33, x 34, x 35, x 36, .tuple #[.slice Ag (shareR z0 z1 k).length cg, .bool (shareOk z0 z1 k)], .slice (some ⟨gA, 0, none⟩) n0 n0, .slice (some ⟨gR, 0, none⟩) n1 n1, .int .i64 k, .tuple #[.slice Ag (shareR z0 z1 k).length cg, .bool (shareOk z0 z1 k)], .slice Ag (shareR z0 z1 k).length cg, .bool (shareOk z0 z1 k), x 44, x 45, x 46, x 47, x 48, x 49, x 50, x 51, x 52, x 53, x 54, x 55, x 56, x 57, x 58, x 59, x 60, x 61, x 62, x 63, x 64, x 65, x 66, x 67, x 68, x 69, x 70, x 71, x 72, x 73, x 74, x 75, x 76, x 77, x 78, x 79, x 80, x 81, x 82, x 83, x 84, x 85, x 86, x 87, x 88, x 89, x 90, x 91, x 92, x 93, x 94, x 95, x 96, x 97, x 98, x 99, x 100, x 101, x 102, x 103, x 104, x 105, x 106, x 107, x 108, x 109, x 110, x 111, x 112, x 113, x 114, x 115, x 116, x 117, x 118], []⟩ w1 := by
    refine Gets.step lc7 ?_
    unfold lP7 lC7 lC6 lC5 lC4 lC3 lC2 lC1 lC0 Try.f3
    dsimp only [sq1, sq2]
    go_wp2_with fail
    refine (eqInt64S_yes _ _ _ _ _ _ _ (Rd.of_own og) (Rd.of_own ow) (by omega)).mono ?_
    rintro e w2 ⟨rfl, hb⟩
    replace ow := own_on ow hb
    replace og := own_on og hb
    replace o2 := own_on o2 hb
    replace o3 := own_on o3 hb
    replace hB := bH_step hH hB hb
    clear hb
    go_wp2_with fail
    refine ⟨rfl, ?_⟩
    refine Gets.step lc8 ?_
    unfold lP8 lC8 lC7 lC6 lC5 lC4 lC3 lC2 lC1 lC0 Try.f3
    dsimp only [sq1, sq2]
    go_wp2_with fail
    refine (toInt64S_any _ _ _ z0 _ ((r0.below hB).more (bH_size hH hB)) m0).mono ?_
    rintro e w3 ⟨g3, rfl, o3c, hb⟩
    replace o3c := own_base o3c (bH_size hH hB)
    replace ow := own_on ow hb
    replace og := own_on og hb
    replace o2 := own_on o2 hb
    replace o3 := own_on o3 hb
    replace hB := bH_step hH hB hb
    clear hb
    go_wp2_with fail
    refine (eqInt64S_yes _ _ _ _ _ _ _ (Rd.of_own o2) (Rd.of_own o3c) (by omega)).mono ?_
    rintro e w4 ⟨rfl, hb⟩
    replace ow := own_on ow hb
    replace og := own_on og hb
    replace o2 := own_on o2 hb
    replace o3 := own_on o3 hb
    replace hB := bH_step hH hB hb
    clear hb
    clear o3c
    go_wp2_with fail
    refine ⟨rfl, ?_⟩
    refine Gets.step lc9 ?_
    unfold lP9 lC9 lC8 lC7 lC6 lC5 lC4 lC3 lC2 lC1 lC0 Try.f3
    dsimp only [sq1, sq2]
    go_wp2_with fail
    refine (toInt64S_any _ _ _ z1 _ ((r1.below hB).more (bH_size hH hB)) m1).mono ?_
    rintro e w5 ⟨g4, rfl, o4c, hb⟩
    replace o4c := own_base o4c (bH_size hH hB)
    replace ow := own_on ow hb
    replace og := own_on og hb
    replace o2 := own_on o2 hb
    replace o3 := own_on o3 hb
    replace hB := bH_step hH hB hb
    clear hb
    go_wp2_with fail
    refine (eqInt64S_yes _ _ _ _ _ _ _ (Rd.of_own o3) (Rd.of_own o4c) (by omega)).mono ?_
    rintro e w6 ⟨rfl, hb⟩
    replace ow := own_on ow hb
    replace og := own_on og hb
    replace o2 := own_on o2 hb
    replace o3 := own_on o3 hb
    replace hB := bH_step hH hB hb
    clear hb
    clear o4c
    go_wp2_with fail
    refine ⟨rfl, ?_⟩
    refine Gets.step lc10 ?_
    unfold lP10 lC10 lC9 lC8 lC7 lC6 lC5 lC4 lC3 lC2 lC1 lC0 Try.f3
    dsimp only [sq1, sq2]
    go_wp2_with fail
    refine ⟨rfl, ?_⟩
    refine Gets.step lc11 ?_
    unfold lP11 lC11 lC10 lC9 lC8 lC7 lC6 lC5 lC4 lC3 lC2 lC1 lC0 Try.f3
    dsimp only [sq1, sq2]
    go_wp2_with fail
    refine (markInt64S_any _ _ _ _ _ _ o2 (by omega) (by omega) (by omega)).mono ?_
    rintro e w7 ⟨rfl, pp, hg⟩
    replace ow := World.ownsRow.kept ow hg a2w.2
    replace o3 := World.ownsRow.kept o3 hg a23.1
    replace og := World.ownsRow.kept og hg ag2.1
    replace hB := bH_grown hH hB hg (fun k hk => (pp.lt k hk).1)
    clear hg o2
    have o2 := pp
    clear pp
    go_wp2_with fail
    refine ⟨rfl, ?_⟩
    refine Gets.step lc12 ?_
    unfold lP12 lC12 lC11 lC10 lC9 lC8 lC7 lC6 lC5 lC4 lC3 lC2 lC1 lC0 Try.f3
    dsimp only [sq1, sq2]
    go_wp2_with fail
    refine (markInt64S_any _ _ _ _ _ _ o3 (by omega) (by omega) (by omega)).mono ?_
    rintro e w8 ⟨rfl, pp, hg⟩
    replace ow := World.ownsRow.kept ow hg a3w.2
    replace o2 := World.ownsRow.kept o2 hg a23.2
    replace og := World.ownsRow.kept og hg ag3.1
    replace hB := bH_grown hH hB hg (fun k hk => (pp.lt k hk).1)
    clear hg o3
    have o3 := pp
    clear pp
    go_wp2_with fail
    refine ⟨rfl, ?_⟩
    clear o2 o3
    refine Gets.step lc13 ?_
    unfold lP13 lC13 lC12 lC11 lC10 lC9 lC8 lC7 lC6 lC5 lC4 lC3 lC2 lC1 lC0 Try.f3
    dsimp only [sq1, sq2]
    go_wp2_with fail
    refine (eqInt64S_yes _ _ _ _ _ _ _ (Rd.of_own og) (Rd.of_own ow) (by omega)).mono ?_
    rintro e w9 ⟨rfl, hb⟩
    replace ow := own_on ow hb
    replace og := own_on og hb
    replace hB := bH_step hH hB hb
    clear hb
    go_wp2_with fail
    refine ⟨rfl, ?_⟩
    refine Gets.step lc14 ?_
    unfold lP14 lC14 lC13 lC12 lC11 lC10 lC9 lC8 lC7 lC6 lC5 lC4 lC3 lC2 lC1 lC0 Try.f3
    dsimp only [sq1, sq2]
    go_wp2_with fail
    refine ⟨rfl, ?_⟩
    refine Gets.step lc15 ?_
    unfold lP15 lC15 lC14 lC13 lC12 lC11 lC10 lC9 lC8 lC7 lC6 lC5 lC4 lC3 lC2 lC1 lC0 Try.f3
    dsimp only [sq1, sq2]
    go_wp2_with fail
    refine (markInt64S_any _ _ _ _ _ _ og (by omega) (by omega) (by omega)).mono ?_
    rintro e w10 ⟨rfl, pp, hg⟩
    replace ow := World.ownsRow.kept ow hg agw.2
    replace hB := bH_grown hH hB hg (fun k hk => (pp.lt k hk).1)
    clear hg og
    have og := pp
    clear pp
    go_wp2_with fail
    refine ⟨rfl, ?_⟩
    refine Gets.step lc16 ?_
    unfold lP16 lC16 lC15 lC14 lC13 lC12 lC11 lC10 lC9 lC8 lC7 lC6 lC5 lC4 lC3 lC2 lC1 lC0 Try.f3
    dsimp only [sq1, sq2]
    go_wp2_with fail
    refine ⟨rfl, ?_⟩
    refine Gets.step lc17 ?_
    unfold lP17 lC17 lC16 lC15 lC14 lC13 lC12 lC11 lC10 lC9 lC8 lC7 lC6 lC5 lC4 lC3 lC2 lC1 lC0 Try.f3
    dsimp only [sq1, sq2]
    go_wp2_with fail
    refine (heldInt64S_any _ _ _ _ _ (Rd.of_own og) (by omega) (by omega) (by omega)).mono ?_
    rintro e w11 ⟨rfl, rfl⟩
    go_wp2_with fail
    refine ⟨rfl, ?_⟩
    refine Gets.step lc18 ?_
    unfold lP18 lC18 lC17 lC16 lC15 lC14 lC13 lC12 lC11 lC10 lC9 lC8 lC7 lC6 lC5 lC4 lC3 lC2 lC1 lC0 Try.f3
    dsimp only [sq1, sq2]
    go_wp2_with fail
    refine ⟨rfl, ?_⟩
    refine Gets.step lc19 ?_
    unfold lP19 lC19 lC18 lC17 lC16 lC15 lC14 lC13 lC12 lC11 lC10 lC9 lC8 lC7 lC6 lC5 lC4 lC3 lC2 lC1 lC0 Try.f3
    dsimp only [sq1, sq2]
    go_wp2_with fail
    refine ⟨rfl, Gets.done ?_⟩
    exact gets20 ow og hB rfl
  obtain ⟨a2, u, ⟨y, ow2, og2, hB2, rfl⟩, hs2⟩ := key
  obtain ⟨a3, u3, hK, hs3⟩ := ops_more (P := Try.prog) (ops := opsOf lP20) (ops2 := opsOf lP20) (K := L2K H w1 n0 z0 n1 z1 k) (fun _ => rfl) [0, 1, 2, 3, 4] ⟨#[.slice A0 n0 c0, .slice A1 n1 c1, .int .i64 k, y 3, y 4, y 5, y 6, .slice Aw (shareR z0 z1 k).length cw, .bool (shareOk z0 z1 k), y 9, y 10, .slice Ag (shareR z0 z1 k).length cg, .bool (shareOk z0 z1 k), y 13, .int .i64 (1 + ((shareR z0 z1 k).length : Nat)), y 15, y 16, y 17, y 18, y 19, y 20, y 21, y 22, y 23, y 24, y 25, y 26, y 27, y 28, y 29, y 30, y 31, y 32, y 33, y 34, y 35, y 36, y 37, y 38, y 39, y 40, y 41, y 42, y 43, y 44, y 45, y 46, y 47, y 48, y 49, y 50, y 51, y 52, y 53, y 54, y 55, y 56, y 57, y 58, y 59, y 60, y 61, y 62, y 63, y 64, y 65, y 66, y 67, y 68, y 69, y 70, y 71, y 72, y 73, y 74, y 75, y 76, y 77, y 78, y 79, y 80, y 81, y 82, y 83, y 84, y 85, y 86, y 87, y 88, y 89, y 90, y 91, y 92, y 93, y 94, y 95, y 96, y 97, y 98, y 99, y 100, y 101, y 102, y 103, y 104, y 105, y 106, y 107, y 108, y 109, y 110, y 111, y 112, y 113, y 114, y 115, y 116, y 117, y 118], []⟩ u (fun _ _ => rfl) (by
    clear ow og hs1 hs2 o2 o3
    unfold lP20 lC20 lC19 lC18 lC17 lC16 lC15 lC14 lC13 lC12 lC11 lC10 lC9 lC8 lC7 lC6 lC5 lC4 lC3 lC2 lC1 lC0 Try.f3
    dsimp only [sq1, sq2, opsOf]
    go_wp2_with fail
    refine Or.inl ?_
    go_simp
    refine Or.inl ?_
    go_simp
    refine (toInt64S_any _ _ _ z0 _ ((r0.below hB2).more (bH_size hH hB2)) m0).mono ?_
    rintro e w12 ⟨g5, rfl, o5, hb⟩
    have ap5w := own_apart ow2 o5
    have ap5g := own_apart og2 o5
    replace o5 := own_base o5 (bH_size hH hB2)
    replace ow2 := own_on ow2 hb
    replace og2 := own_on og2 hb
    replace hB2 := bH_step hH hB2 hb
    clear hb
    go_wp2_with fail
    refine Or.inl ?_
    go_simp
    refine Or.inl ?_
    go_simp
    refine (toInt64S_any _ _ _ z1 _ ((r1.below hB2).more (bH_size hH hB2)) m1).mono ?_
    rintro e w13 ⟨g6, rfl, o6, hb⟩
    have ap6w := own_apart ow2 o6
    have ap6g := own_apart og2 o6
    have ap65 := own_apart o5 o6
    replace o6 := own_base o6 (bH_size hH hB2)
    replace o5 := own_on o5 hb
    replace ow2 := own_on ow2 hb
    replace og2 := own_on og2 hb
    replace hB2 := bH_step hH hB2 hb
    clear hb
    have hne' : g5 ≠ g6 := fun e => by
      rcases ap65.1 with h | h
      · cases h
      · exact h (by rw [e]; rfl)
    go_wp2_with fail
    refine Or.inl ?_
    go_simp
    exact ⟨rfl, l2k ⟨bH_size hH hB2, ow2, og2, o5, o6, ap5w, ap6w, ap5g, ap6g, hne'⟩ hB2 rfl⟩) lB [5, 6, 7, 8, 9, 10] [.code lC21] cs
  refine ⟨a3, u3, hK, Steps.trans hs1 (.head step_region_end (Steps.trans hs2 ?_))⟩
  rw [lc20]
  refine .head step_seq ?_
  rw [show lP20 = .region 28 (opsOf lP20) false from lp20]
  refine .head step_region ?_
  rw [show List.range (opsOf lP20).size = [0, 1, 2, 3, 4] ++ [5, 6, 7, 8, 9, 10] from by rw [lp20_size]; rfl]
  exact hs3
end Go.Proofs.Ytneclhkpgalnlaa
namespace Go.Proofs.Ytneclhkpgalnlaa
open Go.ChangeShapes Go.WideShapes Go.ChangeAt Go.RowKit Sm Go.Conc
set_option linter.unusedVariables false
def LEnd (fr : Frame) : Prop := ∃ t todo, fr = { lB.at ⟨t, []⟩ todo with mode := .returning } ∧ t.getD 6 undef = .bool true
theorem qend_of {fr : Frame} {v : World} (h : LEnd fr) : QEnd Try.prog 3 true fr [] v := by
  obtain ⟨t, todo, h1, h2⟩ := h
  exact ⟨rfl, t, todo, Try.f3, 6, h1, by kernel_rfl, by kernel_rfl, h2⟩
theorem early {P : Program} {c R R2 rest : Code} {s : Nat} {b : Frame} {k : List Item} {cs : List Frame} {K : Act → World → Prop} {a : Act} {w : World} (e : c = .seq (.seq R (.cond (.tmp s) (.seq R2 .ret) .skip)) rest) (h : R.wp P (QN fun a w => a.eval (.tmp s) = .bool true ∧ R2.wp P (QN K) a w) a w) :
    ∃ a' w', K a' w' ∧ Steps P (lone (b.at a (.code c :: k)) cs w) (lone { b.at a' (.code .ret :: .code rest :: k) with mode := .returning } cs w') := by
  subst e
  obtain ⟨a1, w1, ⟨ht, h2⟩, hs1⟩ := wp_steps h b (.code (.cond (.tmp s) (.seq R2 .ret) .skip) :: .code rest :: k) cs
  obtain ⟨a2, w2, hK, hs2⟩ := wp_steps h2 b (.code .ret :: .code rest :: k) cs
  exact ⟨a2, w2, hK, .head step_seq (.head step_seq (Steps.trans hs1 (.head (step_cond ht) (.head step_seq (Steps.trans hs2 (.one step_ret))))))⟩
def cthen : Code → Code | .seq _ (.cond _ a _) => a | _ => .skip
theorem lend_any {t : Array Value} (h : t = #[t.getD 0 undef, t.getD 1 undef, t.getD 2 undef, t.getD 3 undef, t.getD 4 undef, t.getD 5 undef, t.getD 6 undef, t.getD 7 undef, t.getD 8 undef, t.getD 9 undef, t.getD 10 undef, t.getD 11 undef, t.getD 12 undef, t.getD 13 undef, t.getD 14 undef, t.getD 15 undef, t.getD 16 undef, t.getD 17 undef, t.getD 18 undef, t.getD 19 undef, t.getD 20 undef, t.getD 21 undef, t.getD 22 undef, t.getD 23 undef, t.getD 24 undef, t.getD 25 undef, t.getD 26 undef, t.getD 27 undef, t.getD 28 undef, t.getD 29 undef, t.getD 30 undef, t.getD 31 undef, t.getD 32 undef, t.getD 33 undef, t.getD 34 undef, t.getD 35 undef, t.getD 36 undef, t.getD 37 undef, t.getD 38 undef, t.getD 39 undef, t.getD 40 undef, t.getD 41 undef, t.getD 42 undef, t.getD 43 undef, t.getD 44 undef, t.getD 45 undef, t.getD 46 undef, t.getD 47 undef, t.getD 48 undef, t.getD 49 undef, t.getD 50 undef, t.getD 51 undef, t.getD 52 undef, t.getD 53 undef, t.getD 54 undef, t.getD 55 undef, t.getD 56 undef, t.getD 57 undef, t.getD 58 undef, t.getD 59 undef, t.getD 60 undef, t.getD 61 undef, t.getD 62 undef, t.getD 63 undef, t.getD 64 undef, t.getD 65 undef, t.getD 66 undef, t.getD 67 undef, t.getD 68 undef, t.getD 69 undef, t.getD 70 undef, t.getD 71 undef, t.getD 72 undef, t.getD 73 undef, t.getD 74 undef, t.getD 75 undef, t.getD 76 undef, t.getD 77 undef, t.getD 78 undef, t.getD 79 undef, t.getD 80 undef, t.getD 81 undef, t.getD 82 undef, t.getD 83 undef, t.getD 84 undef, t.getD 85 undef, t.getD 86 undef, t.getD 87 undef, t.getD 88 undef, t.getD 89 undef, t.getD 90 undef, t.getD 91 undef, t.getD 92 undef, t.getD 93 undef, t.getD 94 undef, t.getD 95 undef, t.getD 96 undef, t.getD 97 undef, t.getD 98 undef, t.getD 99 undef, t.getD 100 undef, t.getD 101 undef, t.getD 102 undef, t.getD 103 undef, t.getD 104 undef, t.getD 105 undef, t.getD 106 undef, t.getD 107 undef, t.getD 108 undef, t.getD 109 undef, t.getD 110 undef, t.getD 111 undef, t.getD 112 undef, t.getD 113 undef, t.getD 114 undef, t.getD 115 undef, t.getD 116 undef, t.getD 117 undef, t.getD 118 undef]) : ∃ x : Nat → Value, (⟨t, []⟩ : Act) = ⟨#[x 0, x 1, x 2, x 3, x 4, x 5, x 6, x 7, x 8, x 9, x 10, x 11, x 12, x 13, x 14, x 15, x 16, x 17, x 18, x 19, x 20, x 21, x 22, x 23, x 24, x 25, x 26, x 27, x 28, x 29, x 30, x 31, x 32, x 33, x 34, x 35, x 36, x 37, x 38, x 39, x 40, x 41, x 42, x 43, x 44, x 45, x 46, x 47, x 48, x 49, x 50, x 51, x 52, x 53, x 54, x 55, x 56, x 57, x 58, x 59, x 60, x 61, x 62, x 63, x 64, x 65, x 66, x 67, x 68, x 69, x 70, x 71, x 72, x 73, x 74, x 75, x 76, x 77, x 78, x 79, x 80, x 81, x 82, x 83, x 84, x 85, x 86, x 87, x 88, x 89, x 90, x 91, x 92, x 93, x 94, x 95, x 96, x 97, x 98, x 99, x 100, x 101, x 102, x 103, x 104, x 105, x 106, x 107, x 108, x 109, x 110, x 111, x 112, x 113, x 114, x 115, x 116, x 117, x 118], []⟩ := ⟨fun i => t.getD i undef, congrArg (fun x => (⟨x, []⟩ : Act)) h⟩
theorem lend_ints {t : Array Value} {A0 A1 : Option Addr} {n0 c0 n1 c1 : Nat} {k : Int} (h : t = #[.slice A0 n0 c0, .slice A1 n1 c1, .int .i64 k, t.getD 3 undef, t.getD 4 undef, t.getD 5 undef, t.getD 6 undef, t.getD 7 undef, t.getD 8 undef, t.getD 9 undef, t.getD 10 undef, t.getD 11 undef, t.getD 12 undef, t.getD 13 undef, t.getD 14 undef, t.getD 15 undef, t.getD 16 undef, t.getD 17 undef, t.getD 18 undef, t.getD 19 undef, t.getD 20 undef, t.getD 21 undef, t.getD 22 undef, t.getD 23 undef, t.getD 24 undef, t.getD 25 undef, t.getD 26 undef, t.getD 27 undef, t.getD 28 undef, t.getD 29 undef, t.getD 30 undef, t.getD 31 undef, t.getD 32 undef, t.getD 33 undef, t.getD 34 undef, t.getD 35 undef, t.getD 36 undef, t.getD 37 undef, t.getD 38 undef, t.getD 39 undef, t.getD 40 undef, t.getD 41 undef, t.getD 42 undef, t.getD 43 undef, t.getD 44 undef, t.getD 45 undef, t.getD 46 undef, t.getD 47 undef, t.getD 48 undef, t.getD 49 undef, t.getD 50 undef, t.getD 51 undef, t.getD 52 undef, t.getD 53 undef, t.getD 54 undef, t.getD 55 undef, t.getD 56 undef, t.getD 57 undef, t.getD 58 undef, t.getD 59 undef, t.getD 60 undef, t.getD 61 undef, t.getD 62 undef, t.getD 63 undef, t.getD 64 undef, t.getD 65 undef, t.getD 66 undef, t.getD 67 undef, t.getD 68 undef, t.getD 69 undef, t.getD 70 undef, t.getD 71 undef, t.getD 72 undef, t.getD 73 undef, t.getD 74 undef, t.getD 75 undef, t.getD 76 undef, t.getD 77 undef, t.getD 78 undef, t.getD 79 undef, t.getD 80 undef, t.getD 81 undef, t.getD 82 undef, t.getD 83 undef, t.getD 84 undef, t.getD 85 undef, t.getD 86 undef, t.getD 87 undef, t.getD 88 undef, t.getD 89 undef, t.getD 90 undef, t.getD 91 undef, t.getD 92 undef, t.getD 93 undef, t.getD 94 undef, t.getD 95 undef, t.getD 96 undef, t.getD 97 undef, t.getD 98 undef, t.getD 99 undef, t.getD 100 undef, t.getD 101 undef, t.getD 102 undef, t.getD 103 undef, t.getD 104 undef, t.getD 105 undef, t.getD 106 undef, t.getD 107 undef, t.getD 108 undef, t.getD 109 undef, t.getD 110 undef, t.getD 111 undef, t.getD 112 undef, t.getD 113 undef, t.getD 114 undef, t.getD 115 undef, t.getD 116 undef, t.getD 117 undef, t.getD 118 undef]) : ∃ x : Nat → Value, (⟨t, []⟩ : Act) = ⟨#[.slice A0 n0 c0, .slice A1 n1 c1, .int .i64 k, x 3, x 4, x 5, x 6, x 7, x 8, x 9, x 10, x 11, x 12, x 13, x 14, x 15, x 16, x 17, x 18, x 19, x 20, x 21, x 22, x 23, x 24, x 25, x 26, x 27, x 28, x 29, x 30, x 31, x 32, x 33, x 34, x 35, x 36, x 37, x 38, x 39, x 40, x 41, x 42, x 43, x 44, x 45, x 46, x 47, x 48, x 49, x 50, x 51, x 52, x 53, x 54, x 55, x 56, x 57, x 58, x 59, x 60, x 61, x 62, x 63, x 64, x 65, x 66, x 67, x 68, x 69, x 70, x 71, x 72, x 73, x 74, x 75, x 76, x 77, x 78, x 79, x 80, x 81, x 82, x 83, x 84, x 85, x 86, x 87, x 88, x 89, x 90, x 91, x 92, x 93, x 94, x 95, x 96, x 97, x 98, x 99, x 100, x 101, x 102, x 103, x 104, x 105, x 106, x 107, x 108, x 109, x 110, x 111, x 112, x 113, x 114, x 115, x 116, x 117, x 118], []⟩ := ⟨fun i => t.getD i undef, congrArg (fun x => (⟨x, []⟩ : Act)) h⟩
set_option maxRecDepth 100000 in
set_option maxHeartbeats 6400000 in
theorem l1_end {H : Nat} (n0 : Nat) (z0 : List Int) (n1 : Nat) (z1 : List Int) (k : Int) (W : World) (Aw Ag Ah : Option Addr) (cw cg ch g5 g6 : Nat) (x : Nat → Value)
    (ow : W.ownsRow H 2 1 (.slice Aw (shareR z0 z1 k).length cw) (shareR z0 z1 k).length (ints (shareR z0 z1 k))) (og : W.ownsRow H 2 1 (.slice Ag (shareR z0 z1 k).length cg) (shareR z0 z1 k).length (ints (up 1 (shareR z0 z1 k).length))) (oh : W.ownsRow H 2 1 (.slice Ah (shareR z0 z1 k).length ch) (shareR z0 z1 k).length (ints (shareR z0 z1 k))) (cs : List Frame) :
    ∃ fr w', LEnd fr ∧ Steps Try.prog (lone (lB.at ⟨#[x 0, x 1, x 2, x 3, x 4, x 5, x 6, .slice Aw (shareR z0 z1 k).length cw, .bool (shareOk z0 z1 k), x 9, x 10, .slice Ag (shareR z0 z1 k).length cg, .bool (shareOk z0 z1 k), x 13, .int .i64 (1 + ((shareR z0 z1 k).length : Nat)), x 15, x 16, x 17, x 18, x 19, x 20, x 21, x 22, x 23, x 24, x 25, x 26, x 27, x 28, x 29, x 30, x 31, x 32, x 33, x 34, x 35, x 36, x 37, x 38, x 39, x 40, x 41, x 42, x 43, x 44, x 45, x 46, x 47, x 48, x 49, x 50, x 51, x 52, x 53, x 54, x 55, x 56, x 57, x 58, x 59, x 60, x 61, x 62, x 63, x 64, x 65, x 66, x 67, x 68, x 69, x 70, x 71, x 72, x 73, x 74, x 75, x 76, x 77, x 78, x 79, x 80, x 81, x 82, x 83, x 84, x 85, x 86, x 87, x 88, x 89, x 90, x 91, x 92, x 93, x 94, .slice (some ⟨g5, 0, none⟩) n0 n0, x 96, .slice (some ⟨g6, 0, none⟩) n1 n1, .int .i64 k, .tuple #[.slice Ah (shareR z0 z1 k).length ch, .bool (shareOk z0 z1 k)], x 100, x 101, x 102, x 103, x 104, x 105, x 106, x 107, x 108, x 109, x 110, x 111, x 112, x 113, x 114, x 115, x 116, x 117, x 118], []⟩ (.inRegion (opsOf lP20) [6, 7, 8, 9, 10] :: [.code lC21])) cs W) (lone fr cs w') := by
  have hL := share_len z0 z1 k
  obtain ⟨a1, w1, ⟨rfl, rfl⟩, hs1⟩ := ops_more (P := Try.prog) (ops := opsOf lP20) (ops2 := opsOf lP20) (K := fun a u => a = ⟨#[x 0, x 1, x 2, x 3, x 4, x 5, x 6, .slice Aw (shareR z0 z1 k).length cw, .bool (shareOk z0 z1 k), x 9, x 10, .slice Ag (shareR z0 z1 k).length cg, .bool (shareOk z0 z1 k), x 13, .int .i64 (1 + ((shareR z0 z1 k).length : Nat)), x 15, .slice Ah (shareR z0 z1 k).length ch, .bool (shareOk z0 z1 k), x 18, x 19, x 20, x 21, x 22, x 23, x 24, x 25, x 26, x 27, x 28, x 29, x 30, x 31, x 32, x 33, x 34, x 35, x 36, x 37, x 38, x 39, x 40, x 41, x 42, x 43, x 44, x 45, x 46, x 47, x 48, x 49, x 50, x 51, x 52, x 53, x 54, x 55, x 56, x 57, x 58, x 59, x 60, x 61, x 62, x 63, x 64, x 65, x 66, x 67, x 68, x 69, x 70, x 71, x 72, x 73, x 74, x 75, x 76, x 77, x 78, x 79, x 80, x 81, x 82, x 83, x 84, x 85, x 86, x 87, x 88, x 89, x 90, x 91, x 92, .tuple #[.slice Ah (shareR z0 z1 k).length ch, .bool (shareOk z0 z1 k)], x 94, .slice (some ⟨g5, 0, none⟩) n0 n0, x 96, .slice (some ⟨g6, 0, none⟩) n1 n1, .int .i64 k, .tuple #[.slice Ah (shareR z0 z1 k).length ch, .bool (shareOk z0 z1 k)], .slice Ah (shareR z0 z1 k).length ch, .bool (shareOk z0 z1 k), x 102, x 103, x 104, x 105, x 106, x 107, x 108, x 109, x 110, x 111, x 112, x 113, x 114, x 115, x 116, x 117, x 118], []⟩ ∧ u = W) (fun _ => rfl) [6, 7, 8, 9, 10] ⟨#[x 0, x 1, x 2, x 3, x 4, x 5, x 6, .slice Aw (shareR z0 z1 k).length cw, .bool (shareOk z0 z1 k), x 9, x 10, .slice Ag (shareR z0 z1 k).length cg, .bool (shareOk z0 z1 k), x 13, .int .i64 (1 + ((shareR z0 z1 k).length : Nat)), x 15, x 16, x 17, x 18, x 19, x 20, x 21, x 22, x 23, x 24, x 25, x 26, x 27, x 28, x 29, x 30, x 31, x 32, x 33, x 34, x 35, x 36, x 37, x 38, x 39, x 40, x 41, x 42, x 43, x 44, x 45, x 46, x 47, x 48, x 49, x 50, x 51, x 52, x 53, x 54, x 55, x 56, x 57, x 58, x 59, x 60, x 61, x 62, x 63, x 64, x 65, x 66, x 67, x 68, x 69, x 70, x 71, x 72, x 73, x 74, x 75, x 76, x 77, x 78, x 79, x 80, x 81, x 82, x 83, x 84, x 85, x 86, x 87, x 88, x 89, x 90, x 91, x 92, x 93, x 94, .slice (some ⟨g5, 0, none⟩) n0 n0, x 96, .slice (some ⟨g6, 0, none⟩) n1 n1, .int .i64 k, .tuple #[.slice Ah (shareR z0 z1 k).length ch, .bool (shareOk z0 z1 k)], x 100, x 101, x 102, x 103, x 104, x 105, x 106, x 107, x 108, x 109, x 110, x 111, x 112, x 113, x 114, x 115, x 116, x 117, x 118], []⟩ W (fun _ _ => rfl) (by
    unfold lP20 lC20 lC19 lC18 lC17 lC16 lC15 lC14 lC13 lC12 lC11 lC10 lC9 lC8 lC7 lC6 lC5 lC4 lC3 lC2 lC1 lC0 Try.f3
    dsimp only [sq1, sq2, opsOf]
    go_wp2_with fail
    refine Or.inl ?_
    go_simp
    refine Or.inl ?_
    go_simp
    refine Or.inl ?_
    go_simp
    refine Or.inl ?_
    go_simp
    refine Or.inl ?_
    go_simp
    exact ⟨rfl, rfl, rfl⟩) lB [] [.code lC21] cs
  have key : Gets Try.prog lC21 lC26 lB [] cs (fun a u => ∃ x : Nat → Value, a = ⟨#[x 0, x 1, x 2, x 3, x 4, x 5, x 6, x 7, x 8, x 9, x 10, x 11, x 12, x 13, x 14, x 15, x 16, x 17, x 18, x 19, x 20, x 21, x 22, x 23, x 24, x 25, x 26, x 27, x 28, x 29, x 30, x 31, x 32, x 33, x 34, x 35, x 36, x 37, x 38, x 39, x 40, x 41, x 42, x 43, x 44, x 45, x 46, x 47, x 48, x 49, x 50, x 51, x 52, x 53, x 54, x 55, x 56, x 57, x 58, x 59, x 60, x 61, x 62, x 63, x 64, x 65, x 66, x 67, x 68, x 69, x 70, x 71, x 72, x 73, x 74, x 75, x 76, x 77, x 78, x 79, x 80, x 81, x 82, x 83, x 84, x 85, x 86, x 87, x 88, x 89, x 90, x 91, x 92, x 93, x 94, x 95, x 96, x 97, x 98, x 99, x 100, x 101, x 102, x 103, x 104, x 105, x 106, x 107, x 108, x 109, x 110, x 111, x 112, x 113, x 114, x 115, x 116, x 117, x 118], []⟩) ⟨#[x 0, x 1, x 2, x 3, x 4, x 5, x 6, .slice Aw (shareR z0 z1 k).length cw, .bool (shareOk z0 z1 k), x 9, x 10, .slice Ag (shareR z0 z1 k).length cg, .bool (shareOk z0 z1 k), x 13, .int .i64 (1 + ((shareR z0 z1 k).length : Nat)), x 15, .slice Ah (shareR z0 z1 k).length ch, .bool (shareOk z0 z1 k), x 18, x 19, x 20, x 21, x 22, x 23, x 24, x 25, x 26, x 27, x 28, x 29, x 30, x 31, x 32, x 33, x 34, x 35, x 36, x 37, x 38, x 39, x 40, x 41, x 42, x 43, x 44, x 45, x 46, x 47, x 48, x 49, x 50, x 51, x 52, x 53, x 54, x 55, x 56, x 57, x 58, x 59, x 60, x 61, x 62, x 63, x 64, x 65, x 66, x 67, x 68, x 69, x 70, x 71, x 72, x 73, x 74, x 75, x 76, x 77, x 78, x 79, x 80, x 81, x 82, x 83, x 84, x 85, x 86, x 87, x 88, x 89, x 90, x 91, x 92, .tuple #[.slice Ah (shareR z0 z1 k).length ch, .bool (shareOk z0 z1 k)], x 94, .slice (some ⟨g5, 0, none⟩) n0 n0, x 96, .slice (some ⟨g6, 0, none⟩) n1 n1, .int .i64 k, .tuple #[.slice Ah (shareR z0 z1 k).length ch, .bool (shareOk z0 z1 k)], .slice Ah (shareR z0 z1 k).length ch, .bool (shareOk z0 z1 k), x 102, x 103, x 104, x 105, x 106, x 107, x 108, x 109, x 110, x 111, x 112, x 113, x 114, x 115, x 116, x 117, x 118], []⟩ w1 := by
    refine Gets.step lc21 ?_
    unfold lP21 lC21 lC20 lC19 lC18 lC17 lC16 lC15 lC14 lC13 lC12 lC11 lC10 lC9 lC8 lC7 lC6 lC5 lC4 lC3 lC2 lC1 lC0 Try.f3
    dsimp only [sq1, sq2]
    go_wp2_with fail
    refine (eqInt64S_yes _ _ _ _ _ _ _ (Rd.of_own oh) (Rd.of_own ow) (by omega)).mono ?_
    rintro e w2 ⟨rfl, hb⟩
    replace og := own_on og hb
    clear hb ow oh
    go_wp2_with fail
    refine ⟨rfl, ?_⟩
    refine Gets.step lc22 ?_
    unfold lP22 lC22 lC21 lC20 lC19 lC18 lC17 lC16 lC15 lC14 lC13 lC12 lC11 lC10 lC9 lC8 lC7 lC6 lC5 lC4 lC3 lC2 lC1 lC0 Try.f3
    dsimp only [sq1, sq2]
    go_wp2_with fail
    refine ⟨rfl, ?_⟩
    refine Gets.step lc23 ?_
    unfold lP23 lC23 lC22 lC21 lC20 lC19 lC18 lC17 lC16 lC15 lC14 lC13 lC12 lC11 lC10 lC9 lC8 lC7 lC6 lC5 lC4 lC3 lC2 lC1 lC0 Try.f3
    dsimp only [sq1, sq2]
    go_wp2_with fail
    refine (heldInt64S_any _ _ _ _ _ (Rd.of_own og) (by omega) (by omega) (by omega)).mono ?_
    rintro e w11 ⟨rfl, rfl⟩
    go_wp2_with fail
    refine ⟨rfl, ?_⟩
    refine Gets.step lc24 ?_
    unfold lP24 lC24 lC23 lC22 lC21 lC20 lC19 lC18 lC17 lC16 lC15 lC14 lC13 lC12 lC11 lC10 lC9 lC8 lC7 lC6 lC5 lC4 lC3 lC2 lC1 lC0 Try.f3
    dsimp only [sq1, sq2]
    go_wp2_with fail
    refine ⟨rfl, ?_⟩
    refine Gets.step lc25 ?_
    unfold lP25 lC25 lC24 lC23 lC22 lC21 lC20 lC19 lC18 lC17 lC16 lC15 lC14 lC13 lC12 lC11 lC10 lC9 lC8 lC7 lC6 lC5 lC4 lC3 lC2 lC1 lC0 Try.f3
    dsimp only [sq1, sq2]
    go_wp2_with fail
    refine ⟨rfl, Gets.done ?_⟩
    exact lend_any rfl
  obtain ⟨a2, u, ⟨y, rfl⟩, hs2⟩ := key
  have h26 : lP26.wp Try.prog (QN (fun a u' => ∃ t : Array Value, a = ⟨t, []⟩ ∧ t.getD 6 undef = .bool true)) ⟨#[y 0, y 1, y 2, y 3, y 4, y 5, y 6, y 7, y 8, y 9, y 10, y 11, y 12, y 13, y 14, y 15, y 16, y 17, y 18, y 19, y 20, y 21, y 22, y 23, y 24, y 25, y 26, y 27, y 28, y 29, y 30, y 31, y 32, y 33, y 34, y 35, y 36, y 37, y 38, y 39, y 40, y 41, y 42, y 43, y 44, y 45, y 46, y 47, y 48, y 49, y 50, y 51, y 52, y 53, y 54, y 55, y 56, y 57, y 58, y 59, y 60, y 61, y 62, y 63, y 64, y 65, y 66, y 67, y 68, y 69, y 70, y 71, y 72, y 73, y 74, y 75, y 76, y 77, y 78, y 79, y 80, y 81, y 82, y 83, y 84, y 85, y 86, y 87, y 88, y 89, y 90, y 91, y 92, y 93, y 94, y 95, y 96, y 97, y 98, y 99, y 100, y 101, y 102, y 103, y 104, y 105, y 106, y 107, y 108, y 109, y 110, y 111, y 112, y 113, y 114, y 115, y 116, y 117, y 118], []⟩ u := by
    unfold lP26 lC26 lC25 lC24 lC23 lC22 lC21 lC20 lC19 lC18 lC17 lC16 lC15 lC14 lC13 lC12 lC11 lC10 lC9 lC8 lC7 lC6 lC5 lC4 lC3 lC2 lC1 lC0 Try.f3
    dsimp only [sq1, sq2, opsOf]
    go_wp2_with fail
    exact ⟨rfl, _, rfl, rfl⟩
  obtain ⟨a3, u3, ⟨t, rfl, ht⟩, hs3⟩ := wp_steps h26 lB [.code .ret] cs
  refine ⟨_, u3, ⟨t, [.code .ret], rfl, ht⟩, Steps.trans hs1 (.head step_region_end (Steps.trans hs2 ?_))⟩
  rw [lc26]
  exact .head step_seq (Steps.trans hs3 (.one step_ret))

theorem lc1x : lC1 = .seq (.seq (sq1 lP1) (.cond (.tmp 20) (.seq (sq1 (cthen lP1)) .ret) .skip)) lC2 := by kernel_rfl
theorem lc2x : lC2 = .seq (.seq (sq1 lP2) (.cond (.tmp 23) (.seq (sq1 (cthen lP2)) .ret) .skip)) lC3 := by kernel_rfl
set_option maxRecDepth 100000 in
set_option maxHeartbeats 3200000 in
theorem l1_long (A0 : Option Addr) (n0 c0 : Nat) (A1 : Option Addr) (n1 c1 : Nat) (k : Int) (W : World) (hm : 1048576 < n0 ∨ 1048576 < n1) (cs : List Frame) :
    ∃ fr w', LEnd fr ∧ Steps Try.prog (lone (Frame.enter Try.prog 3 #[.slice A0 n0 c0, .slice A1 n1 c1, .int .i64 k] .normal) cs W) (lone fr cs w') := by
  rw [l_enter]
  by_cases m0 : 1048576 < n0
  · have key : Gets Try.prog lC0 lC1 lB [] cs (fun a u => ∃ x : Nat → Value, a = ⟨#[.slice A0 n0 c0, .slice A1 n1 c1, .int .i64 k, x 3, x 4, x 5, x 6, x 7, x 8, x 9, x 10, x 11, x 12, x 13, x 14, x 15, x 16, x 17, x 18, x 19, x 20, x 21, x 22, x 23, x 24, x 25, x 26, x 27, x 28, x 29, x 30, x 31, x 32, x 33, x 34, x 35, x 36, x 37, x 38, x 39, x 40, x 41, x 42, x 43, x 44, x 45, x 46, x 47, x 48, x 49, x 50, x 51, x 52, x 53, x 54, x 55, x 56, x 57, x 58, x 59, x 60, x 61, x 62, x 63, x 64, x 65, x 66, x 67, x 68, x 69, x 70, x 71, x 72, x 73, x 74, x 75, x 76, x 77, x 78, x 79, x 80, x 81, x 82, x 83, x 84, x 85, x 86, x 87, x 88, x 89, x 90, x 91, x 92, x 93, x 94, x 95, x 96, x 97, x 98, x 99, x 100, x 101, x 102, x 103, x 104, x 105, x 106, x 107, x 108, x 109, x 110, x 111, x 112, x 113, x 114, x 115, x 116, x 117, x 118], []⟩) ⟨#[.slice A0 n0 c0, .slice A1 n1 c1, .int .i64 k, undef, undef, undef, undef, undef, undef, undef, undef, undef, undef, undef, undef, undef, undef, undef, undef, undef, undef, undef, undef, undef, undef, undef, undef, undef, undef, undef, undef, undef, undef, undef, undef, undef, undef, undef, undef, undef, undef, undef, undef, undef, undef, undef, undef, undef, undef, undef, undef, undef, undef, undef, undef, undef, undef, undef, undef, undef, undef, undef, undef, undef, undef, undef, undef, undef, undef, undef, undef, undef, undef, undef, undef, undef, undef, undef, undef, undef, undef, undef, undef, undef, undef, undef, undef, undef, undef, undef, undef, undef, undef, undef, undef, undef, undef, undef, undef, undef, undef, undef, undef, undef, undef, undef, undef, undef, undef, undef, undef, undef, undef, undef, undef, undef, undef, undef, undef], []⟩ W := by
      refine Gets.step lc0 ?_
      unfold lP0 lC0 Try.f3
      dsimp only [sq1, sq2]
      go_wp2_with fail
      refine ⟨rfl, Gets.done ?_⟩
      exact lend_ints rfl
    obtain ⟨a2, u, ⟨y, rfl⟩, hs2⟩ := key
    obtain ⟨a3, u3, ⟨t, rfl, ht⟩, hs3⟩ := early (P := Try.prog) (b := lB) (k := []) (cs := cs) (K := fun a u' => ∃ t : Array Value, a = ⟨t, []⟩ ∧ t.getD 6 undef = .bool true) (a := ⟨#[.slice A0 n0 c0, .slice A1 n1 c1, .int .i64 k, y 3, y 4, y 5, y 6, y 7, y 8, y 9, y 10, y 11, y 12, y 13, y 14, y 15, y 16, y 17, y 18, y 19, y 20, y 21, y 22, y 23, y 24, y 25, y 26, y 27, y 28, y 29, y 30, y 31, y 32, y 33, y 34, y 35, y 36, y 37, y 38, y 39, y 40, y 41, y 42, y 43, y 44, y 45, y 46, y 47, y 48, y 49, y 50, y 51, y 52, y 53, y 54, y 55, y 56, y 57, y 58, y 59, y 60, y 61, y 62, y 63, y 64, y 65, y 66, y 67, y 68, y 69, y 70, y 71, y 72, y 73, y 74, y 75, y 76, y 77, y 78, y 79, y 80, y 81, y 82, y 83, y 84, y 85, y 86, y 87, y 88, y 89, y 90, y 91, y 92, y 93, y 94, y 95, y 96, y 97, y 98, y 99, y 100, y 101, y 102, y 103, y 104, y 105, y 106, y 107, y 108, y 109, y 110, y 111, y 112, y 113, y 114, y 115, y 116, y 117, y 118], []⟩) (w := u) lc1x (by
      unfold lP1 lC1 lC0 Try.f3
      dsimp only [sq1, sq2, cthen]
      go_wp2_with fail
      refine ⟨rfl, by simp; omega, ?_⟩
      go_wp2_with fail
      exact ⟨rfl, _, rfl, rfl⟩)
    exact ⟨_, u3, ⟨t, _, rfl, ht⟩, Steps.trans hs2 hs3⟩
  · have m1 : 1048576 < n1 := by omega
    have key : Gets Try.prog lC0 lC2 lB [] cs (fun a u => ∃ x : Nat → Value, a = ⟨#[.slice A0 n0 c0, .slice A1 n1 c1, .int .i64 k, x 3, x 4, x 5, x 6, x 7, x 8, x 9, x 10, x 11, x 12, x 13, x 14, x 15, x 16, x 17, x 18, x 19, x 20, x 21, x 22, x 23, x 24, x 25, x 26, x 27, x 28, x 29, x 30, x 31, x 32, x 33, x 34, x 35, x 36, x 37, x 38, x 39, x 40, x 41, x 42, x 43, x 44, x 45, x 46, x 47, x 48, x 49, x 50, x 51, x 52, x 53, x 54, x 55, x 56, x 57, x 58, x 59, x 60, x 61, x 62, x 63, x 64, x 65, x 66, x 67, x 68, x 69, x 70, x 71, x 72, x 73, x 74, x 75, x 76, x 77, x 78, x 79, x 80, x 81, x 82, x 83, x 84, x 85, x 86, x 87, x 88, x 89, x 90, x 91, x 92, x 93, x 94, x 95, x 96, x 97, x 98, x 99, x 100, x 101, x 102, x 103, x 104, x 105, x 106, x 107, x 108, x 109, x 110, x 111, x 112, x 113, x 114, x 115, x 116, x 117, x 118], []⟩) ⟨#[.slice A0 n0 c0, .slice A1 n1 c1, .int .i64 k, undef, undef, undef, undef, undef, undef, undef, undef, undef, undef, undef, undef, undef, undef, undef, undef, undef, undef, undef, undef, undef, undef, undef, undef, undef, undef, undef, undef, undef, undef, undef, undef, undef, undef, undef, undef, undef, undef, undef, undef, undef, undef, undef, undef, undef, undef, undef, undef, undef, undef, undef, undef, undef, undef, undef, undef, undef, undef, undef, undef, undef, undef, undef, undef, undef, undef, undef, undef, undef, undef, undef, undef, undef, undef, undef, undef, undef, undef, undef, undef, undef, undef, undef, undef, undef, undef, undef, undef, undef, undef, undef, undef, undef, undef, undef, undef, undef, undef, undef, undef, undef, undef, undef, undef, undef, undef, undef, undef, undef, undef, undef, undef, undef, undef, undef, undef], []⟩ W := by
      refine Gets.step lc0 ?_
      unfold lP0 lC0 Try.f3
      dsimp only [sq1, sq2]
      go_wp2_with fail
      refine ⟨rfl, ?_⟩
      refine Gets.step lc1 ?_
      unfold lP1 lC1 lC0 Try.f3
      dsimp only [sq1, sq2]
      go_wp2_with fail
      refine ⟨rfl, Gets.done ?_⟩
      exact lend_ints rfl
    obtain ⟨a2, u, ⟨y, rfl⟩, hs2⟩ := key
    obtain ⟨a3, u3, ⟨t, rfl, ht⟩, hs3⟩ := early (P := Try.prog) (b := lB) (k := []) (cs := cs) (K := fun a u' => ∃ t : Array Value, a = ⟨t, []⟩ ∧ t.getD 6 undef = .bool true) (a := ⟨#[.slice A0 n0 c0, .slice A1 n1 c1, .int .i64 k, y 3, y 4, y 5, y 6, y 7, y 8, y 9, y 10, y 11, y 12, y 13, y 14, y 15, y 16, y 17, y 18, y 19, y 20, y 21, y 22, y 23, y 24, y 25, y 26, y 27, y 28, y 29, y 30, y 31, y 32, y 33, y 34, y 35, y 36, y 37, y 38, y 39, y 40, y 41, y 42, y 43, y 44, y 45, y 46, y 47, y 48, y 49, y 50, y 51, y 52, y 53, y 54, y 55, y 56, y 57, y 58, y 59, y 60, y 61, y 62, y 63, y 64, y 65, y 66, y 67, y 68, y 69, y 70, y 71, y 72, y 73, y 74, y 75, y 76, y 77, y 78, y 79, y 80, y 81, y 82, y 83, y 84, y 85, y 86, y 87, y 88, y 89, y 90, y 91, y 92, y 93, y 94, y 95, y 96, y 97, y 98, y 99, y 100, y 101, y 102, y 103, y 104, y 105, y 106, y 107, y 108, y 109, y 110, y 111, y 112, y 113, y 114, y 115, y 116, y 117, y 118], []⟩) (w := u) lc2x (by
      unfold lP2 lC2 lC1 lC0 Try.f3
      dsimp only [sq1, sq2, cthen]
      go_wp2_with fail
      refine ⟨rfl, by simp; omega, ?_⟩
      go_wp2_with fail
      exact ⟨rfl, _, rfl, rfl⟩)
    exact ⟨_, u3, ⟨t, _, rfl, ht⟩, Steps.trans hs2 hs3⟩
end Go.Proofs.Ytneclhkpgalnlaa
namespace Go.Proofs.Ytneclhkpgalnlaa
open Go.ConcN (sumTo)
open Go.ChangeShapes Go.WideShapes Go.ChangeAt Go.RowKit Sm Go.Conc
set_option linter.unusedVariables false
theorem Rd.kpx {v v' : World} {H n gA gR ln rn : Nat} {A : Option Addr} {xs : List Value} (h : Rd v H 1 A n xs) (hk : KpX gA gR ln rn v v') (hA : H ≤ gA) (hR : H ≤ gR) : Rd v' H 1 A n xs :=
  ⟨h.1, fun hn => by
    obtain ⟨ad, e, hb, hc⟩ := h.2 hn
    exact ⟨ad, e, hb, fun j u hu => hk.cell _ u (hc j u hu) (fun e => by rw [add_block] at e; omega) (fun e => by rw [add_block] at e; omega)⟩⟩
theorem own_ge {w : World} {base n c g : Nat} {e : TypeId} {xs : List Value} (h : w.ownsRow base e 1 (.slice (some ⟨g, 0, none⟩) n c) n xs) : base ≤ g := (h.lt g rfl).1
theorem lend_ok {fr : Frame} (h : LEnd fr) : OkFr fr := by
  obtain ⟨t, todo, rfl, _⟩ := h
  exact ⟨rfl, .inr rfl⟩
theorem pale_rd {W : World} {H n : Nat} {A : Option Addr} {zs : List Int} (h : Rd W H 1 A n (ints zs)) : Rd (paleW W) H 1 A n (ints zs) :=
  ⟨h.1, fun hn => by
    obtain ⟨ad, e, hb, hc⟩ := h.2 hn
    refine ⟨ad, e, hb, fun j u hu => ?_⟩
    have := hc j u hu
    rw [ints_at] at hu
    cases hz : zs[j]? with
    | none => rw [hz] at hu; cases hu
    | some z =>
      rw [hz] at hu
      simp only [Option.map_some, Option.some.injEq] at hu
      subst hu
      exact pale_cell this⟩
/-- The end of the run, from a stretch to it. -/
theorem run_end {W : World} {f : FuncId} {gs0 gs : Array Goroutine} {w : World} {sl : Option (Nat × Nat)} {t : Trace} {q : Nat → Nat} {s : St} {N0 : Nat} {m0 : Machine} (hi : Try.prog.inits.idxOf? f = none) (h0 : runNT Try.prog N0 m0 #[] = (.next (crowd gs w sl), t)) (hC : Sm.Calm Try.prog Fs10 W.heap.size W (fun _ => False) gs w t q s) (h : Seg Try.prog (fun _ => False) (QEnd Try.prog f true) s.fr s.up s.v) :
    ∃ M last o w' t', runNT Try.prog (M + 1) m0 #[] = (.ended o w', t') ∧ runN Try.prog M m0 = .next last ∧ step Try.prog last = .ended o w' ∧ Conc.Good Try.prog (fun v W' => v = .bool true ∧ Below W.heap.size W W') last o w' t' := by
  obtain ⟨N1, gs1, w1, sl1, t1, q1, s1, run1, hC1, hat⟩ := calm_seg (sl := sl) hC h
  obtain ⟨Na, runa⟩ := runs_on h0 run1
  obtain ⟨N, last, o, w', t', e1, e2, e3, e4⟩ := calm_end hi (Post := fun v W' => v = .bool true ∧ Below W.heap.size W W') (fun w' h1 h2 h3 h4 h5 => ⟨rfl, h4, h3, h5, h1, h2⟩) _ gs1 w1 sl1 t1 q1 s1 rfl hC1 hat
  refine ⟨Na + N, last, o, w', t', by rw [Nat.add_assoc, runNT_add, runa]; exact e1, ?_, e3, e4⟩
  have hx := congrArg Prod.fst runa
  rw [runNT_fst] at hx
  rw [runN_add, hx]
  exact e2

set_option maxRecDepth 100000 in
set_option maxHeartbeats 3200000 in
theorem l1_run (A0 : Option Addr) (n0 c0 : Nat) (z0 : List Int) (A1 : Option Addr) (n1 c1 : Nat) (z1 : List Int) (k : Int) (W : World) (r0 : Rd W W.heap.size 1 A0 n0 (ints z0)) (r1 : Rd W W.heap.size 1 A1 n1 (ints z1)) (bk : -9223372036854775808 ≤ k ∧ k ≤ 9223372036854775807)
    (h0 : ∀ a, A0 = some a → a.spot = none ∧ ∃ c el fz, W.heap[a.block]? = some (.cells c el fz)) (h1 : ∀ a, A1 = some a → a.spot = none ∧ ∃ c el fz, W.heap[a.block]? = some (.cells c el fz)) :
    ∃ M last o w' t', runNT Try.prog (M + 1) (solo (G (Frame.enter Try.prog 3 #[.slice A0 n0 c0, .slice A1 n1 c1, .int .i64 k] .normal) []) W) #[] = (.ended o w', t') ∧ runN Try.prog M (solo (G (Frame.enter Try.prog 3 #[.slice A0 n0 c0, .slice A1 n1 c1, .int .i64 k] .normal) []) W) = .next last ∧
      step Try.prog last = .ended o w' ∧ Conc.Good Try.prog (fun v W' => v = .bool true ∧ Below W.heap.size W W') last o w' t' := by
  have hi : Try.prog.inits.idxOf? 3 = none := by kernel_rfl
  have hC := calm_start (W := W) (f := 3) (args := #[.slice A0 n0 c0, .slice A1 n1 c1, .int .i64 k]) (S := fun b => ∃ a : Addr, a.block = b ∧ (A0 = some a ∨ A1 = some a)) (by kernel_rfl) (fun b hb => by
    obtain ⟨a, rfl, h | h⟩ := hb
    · exact (h0 a h).2
    · exact (h1 a h).2) (by
    have one : ∀ (A : Option Addr) (n c : Nat), (A = A0 ∨ A = A1) → VR (FFs Fs10) (argR fun b => ∃ a : Addr, a.block = b ∧ (A0 = some a ∨ A1 = some a)) (.slice A n c) (.slice A n c) := by
      intro A n c hA
      cases A with
      | none => exact .sliceNone n c
      | some a =>
        have hsp : a.spot = none := hA.elim (fun e => (h0 a e.symm).1) fun e => (h1 a e.symm).1
        exact .slice ⟨⟨rfl, a, rfl, hA.elim (fun e => .inl e.symm) fun e => .inr e.symm⟩, rfl, hsp, hsp⟩ n c
    refine ⟨rfl, fun i h1 h2 => ?_⟩
    rcases i with _ | _ | _ | i
    · exact one _ _ _ (.inl rfl)
    · exact one _ _ _ (.inr rfl)
    · exact .int .i64 k
    · simp at h1; omega)
  have hsolo : ∀ (g : Goroutine), runNT Try.prog 0 (solo g W) #[] = (.next (crowd #[g] W none), #[]) := fun g => rfl
  have R0 : Rd (paleW W) W.heap.size 1 A0 n0 (ints z0) := pale_rd r0
  have R1 : Rd (paleW W) W.heap.size 1 A1 n1 (ints z1) := pale_rd r1
  have hH : W.heap.size ≤ (paleW W).heap.size := by rw [pale_size]; exact Nat.le_refl _
  by_cases hm : 1048576 < n0 ∨ 1048576 < n1
  · exact run_end (gs0 := #[]) hi (hsolo _) hC fun T d => by
      obtain ⟨fr, w', hE, hs⟩ := l1_long A0 n0 c0 A1 n1 c1 k (Sm.rt (paleW W) T d) hm [trap]
      exact ⟨fr, [], w', hs, lend_ok hE, qend_of hE, fun b o hb => hb.elim⟩
  have m0 : n0 ≤ 1048576 := by omega
  have m1 : n1 ≤ 1048576 := by omega
  -- to the first call
  obtain ⟨N1, gs1, w1, sl1, t1, q1, s1, run1, hC1, T1, d1, hup1, W1, a1, ⟨vw, gA, gR, x, hF, _, rfl⟩, hfr1⟩ := calm_seg (sl := none) (Q := fun fr up v' => up = [] ∧ ∃ W1 a, L1K W.heap.size W1 A0 n0 c0 z0 A1 n1 c1 z1 k a v' ∧ fr = lB.at a (.inRegion (opsOf lP6) [3, 4, 5, 6, 7, 8] :: [.code lC7])) hC (fun T d => by
    obtain ⟨a, w', hK, hs⟩ := l1_pre A0 n0 c0 z0 A1 n1 c1 z1 k (Sm.rt (paleW W) T d) hH (R0.keep fun _ _ => rfl) (R1.keep fun _ _ => rfl) m0 m1 bk [trap]
    have hd : a.defers = [] := by obtain ⟨vw, gA, gR, x, _, _, rfl⟩ := hK; rfl
    exact ⟨_, [], w', hs, ⟨hd, .inl rfl⟩, ⟨rfl, _, a, hK, rfl⟩, fun b o hb => hb.elim⟩)
  obtain ⟨f1, f2, f3, f4, f5, f6, f7, f8, f9, f10⟩ := hF
  have F1 : L1F W.heap.size s1.v A0 n0 z0 A1 n1 z1 k vw gA gR := ⟨f1, f2, f3, f4, f5, f6, f7, f8, f9, f10⟩
  -- the first call
  obtain ⟨lc, lg, ld, lo⟩ := lcall1
  obtain ⟨N2, gs2, w2, sl2, t2, q2, s2, vg, run2, hC2, hup2, hfr2, og0, hk2⟩ := call_run (sl := sl1) (lc := n0) (rc := n1) (k := k) hC1 hfr1 lc lg (fun u => by unfold execOp; rw [lo]; dsimp only; go_simp) (Rd.of_own F1.o2) (Rd.of_own F1.o3) F1.hne m0 m1
  have hgA := own_ge F1.o2
  have hgR := own_ge F1.o3
  have agw := own_apart F1.ow og0
  have ag2 := own_apart F1.o2 og0
  have ag3 := own_apart F1.o3 og0
  have og := own_base og0 F1.hH
  have F2 : L1F W.heap.size s2.v A0 n0 z0 A1 n1 z1 k vw gA gR := ⟨Nat.le_trans F1.hH hk2.size, F1.r0.kpx hk2 hgA hgR, F1.r1.kpx hk2 hgA hgR, own_kpx_ne F1.ow hk2 F1.a2w.swap F1.a3w.swap,
    own_kpx F1.o2 hk2 (fun g cap e => by cases e; exact ⟨fun _ => Nat.le_refl _, fun e => absurd e F1.hne⟩), own_kpx F1.o3 hk2 (fun g cap e => by cases e; exact ⟨fun e => absurd e.symm F1.hne, fun _ => Nat.le_refl _⟩), F1.a2w, F1.a3w, F1.a23, F1.hne⟩
  have hfr2' : s2.fr = lB.at ⟨#[.slice A0 n0 c0, .slice A1 n1 c1, .int .i64 k, x 3, x 4, x 5, x 6, vw, .bool (shareOk z0 z1 k), .slice (some ⟨gA, 0, none⟩) n0 n0, .slice (some ⟨gR, 0, none⟩) n1 n1, x 11, x 12, x 13, x 14, x 15, x 16, x 17, x 18, x 19, x 20, x 21, x 22, x 23, x 24, x 25, x 26, x 27, x 28, x 29, x 30, x 31, x 32, x 33, x 34, x 35, x 36, x 37, .slice (some ⟨gA, 0, none⟩) n0 n0, .slice (some ⟨gR, 0, none⟩) n1 n1, .int .i64 k, .tuple #[vg, .bool (shareOk z0 z1 k)], x 42, x 43, x 44, x 45, x 46, x 47, x 48, x 49, x 50, x 51, x 52, x 53, x 54, x 55, x 56, x 57, x 58, x 59, x 60, x 61, x 62, x 63, x 64, x 65, x 66, x 67, x 68, x 69, x 70, x 71, x 72, x 73, x 74, x 75, x 76, x 77, x 78, x 79, x 80, x 81, x 82, x 83, x 84, x 85, x 86, x 87, x 88, x 89, x 90, x 91, x 92, x 93, x 94, x 95, x 96, x 97, x 98, x 99, x 100, x 101, x 102, x 103, x 104, x 105, x 106, x 107, x 108, x 109, x 110, x 111, x 112, x 113, x 114, x 115, x 116, x 117, x 118], []⟩ (.inRegion (opsOf lP6) [4, 5, 6, 7, 8] :: [.code lC7]) := by rw [hfr2, ld]; rfl
  -- to the second call
  obtain ⟨N3, gs3, w3, sl3, t3, q3, s3, run3, hC3, T3, d3, hup3, W3, a3, ⟨Aw, Ag, cw, cg, g5, g6, y, hF3, _, rfl⟩, hfr3⟩ := calm_seg (sl := sl2) (Q := fun fr up v' => up = [] ∧ ∃ W1 a, L2K W.heap.size W1 n0 z0 n1 z1 k a v' ∧ fr = lB.at a (.inRegion (opsOf lP20) [5, 6, 7, 8, 9, 10] :: [.code lC21])) hC2 (fun T d => by
    obtain ⟨a, w', hK, hs⟩ := l1_mid A0 n0 c0 z0 A1 n1 c1 z1 k (Sm.rt s2.v T d) vw vg gA gR x m0 m1 bk ⟨F2.hH, F2.r0, F2.r1, F2.ow, F2.o2, F2.o3, F2.a2w, F2.a3w, F2.a23, F2.hne⟩ og agw ag2 ag3 (s2.up ++ [trap])
    have hd : a.defers = [] := by obtain ⟨Aw, Ag, cw, cg, g5, g6, y, _, _, rfl⟩ := hK; rfl
    rw [hfr2']
    have hu : s2.up = [] := hup2.trans hup1
    rw [hu] at hs ⊢
    exact ⟨_, [], w', hs, ⟨hd, .inl rfl⟩, ⟨rfl, _, a, hK, rfl⟩, fun b o hb => hb.elim⟩)
  obtain ⟨e1, e2, e3, e4, e5, e6, e7, e8, e9, e10⟩ := hF3
  have F3 : L2F W.heap.size s3.v n0 z0 n1 z1 k (.slice Aw (shareR z0 z1 k).length cw) (.slice Ag (shareR z0 z1 k).length cg) g5 g6 := ⟨e1, e2, e3, e4, e5, e6, e7, e8, e9, e10⟩
  obtain ⟨mc, mg, md, mo⟩ := lcall2
  obtain ⟨N4, gs4, w4, sl4, t4, q4, s4, vh, run4, hC4, hup4, hfr4, oh0, hk4⟩ := call_run (sl := sl3) (lc := n0) (rc := n1) (k := k) hC3 hfr3 mc mg (fun u => by unfold execOp; rw [mo]; dsimp only; go_simp) (Rd.of_own F3.o5) (Rd.of_own F3.o6) F3.hne m0 m1
  have ow4 := own_kpx_ne F3.ow hk4 F3.a5w.swap F3.a6w.swap
  have og4 := own_kpx_ne F3.og hk4 F3.a5g.swap F3.a6g.swap
  have oh4 := own_base oh0 F3.hH
  obtain ⟨Ah, ch, rfl, _⟩ := own_form oh4
  have hfr4' : s4.fr = lB.at ⟨#[y 0, y 1, y 2, y 3, y 4, y 5, y 6, .slice Aw (shareR z0 z1 k).length cw, .bool (shareOk z0 z1 k), y 9, y 10, .slice Ag (shareR z0 z1 k).length cg, .bool (shareOk z0 z1 k), y 13, .int .i64 (1 + ((shareR z0 z1 k).length : Nat)), y 15, y 16, y 17, y 18, y 19, y 20, y 21, y 22, y 23, y 24, y 25, y 26, y 27, y 28, y 29, y 30, y 31, y 32, y 33, y 34, y 35, y 36, y 37, y 38, y 39, y 40, y 41, y 42, y 43, y 44, y 45, y 46, y 47, y 48, y 49, y 50, y 51, y 52, y 53, y 54, y 55, y 56, y 57, y 58, y 59, y 60, y 61, y 62, y 63, y 64, y 65, y 66, y 67, y 68, y 69, y 70, y 71, y 72, y 73, y 74, y 75, y 76, y 77, y 78, y 79, y 80, y 81, y 82, y 83, y 84, y 85, y 86, y 87, y 88, y 89, y 90, y 91, y 92, y 93, y 94, .slice (some ⟨g5, 0, none⟩) n0 n0, y 96, .slice (some ⟨g6, 0, none⟩) n1 n1, .int .i64 k, .tuple #[.slice Ah (shareR z0 z1 k).length ch, .bool (shareOk z0 z1 k)], y 100, y 101, y 102, y 103, y 104, y 105, y 106, y 107, y 108, y 109, y 110, y 111, y 112, y 113, y 114, y 115, y 116, y 117, y 118], []⟩ (.inRegion (opsOf lP20) [6, 7, 8, 9, 10] :: [.code lC21]) := by rw [hfr4, md]; rfl
  obtain ⟨Na, runa⟩ := runs_on run1 run2
  obtain ⟨Nb, runb⟩ := runs_on runa run3
  obtain ⟨Nc, runc⟩ := runs_on runb run4
  refine run_end (gs0 := #[]) (m0 := solo (G (Frame.enter Try.prog 3 #[.slice A0 n0 c0, .slice A1 n1 c1, .int .i64 k] .normal) []) W) hi runc hC4 fun T d => ?_
  obtain ⟨fr, w', hE, hs⟩ := l1_end n0 z0 n1 z1 k (Sm.rt s4.v T d) Aw Ag Ah cw cg ch g5 g6 y ow4 og4 oh4 (s4.up ++ [trap])
  have hu : s4.up = [] := hup4.trans hup3
  rw [hfr4']
  rw [hu] at hs ⊢
  exact ⟨fr, [], w', hs, lend_ok hE, qend_of hE, fun b o hb => hb.elim⟩
end Go.Proofs.Ytneclhkpgalnlaa
