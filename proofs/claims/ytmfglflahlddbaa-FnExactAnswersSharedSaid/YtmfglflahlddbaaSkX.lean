/-
  The law FnExactAnswersShared: its pieces; to its first call.
-/
import Derived.Test.YtmfglflahlddbaaSkZe
namespace Go.Proofs.Ytmfglflahlddbaa
open Go.ChangeShapes Go.WideShapes Go.ChangeAt Go.RowKit Sm Go.Conc
set_option linter.unusedVariables false
noncomputable def lC0 : Code := match Try.f3.body with | some c => c | none => .skip
noncomputable def lC1 : Code := sq2 lC0
noncomputable def lC2 : Code := sq2 lC1
noncomputable def lC3 : Code := sq2 lC2
noncomputable def lC4 : Code := sq2 lC3
noncomputable def lC5 : Code := sq2 lC4
noncomputable def lC6 : Code := sq2 lC5
noncomputable def lC7 : Code := sq2 lC6
noncomputable def lC8 : Code := sq2 lC7
noncomputable def lC9 : Code := sq2 lC8
noncomputable def lC10 : Code := sq2 lC9
noncomputable def lC11 : Code := sq2 lC10
noncomputable def lC12 : Code := sq2 lC11
noncomputable def lC13 : Code := sq2 lC12
noncomputable def lC14 : Code := sq2 lC13
noncomputable def lC15 : Code := sq2 lC14
noncomputable def lC16 : Code := sq2 lC15
noncomputable def lC17 : Code := sq2 lC16
noncomputable def lC18 : Code := sq2 lC17
noncomputable def lC19 : Code := sq2 lC18
noncomputable def lC20 : Code := sq2 lC19
noncomputable def lC21 : Code := sq2 lC20
noncomputable def lC22 : Code := sq2 lC21
noncomputable def lC23 : Code := sq2 lC22
noncomputable def lC24 : Code := sq2 lC23
noncomputable def lC25 : Code := sq2 lC24
noncomputable def lC26 : Code := sq2 lC25
noncomputable def lC27 : Code := sq2 lC26
noncomputable def lC28 : Code := sq2 lC27
noncomputable def lC29 : Code := sq2 lC28
noncomputable def lP0 : Code := sq1 lC0
noncomputable def lP1 : Code := sq1 lC1
noncomputable def lP2 : Code := sq1 lC2
noncomputable def lP3 : Code := sq1 lC3
noncomputable def lP4 : Code := sq1 lC4
noncomputable def lP5 : Code := sq1 lC5
noncomputable def lP6 : Code := sq1 lC6
noncomputable def lP7 : Code := sq1 lC7
noncomputable def lP8 : Code := sq1 lC8
noncomputable def lP9 : Code := sq1 lC9
noncomputable def lP10 : Code := sq1 lC10
noncomputable def lP11 : Code := sq1 lC11
noncomputable def lP12 : Code := sq1 lC12
noncomputable def lP13 : Code := sq1 lC13
noncomputable def lP14 : Code := sq1 lC14
noncomputable def lP15 : Code := sq1 lC15
noncomputable def lP16 : Code := sq1 lC16
noncomputable def lP17 : Code := sq1 lC17
noncomputable def lP18 : Code := sq1 lC18
noncomputable def lP19 : Code := sq1 lC19
noncomputable def lP20 : Code := sq1 lC20
noncomputable def lP21 : Code := sq1 lC21
noncomputable def lP22 : Code := sq1 lC22
noncomputable def lP23 : Code := sq1 lC23
noncomputable def lP24 : Code := sq1 lC24
noncomputable def lP25 : Code := sq1 lC25
noncomputable def lP26 : Code := sq1 lC26
noncomputable def lP27 : Code := sq1 lC27
noncomputable def lP28 : Code := sq1 lC28
noncomputable def lP29 : Code := sq1 lC29
theorem lc0 : lC0 = .seq lP0 lC1 := by kernel_rfl
theorem lc1 : lC1 = .seq lP1 lC2 := by kernel_rfl
theorem lc2 : lC2 = .seq lP2 lC3 := by kernel_rfl
theorem lc3 : lC3 = .seq lP3 lC4 := by kernel_rfl
theorem lc4 : lC4 = .seq lP4 lC5 := by kernel_rfl
theorem lc5 : lC5 = .seq lP5 lC6 := by kernel_rfl
theorem lc6 : lC6 = .seq lP6 lC7 := by kernel_rfl
theorem lc7 : lC7 = .seq lP7 lC8 := by kernel_rfl
theorem lc8 : lC8 = .seq lP8 lC9 := by kernel_rfl
theorem lc9 : lC9 = .seq lP9 lC10 := by kernel_rfl
theorem lc10 : lC10 = .seq lP10 lC11 := by kernel_rfl
theorem lc11 : lC11 = .seq lP11 lC12 := by kernel_rfl
theorem lc12 : lC12 = .seq lP12 lC13 := by kernel_rfl
theorem lc13 : lC13 = .seq lP13 lC14 := by kernel_rfl
theorem lc14 : lC14 = .seq lP14 lC15 := by kernel_rfl
theorem lc15 : lC15 = .seq lP15 lC16 := by kernel_rfl
theorem lc16 : lC16 = .seq lP16 lC17 := by kernel_rfl
theorem lc17 : lC17 = .seq lP17 lC18 := by kernel_rfl
theorem lc18 : lC18 = .seq lP18 lC19 := by kernel_rfl
theorem lc19 : lC19 = .seq lP19 lC20 := by kernel_rfl
theorem lc20 : lC20 = .seq lP20 lC21 := by kernel_rfl
theorem lc21 : lC21 = .seq lP21 lC22 := by kernel_rfl
theorem lc22 : lC22 = .seq lP22 lC23 := by kernel_rfl
theorem lc23 : lC23 = .seq lP23 lC24 := by kernel_rfl
theorem lc24 : lC24 = .seq lP24 lC25 := by kernel_rfl
theorem lc25 : lC25 = .seq lP25 lC26 := by kernel_rfl
theorem lc26 : lC26 = .seq lP26 lC27 := by kernel_rfl
theorem lc27 : lC27 = .seq lP27 lC28 := by kernel_rfl
theorem lc28 : lC28 = .seq lP28 lC29 := by kernel_rfl
theorem lc29 : lC29 = .seq lP29 .ret := by kernel_rfl
theorem l_body : Try.f3.body = some lC0 := by kernel_rfl
theorem lp9 : lP9 = .region 11 (opsOf lP9) false := by kernel_rfl
theorem lp23 : lP23 = .region 31 (opsOf lP23) false := by kernel_rfl
theorem lp9_size : (opsOf lP9).size = 10 := by kernel_rfl
theorem lp23_size : (opsOf lP23).size = 12 := by kernel_rfl
noncomputable def lB : Frame := Sm.B 3 .normal
noncomputable def lCall1 : Oper := match (opsOf lP9)[4]? with | some o => o | none => default
noncomputable def lCall2 : Oper := match (opsOf lP23)[6]? with | some o => o | none => default
theorem lcall1 : (opsOf lP9)[4]? = some lCall1 ∧ lCall1.guard = none ∧ lCall1.dst = some 50 ∧ lCall1.op = .call { callee := .value (.func 9), args := #[.tmp 46, .tmp 47, .tmp 48, .tmp 49], argTypes := #[29, 23, 2, 2] } := ⟨by kernel_rfl, by kernel_rfl, by kernel_rfl, by kernel_rfl⟩
theorem lcall2 : (opsOf lP23)[6]? = some lCall2 ∧ lCall2.guard = none ∧ lCall2.dst = some 109 ∧ lCall2.op = .call { callee := .value (.func 9), args := #[.tmp 104, .tmp 106, .tmp 107, .tmp 108], argTypes := #[29, 23, 2, 2] } := ⟨by kernel_rfl, by kernel_rfl, by kernel_rfl, by kernel_rfl⟩
section
variable {a w w' : World} {H : Nat}
theorem bH_step (hH : H ≤ a.heap.size) (h : Below H a w) (k : Below w.heap.size w w') : Below H a w' := h.trans (k.mono (Nat.le_trans hH h.size))
theorem bH_only {lo hi : Nat} (hH : H ≤ a.heap.size) (h : Below H a w) (k : Only lo hi w w') (hl : H ≤ lo) : Below H a w' := h.trans (k.below hl (Nat.le_trans hH h.size))
theorem bH_size (hH : H ≤ a.heap.size) (h : Below H a w) : H ≤ w.heap.size := Nat.le_trans hH h.size
end
theorem l_enter (p0 p1 p2 p3 : Value) : Frame.enter Try.prog 3 #[p0, p1, p2, p3] .normal = lB.at ⟨#[p0, p1, p2, p3, undef, undef, undef, undef, undef, undef, undef, undef, undef, undef, undef, undef, undef, undef, undef, undef, undef, undef, undef, undef, undef, undef, undef, undef, undef, undef, undef, undef, undef, undef, undef, undef, undef, undef, undef, undef, undef, undef, undef, undef, undef, undef, undef, undef, undef, undef, undef, undef, undef, undef, undef, undef, undef, undef, undef, undef, undef, undef, undef, undef, undef, undef, undef, undef, undef, undef, undef, undef, undef, undef, undef, undef, undef, undef, undef, undef, undef, undef, undef, undef, undef, undef, undef, undef, undef, undef, undef, undef, undef, undef, undef, undef, undef, undef, undef, undef, undef, undef, undef, undef, undef, undef, undef, undef, undef, undef, undef, undef, undef, undef, undef, undef, undef, undef, undef, undef, undef, undef, undef, undef, undef, undef, undef, undef, undef], []⟩ [.code lC0] := by
  have h1 : Try.prog.funcs[3]? = some Try.f3 := by kernel_rfl
  have h2 : Try.f3.ntmps = 129 := by kernel_rfl
  have e : #[p0, p1, p2, p3] ++ Array.replicate (129 - #[p0, p1, p2, p3].size) undef = #[p0, p1, p2, p3, undef, undef, undef, undef, undef, undef, undef, undef, undef, undef, undef, undef, undef, undef, undef, undef, undef, undef, undef, undef, undef, undef, undef, undef, undef, undef, undef, undef, undef, undef, undef, undef, undef, undef, undef, undef, undef, undef, undef, undef, undef, undef, undef, undef, undef, undef, undef, undef, undef, undef, undef, undef, undef, undef, undef, undef, undef, undef, undef, undef, undef, undef, undef, undef, undef, undef, undef, undef, undef, undef, undef, undef, undef, undef, undef, undef, undef, undef, undef, undef, undef, undef, undef, undef, undef, undef, undef, undef, undef, undef, undef, undef, undef, undef, undef, undef, undef, undef, undef, undef, undef, undef, undef, undef, undef, undef, undef, undef, undef, undef, undef, undef, undef, undef, undef, undef, undef, undef, undef, undef, undef, undef, undef, undef, undef] := by
    apply Array.ext'
    simp [List.replicate]
  rw [enter_eq h1 h2 l_body, e]
  rfl
structure L1F (H : Nat) (v : World) (A0 : Option Addr) (n0 : Nat) (ds : List Rl) (A1 : Option Addr) (n1 : Nat) (zss : List (List Int)) (day k : Int) (vw : Value) (G2 : Option Addr) (c2 : Nat) (G3 : Option Addr) (c3 : Nat) (l2 l3 l4 : Nat) : Prop where
  hH : H ≤ l2 ∧ l2 ≤ l3 ∧ l3 ≤ l4 ∧ l4 ≤ v.heap.size
  r0 : RsK v H A0 n0 ds
  r1 : MsK v H A1 n1 zss
  ow : ObjI v H l2 vw (shR ds zss day k).length (shR ds zss day k)
  o2 : Obj v l2 l3 (.slice G2 n0 c2) n0 ds
  o3 : ObjW v l3 l4 (.slice G3 n1 c3) n1 zss
def L1J (H : Nat) (A0 : Option Addr) (n0 c0 : Nat) (ds : List Rl) (A1 : Option Addr) (n1 c1 : Nat) (zss : List (List Int)) (day k : Int) (a : Act) (w' : World) : Prop := ∃ (vw : Value) (G2 : Option Addr) (c2 : Nat) (G3 : Option Addr) (c3 l2 l3 l4 : Nat) (x : Nat → Value), L1F H w' A0 n0 ds A1 n1 zss day k vw G2 c2 G3 c3 l2 l3 l4 ∧ a = ⟨#[.slice A0 n0 c0, .slice A1 n1 c1, .int .i64 day, .int .i64 k, x 4, x 5, x 6, x 7, x 8, x 9, vw, .bool (shOk ds zss day k), .slice G2 n0 c2, .slice G3 n1 c3, x 14, x 15, x 16, x 17, x 18, x 19, x 20, x 21, x 22, x 23, x 24, x 25, x 26, x 27, x 28, x 29, x 30, x 31, x 32, x 33, x 34, x 35, x 36, x 37, x 38, x 39, x 40, x 41, x 42, x 43, x 44, x 45, x 46, x 47, x 48, x 49, x 50, x 51, x 52, x 53, x 54, x 55, x 56, x 57, x 58, x 59, x 60, x 61, x 62, x 63, x 64, x 65, x 66, x 67, x 68, x 69, x 70, x 71, x 72, x 73, x 74, x 75, x 76, x 77, x 78, x 79, x 80, x 81, x 82, x 83, x 84, x 85, x 86, x 87, x 88, x 89, x 90, x 91, x 92, x 93, x 94, x 95, x 96, x 97, x 98, x 99, x 100, x 101, x 102, x 103, x 104, x 105, x 106, x 107, x 108, x 109, x 110, x 111, x 112, x 113, x 114, x 115, x 116, x 117, x 118, x 119, x 120, x 121, x 122, x 123, x 124, x 125, x 126, x 127, x 128], []⟩
theorem l1j {H : Nat} {A0 : Option Addr} {n0 c0 : Nat} {ds : List Rl} {A1 : Option Addr} {n1 c1 : Nat} {zss : List (List Int)} {day k : Int} {vw : Value} {G2 : Option Addr} {c2 : Nat} {G3 : Option Addr} {c3 l2 l3 l4 : Nat} {w' : World} {t : Array Value} (h1 : L1F H w' A0 n0 ds A1 n1 zss day k vw G2 c2 G3 c3 l2 l3 l4) (h : t = #[.slice A0 n0 c0, .slice A1 n1 c1, .int .i64 day, .int .i64 k, t.getD 4 undef, t.getD 5 undef, t.getD 6 undef, t.getD 7 undef, t.getD 8 undef, t.getD 9 undef, vw, .bool (shOk ds zss day k), .slice G2 n0 c2, .slice G3 n1 c3, t.getD 14 undef, t.getD 15 undef, t.getD 16 undef, t.getD 17 undef, t.getD 18 undef, t.getD 19 undef, t.getD 20 undef, t.getD 21 undef, t.getD 22 undef, t.getD 23 undef, t.getD 24 undef, t.getD 25 undef, t.getD 26 undef, t.getD 27 undef, t.getD 28 undef, t.getD 29 undef, t.getD 30 undef, t.getD 31 undef, t.getD 32 undef, t.getD 33 undef, t.getD 34 undef, t.getD 35 undef, t.getD 36 undef, t.getD 37 undef, t.getD 38 undef, t.getD 39 undef, t.getD 40 undef, t.getD 41 undef, t.getD 42 undef, t.getD 43 undef, t.getD 44 undef, t.getD 45 undef, t.getD 46 undef, t.getD 47 undef, t.getD 48 undef, t.getD 49 undef, t.getD 50 undef, t.getD 51 undef, t.getD 52 undef, t.getD 53 undef, t.getD 54 undef, t.getD 55 undef, t.getD 56 undef, t.getD 57 undef, t.getD 58 undef, t.getD 59 undef, t.getD 60 undef, t.getD 61 undef, t.getD 62 undef, t.getD 63 undef, t.getD 64 undef, t.getD 65 undef, t.getD 66 undef, t.getD 67 undef, t.getD 68 undef, t.getD 69 undef, t.getD 70 undef, t.getD 71 undef, t.getD 72 undef, t.getD 73 undef, t.getD 74 undef, t.getD 75 undef, t.getD 76 undef, t.getD 77 undef, t.getD 78 undef, t.getD 79 undef, t.getD 80 undef, t.getD 81 undef, t.getD 82 undef, t.getD 83 undef, t.getD 84 undef, t.getD 85 undef, t.getD 86 undef, t.getD 87 undef, t.getD 88 undef, t.getD 89 undef, t.getD 90 undef, t.getD 91 undef, t.getD 92 undef, t.getD 93 undef, t.getD 94 undef, t.getD 95 undef, t.getD 96 undef, t.getD 97 undef, t.getD 98 undef, t.getD 99 undef, t.getD 100 undef, t.getD 101 undef, t.getD 102 undef, t.getD 103 undef, t.getD 104 undef, t.getD 105 undef, t.getD 106 undef, t.getD 107 undef, t.getD 108 undef, t.getD 109 undef, t.getD 110 undef, t.getD 111 undef, t.getD 112 undef, t.getD 113 undef, t.getD 114 undef, t.getD 115 undef, t.getD 116 undef, t.getD 117 undef, t.getD 118 undef, t.getD 119 undef, t.getD 120 undef, t.getD 121 undef, t.getD 122 undef, t.getD 123 undef, t.getD 124 undef, t.getD 125 undef, t.getD 126 undef, t.getD 127 undef, t.getD 128 undef]) : L1J H A0 n0 c0 ds A1 n1 c1 zss day k ⟨t, []⟩ w' :=
  ⟨vw, G2, c2, G3, c3, l2, l3, l4, fun i => t.getD i undef, h1, congrArg (fun x => (⟨x, []⟩ : Act)) h⟩
def L1K (H : Nat) (A0 : Option Addr) (n0 c0 : Nat) (ds : List Rl) (A1 : Option Addr) (n1 c1 : Nat) (zss : List (List Int)) (day k : Int) (a : Act) (w' : World) : Prop := ∃ (vw : Value) (G2 : Option Addr) (c2 : Nat) (G3 : Option Addr) (c3 l2 l3 l4 : Nat) (x : Nat → Value), L1F H w' A0 n0 ds A1 n1 zss day k vw G2 c2 G3 c3 l2 l3 l4 ∧ a = ⟨#[.slice A0 n0 c0, .slice A1 n1 c1, .int .i64 day, .int .i64 k, x 4, x 5, x 6, x 7, x 8, x 9, vw, .bool (shOk ds zss day k), .slice G2 n0 c2, .slice G3 n1 c3, x 14, x 15, x 16, x 17, x 18, x 19, x 20, x 21, x 22, x 23, x 24, x 25, x 26, x 27, x 28, x 29, x 30, x 31, x 32, x 33, x 34, x 35, x 36, x 37, x 38, x 39, x 40, x 41, x 42, x 43, x 44, x 45, .slice G2 n0 c2, .slice G3 n1 c3, .int .i64 day, .int .i64 k, x 50, x 51, x 52, x 53, x 54, x 55, x 56, x 57, x 58, x 59, x 60, x 61, x 62, x 63, x 64, x 65, x 66, x 67, x 68, x 69, x 70, x 71, x 72, x 73, x 74, x 75, x 76, x 77, x 78, x 79, x 80, x 81, x 82, x 83, x 84, x 85, x 86, x 87, x 88, x 89, x 90, x 91, x 92, x 93, x 94, x 95, x 96, x 97, x 98, x 99, x 100, x 101, x 102, x 103, x 104, x 105, x 106, x 107, x 108, x 109, x 110, x 111, x 112, x 113, x 114, x 115, x 116, x 117, x 118, x 119, x 120, x 121, x 122, x 123, x 124, x 125, x 126, x 127, x 128], []⟩
/-- What is known of the arguments. -/
structure LC (n0 : Nat) (ds : List Rl) (n1 : Nat) (zss : List (List Int)) (day : Int) : Prop where
  m0 : n0 ≤ 9223372036854775807
  m1 : n1 ≤ 9223372036854775807
  hb : ∀ d ∈ ds, RlB d
  hi : ∀ zs ∈ zss, I64s zs
  hl : ∀ zs ∈ zss, zs.length ≤ 9223372036854775807
  bd : -9223372036854775808 ≤ day ∧ day ≤ 9223372036854775807
set_option maxRecDepth 100000 in
set_option maxHeartbeats 6400000 in
theorem l1_pre {H : Nat} (A0 : Option Addr) (n0 c0 : Nat) (ds : List Rl) (A1 : Option Addr) (n1 c1 : Nat) (zss : List (List Int)) (day k : Int) (W : World) (hH : H ≤ W.heap.size) (K0 : RsK W H A0 n0 ds) (K1 : MsK W H A1 n1 zss) (hC : LC n0 ds n1 zss day) (hzs : szD ds + szM zss ≤ 1048576) (cs : List Frame) :
    ∃ a w', L1K H A0 n0 c0 ds A1 n1 c1 zss day k a w' ∧
      Steps Try.prog (lone (Frame.enter Try.prog 3 #[.slice A0 n0 c0, .slice A1 n1 c1, .int .i64 day, .int .i64 k] .normal) cs W) (lone (lB.at a (.inRegion (opsOf lP9) [4, 5, 6, 7, 8, 9] :: [.code lC10])) cs w') := by
  have hB : Below H W W := Below.refl _ _
  obtain ⟨m0, m1, hb, hi, hl, bd⟩ := hC
  have hz : szD ds ≤ 1048576 := by omega
  have hs : szM zss ≤ 1048576 := by omega
  have r0 := K0.rd
  have r1 := K1.rd
  have HZS := Lib.hid hzs
  clear hzs
  have key : Gets Try.prog lC0 lC9 lB [] cs (L1J H A0 n0 c0 ds A1 n1 c1 zss day k) ⟨#[.slice A0 n0 c0, .slice A1 n1 c1, .int .i64 day, .int .i64 k, undef, undef, undef, undef, undef, undef, undef, undef, undef, undef, undef, undef, undef, undef, undef, undef, undef, undef, undef, undef, undef, undef, undef, undef, undef, undef, undef, undef, undef, undef, undef, undef, undef, undef, undef, undef, undef, undef, undef, undef, undef, undef, undef, undef, undef, undef, undef, undef, undef, undef, undef, undef, undef, undef, undef, undef, undef, undef, undef, undef, undef, undef, undef, undef, undef, undef, undef, undef, undef, undef, undef, undef, undef, undef, undef, undef, undef, undef, undef, undef, undef, undef, undef, undef, undef, undef, undef, undef, undef, undef, undef, undef, undef, undef, undef, undef, undef, undef, undef, undef, undef, undef, undef, undef, undef, undef, undef, undef, undef, undef, undef, undef, undef, undef, undef, undef, undef, undef, undef, undef, undef, undef, undef, undef, undef], []⟩ W := by
    refine Gets.step lc0 ?_
    unfold lP0 lC0 Try.f3
    dsimp only [sq1, sq2]
    go_wp2_with fail
    refine ⟨rfl, ?_⟩
    refine Gets.step lc1 ?_
    unfold lP1 lC1 lC0 Try.f3
    dsimp only [sq1, sq2]
    go_wp2_with fail
    refine ⟨rfl, ?_⟩
    refine Gets.step lc2 ?_
    unfold lP2 lC2 lC1 lC0 Try.f3
    dsimp only [sq1, sq2]
    go_wp2_with fail
    refine (szRs_yes _ _ _ ds 1048576 _ ((r0.below hB).more (bH_size hH hB)) (by omega) ⟨hb, m0⟩ (by have := HZS.out; omega)).mono ?_
    rintro e w1 ⟨l, rfl, hl1, hl2, hb'⟩
    have HL := Lib.hid hl1
    replace hB := bH_step hH hB hb'
    clear hl1 hb'
    go_wp2_with fail
    refine ⟨rfl, ?_⟩
    refine Gets.step lc3 ?_
    unfold lP3 lC3 lC2 lC1 lC0 Try.f3
    dsimp only [sq1, sq2]
    go_wp2_with fail
    refine ⟨rfl, ?_⟩
    refine Gets.step lc4 ?_
    unfold lP4 lC4 lC3 lC2 lC1 lC0 Try.f3
    dsimp only [sq1, sq2]
    go_wp2_with fail
    refine (szMs_yes _ _ _ zss l _ ((r1.below hB).more (bH_size hH hB)) hl2 m1 hl (by have := HZS.out; have := HL.out; omega)).mono ?_
    rintro e w2 ⟨q, rfl, hq, rfl⟩
    go_wp2_with fail
    refine ⟨rfl, ?_⟩
    refine Gets.step lc5 ?_
    unfold lP5 lC5 lC4 lC3 lC2 lC1 lC0 Try.f3
    dsimp only [sq1, sq2]
    go_wp2_with fail
    refine ⟨rfl, ?_⟩
    refine Gets.step lc6 ?_
    unfold lP6 lC6 lC5 lC4 lC3 lC2 lC1 lC0 Try.f3
    dsimp only [sq1, sq2]
    go_wp2_with fail
    refine (toRs_any _ _ _ ds _ ((r0.below hB).more (bH_size hH hB)) hz).mono ?_
    rintro e w3 ⟨S2, q2, rfl, s2, hb'⟩
    replace hB := bH_step hH hB hb'
    clear hb'
    go_wp2_with fail
    refine (toMs_any _ _ _ zss _ ((r1.below hB).more (bH_size hH hB)) hs).mono ?_
    rintro e w4 ⟨S3, q3, rfl, s3, hb'⟩
    replace s2 := s2.on hb'
    replace hB := bH_step hH hB hb'
    clear hb'
    go_wp2_with fail
    refine (spec_as _ _ _ ds _ _ _ zss day k _ s2.rd hz hb s3.rd hs hi bd).mono ?_
    rintro e w5 ⟨vw, rfl, ow, hb'⟩
    replace ow := ObjI.mk' (own_base ow (bH_size hH hB))
    replace hB := bH_step hH hB hb'
    clear hb' s2 s3
    have h1 := bH_size hH hB
    generalize hl5 : w5.heap.size = l2 at ow h1
    go_wp2_with fail
    refine ⟨rfl, ?_⟩
    refine Gets.step lc7 ?_
    unfold lP7 lC7 lC6 lC5 lC4 lC3 lC2 lC1 lC0 Try.f3
    dsimp only [sq1, sq2]
    go_wp2_with fail
    refine (toRs_any _ _ _ ds _ ((r0.below hB).more (bH_size hH hB)) hz).mono ?_
    rintro e w6 ⟨G2, c2, rfl, o2, hb'⟩
    have h2 := hb'.size
    replace ow := ow.on hb'
    rw [hl5] at o2 h2
    replace hB := bH_step hH hB hb'
    clear hb'
    generalize hl6 : w6.heap.size = l3 at o2 h2
    go_wp2_with fail
    refine ⟨rfl, ?_⟩
    refine Gets.step lc8 ?_
    unfold lP8 lC8 lC7 lC6 lC5 lC4 lC3 lC2 lC1 lC0 Try.f3
    dsimp only [sq1, sq2]
    go_wp2_with fail
    refine (toMs_any _ _ _ zss _ ((r1.below hB).more (bH_size hH hB)) hs).mono ?_
    rintro e w7 ⟨G3, c3, rfl, o3, hb'⟩
    have h3 := hb'.size
    replace ow := ow.on hb'
    replace o2 := o2.on hb'
    rw [hl6] at o3 h3
    replace hB := bH_step hH hB hb'
    clear hb'
    go_wp2_with fail
    refine ⟨rfl, Gets.done ?_⟩
    exact l1j ⟨⟨h1, h2, h3, Nat.le_refl _⟩, K0.below hB, K1.below hB, ow, o2, o3⟩ rfl
  obtain ⟨a1, w1, ⟨vw, G2, c2, G3, c3, l2, l3, l4, x, hF, rfl⟩, hs1⟩ := key
  obtain ⟨a2, w2, ⟨rfl, rfl⟩, hs2⟩ := ops_more (P := Try.prog) (ops := opsOf lP9) (ops2 := opsOf lP9) (K := fun a u => a = ⟨#[.slice A0 n0 c0, .slice A1 n1 c1, .int .i64 day, .int .i64 k, x 4, x 5, x 6, x 7, x 8, x 9, vw, .bool (shOk ds zss day k), .slice G2 n0 c2, .slice G3 n1 c3, x 14, x 15, x 16, x 17, x 18, x 19, x 20, x 21, x 22, x 23, x 24, x 25, x 26, x 27, x 28, x 29, x 30, x 31, x 32, x 33, x 34, x 35, x 36, x 37, x 38, x 39, x 40, x 41, x 42, x 43, x 44, x 45, .slice G2 n0 c2, .slice G3 n1 c3, .int .i64 day, .int .i64 k, x 50, x 51, x 52, x 53, x 54, x 55, x 56, x 57, x 58, x 59, x 60, x 61, x 62, x 63, x 64, x 65, x 66, x 67, x 68, x 69, x 70, x 71, x 72, x 73, x 74, x 75, x 76, x 77, x 78, x 79, x 80, x 81, x 82, x 83, x 84, x 85, x 86, x 87, x 88, x 89, x 90, x 91, x 92, x 93, x 94, x 95, x 96, x 97, x 98, x 99, x 100, x 101, x 102, x 103, x 104, x 105, x 106, x 107, x 108, x 109, x 110, x 111, x 112, x 113, x 114, x 115, x 116, x 117, x 118, x 119, x 120, x 121, x 122, x 123, x 124, x 125, x 126, x 127, x 128], []⟩ ∧ u = w1) (fun _ => rfl) [0, 1, 2, 3] ⟨#[.slice A0 n0 c0, .slice A1 n1 c1, .int .i64 day, .int .i64 k, x 4, x 5, x 6, x 7, x 8, x 9, vw, .bool (shOk ds zss day k), .slice G2 n0 c2, .slice G3 n1 c3, x 14, x 15, x 16, x 17, x 18, x 19, x 20, x 21, x 22, x 23, x 24, x 25, x 26, x 27, x 28, x 29, x 30, x 31, x 32, x 33, x 34, x 35, x 36, x 37, x 38, x 39, x 40, x 41, x 42, x 43, x 44, x 45, x 46, x 47, x 48, x 49, x 50, x 51, x 52, x 53, x 54, x 55, x 56, x 57, x 58, x 59, x 60, x 61, x 62, x 63, x 64, x 65, x 66, x 67, x 68, x 69, x 70, x 71, x 72, x 73, x 74, x 75, x 76, x 77, x 78, x 79, x 80, x 81, x 82, x 83, x 84, x 85, x 86, x 87, x 88, x 89, x 90, x 91, x 92, x 93, x 94, x 95, x 96, x 97, x 98, x 99, x 100, x 101, x 102, x 103, x 104, x 105, x 106, x 107, x 108, x 109, x 110, x 111, x 112, x 113, x 114, x 115, x 116, x 117, x 118, x 119, x 120, x 121, x 122, x 123, x 124, x 125, x 126, x 127, x 128], []⟩ w1 (fun _ _ => rfl) (by
    unfold lP9 lC9 lC8 lC7 lC6 lC5 lC4 lC3 lC2 lC1 lC0 Try.f3
    dsimp only [sq1, sq2, opsOf]
    go_wp2_with fail
    refine Or.inl ?_
    go_simp
    refine Or.inl ?_
    go_simp
    refine Or.inl ?_
    go_simp
    refine Or.inl ?_
    go_simp
    exact ⟨rfl, rfl, rfl⟩) lB [4, 5, 6, 7, 8, 9] [.code lC10] cs
  refine ⟨_, w2, ⟨vw, G2, c2, G3, c3, l2, l3, l4, x, hF, rfl⟩, ?_⟩
  rw [l_enter]
  refine Steps.trans hs1 ?_
  rw [lc9]
  refine .head step_seq ?_
  rw [show lP9 = .region 11 (opsOf lP9) false from lp9]
  refine .head step_region ?_
  rw [show List.range (opsOf lP9).size = [0, 1, 2, 3] ++ [4, 5, 6, 7, 8, 9] from by rw [lp9_size]; rfl]
  exact hs2
end Go.Proofs.Ytmfglflahlddbaa

