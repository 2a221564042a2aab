/-
  The law FnDrawn: its pieces.
-/
import Derived.Test.YtneclhkpgalnlaaShZb
import Derived.Test.YtneclhkpgalnlaaFdZa
namespace Go.Proofs.Ytneclhkpgalnlaa
open Go.ChangeShapes Go.WideShapes Go.ChangeAt Go.RowKit Sm Go.Conc
set_option linter.unusedVariables false
noncomputable def mC0 : Code := match Try.f4.body with | some c => c | none => .skip
noncomputable def mC1 : Code := sq2 mC0
noncomputable def mC2 : Code := sq2 mC1
noncomputable def mC3 : Code := sq2 mC2
noncomputable def mC4 : Code := sq2 mC3
noncomputable def mC5 : Code := sq2 mC4
noncomputable def mC6 : Code := sq2 mC5
noncomputable def mC7 : Code := sq2 mC6
noncomputable def mC8 : Code := sq2 mC7
noncomputable def mC9 : Code := sq2 mC8
noncomputable def mC10 : Code := sq2 mC9
noncomputable def mC11 : Code := sq2 mC10
noncomputable def mC12 : Code := sq2 mC11
noncomputable def mC13 : Code := sq2 mC12
noncomputable def mC14 : Code := sq2 mC13
noncomputable def mC15 : Code := sq2 mC14
noncomputable def mC16 : Code := sq2 mC15
noncomputable def mP0 : Code := sq1 mC0
noncomputable def mP1 : Code := sq1 mC1
noncomputable def mP2 : Code := sq1 mC2
noncomputable def mP3 : Code := sq1 mC3
noncomputable def mP4 : Code := sq1 mC4
noncomputable def mP5 : Code := sq1 mC5
noncomputable def mP6 : Code := sq1 mC6
noncomputable def mP7 : Code := sq1 mC7
noncomputable def mP8 : Code := sq1 mC8
noncomputable def mP9 : Code := sq1 mC9
noncomputable def mP10 : Code := sq1 mC10
noncomputable def mP11 : Code := sq1 mC11
noncomputable def mP12 : Code := sq1 mC12
noncomputable def mP13 : Code := sq1 mC13
noncomputable def mP14 : Code := sq1 mC14
noncomputable def mP15 : Code := sq1 mC15
noncomputable def mP16 : Code := sq1 mC16
theorem mc0 : mC0 = .seq mP0 mC1 := by kernel_rfl
theorem mc1 : mC1 = .seq mP1 mC2 := by kernel_rfl
theorem mc2 : mC2 = .seq mP2 mC3 := by kernel_rfl
theorem mc3 : mC3 = .seq mP3 mC4 := by kernel_rfl
theorem mc4 : mC4 = .seq mP4 mC5 := by kernel_rfl
theorem mc5 : mC5 = .seq mP5 mC6 := by kernel_rfl
theorem mc6 : mC6 = .seq mP6 mC7 := by kernel_rfl
theorem mc7 : mC7 = .seq mP7 mC8 := by kernel_rfl
theorem mc8 : mC8 = .seq mP8 mC9 := by kernel_rfl
theorem mc9 : mC9 = .seq mP9 mC10 := by kernel_rfl
theorem mc10 : mC10 = .seq mP10 mC11 := by kernel_rfl
theorem mc11 : mC11 = .seq mP11 mC12 := by kernel_rfl
theorem mc12 : mC12 = .seq mP12 mC13 := by kernel_rfl
theorem mc13 : mC13 = .seq mP13 mC14 := by kernel_rfl
theorem mc14 : mC14 = .seq mP14 mC15 := by kernel_rfl
theorem mc15 : mC15 = .seq mP15 mC16 := by kernel_rfl
theorem mc16 : mC16 = .seq mP16 .ret := by kernel_rfl
theorem m_body : Try.f4.body = some mC0 := by kernel_rfl
theorem mp9 : mP9 = .region 13 (opsOf mP9) false := by kernel_rfl
theorem mp9_size : (opsOf mP9).size = 12 := by kernel_rfl
noncomputable def mB : Frame := B 4 .normal
noncomputable def mCall : Oper := match (opsOf mP9)[6]? with | some o => o | none => default
theorem mcall : (opsOf mP9)[6]? = some mCall ∧ mCall.guard = none ∧ mCall.dst = some 78 ∧ mCall.op = .call { callee := .value (.func 7), args := #[.tmp 73, .tmp 74, .tmp 77], argTypes := #[22, 22, 2] } := ⟨by kernel_rfl, by kernel_rfl, by kernel_rfl, by kernel_rfl⟩
set_option maxRecDepth 100000 in
theorem m_enter (p0 p1 : Value) : Frame.enter Try.prog 4 #[p0, p1] .normal = mB.at ⟨#[p0, p1, undef, undef, undef, undef, undef, undef, undef, undef, undef, undef, undef, undef, undef, undef, undef, undef, undef, undef, undef, undef, undef, undef, undef, undef, undef, undef, undef, undef, undef, undef, undef, undef, undef, undef, undef, undef, undef, undef, undef, undef, undef, undef, undef, undef, undef, undef, undef, undef, undef, undef, undef, undef, undef, undef, undef, undef, undef, undef, undef, undef, undef, undef, undef, undef, undef, undef, undef, undef, undef, undef, undef, undef, undef, undef, undef, undef, undef, undef, undef, undef, undef, undef, undef, undef, undef, undef, undef, undef, undef, undef, undef, undef, undef, undef, undef, undef, undef, undef, undef, undef, undef, undef, undef, undef, undef, undef, undef, undef, undef, undef, undef, undef, undef, undef, undef, undef, undef, undef, undef, undef, undef, undef, undef, undef, undef, undef, undef, undef, undef, undef, undef, undef, undef, undef, undef, undef, undef, undef, undef, undef, undef, undef, undef, undef, undef, undef, undef, undef, undef, undef, undef, undef, undef, undef, undef, undef, undef, undef, undef, undef, undef, undef, undef, undef, undef, undef, undef, undef, undef, undef, undef, undef, undef, undef, undef, undef, undef, undef, undef, undef, undef, undef, undef, undef, undef, undef, undef, undef, undef, undef, undef, undef, undef, undef, undef, undef, undef, undef, undef, undef, undef, undef], []⟩ [.code mC0] := by
  have h1 : Try.prog.funcs[4]? = some Try.f4 := by kernel_rfl
  have h2 : Try.f4.ntmps = 204 := by kernel_rfl
  have e : #[p0, p1] ++ Array.replicate (204 - #[p0, p1].size) undef = #[p0, p1, undef, undef, undef, undef, undef, undef, undef, undef, undef, undef, undef, undef, undef, undef, undef, undef, undef, undef, undef, undef, undef, undef, undef, undef, undef, undef, undef, undef, undef, undef, undef, undef, undef, undef, undef, undef, undef, undef, undef, undef, undef, undef, undef, undef, undef, undef, undef, undef, undef, undef, undef, undef, undef, undef, undef, undef, undef, undef, undef, undef, undef, undef, undef, undef, undef, undef, undef, undef, undef, undef, undef, undef, undef, undef, undef, undef, undef, undef, undef, undef, undef, undef, undef, undef, undef, undef, undef, undef, undef, undef, undef, undef, undef, undef, undef, undef, undef, undef, undef, undef, undef, undef, undef, undef, undef, undef, undef, undef, undef, undef, undef, undef, undef, undef, undef, undef, undef, undef, undef, undef, undef, undef, undef, undef, undef, undef, undef, undef, undef, undef, undef, undef, undef, undef, undef, undef, undef, undef, undef, undef, undef, undef, undef, undef, undef, undef, undef, undef, undef, undef, undef, undef, undef, undef, undef, undef, undef, undef, undef, undef, undef, undef, undef, undef, undef, undef, undef, undef, undef, undef, undef, undef, undef, undef, undef, undef, undef, undef, undef, undef, undef, undef, undef, undef, undef, undef, undef, undef, undef, undef, undef, undef, undef, undef, undef, undef, undef, undef, undef, undef, undef, undef] := by
    apply Array.ext'
    simp [List.replicate]
  rw [enter_eq h1 h2 m_body, e]
  rfl
/-- The law's rates, so many of them. -/
def rsOf (a : List Int) (n : Nat) : List Int := (List.range n).map fun i : Nat => 10 * r8 a (i : Int) 200 - 700
theorem rsOf_length (a : List Int) (n : Nat) : (rsOf a n).length = n := by simp [rsOf]
theorem rsOf_succ (a : List Int) (n : Nat) : rsOf a (n + 1) = rsOf a n ++ [10 * r8 a n 200 - 700] := by simp [rsOf, List.range_succ]
theorem rsOf_tame {a : List Int} {n : Nat} (h : n ≤ 10) : Tame (rsOf a n) := by
  refine ⟨by rw [rsOf_length]; exact h, fun k hk => ?_⟩
  rw [rsOf_length] at hk
  have hb := r8_bd (bs := a) (i := k) (m := 200) (by omega)
  have e : (rsOf a n)[k]?.getD 0 = 10 * r8 a k 200 - 700 := by simp [rsOf, hk]
  rw [e]; omega
theorem tame_i64 {rs : List Int} (h : Tame rs) : I64s rs := fun z hz => by
  obtain ⟨k, hk, rfl⟩ := List.mem_iff_getElem.1 hz
  have := h.2 k hk
  rw [List.getElem?_eq_getElem hk, Option.getD_some] at this
  omega
theorem safe_vals {s : Int} {rs : List Int} (hs : 0 ≤ s ∧ s ≤ 10000) (hr : Tame rs) (h1 : 1 ≤ rs.length) : SafeDraw_r0 s rs = safeR s rs ∧ SafeDraw_r1 s rs = true := by
  refine safe_yes ?_
  have h := down_ok (d := 0) hs (by omega) hr h1
  unfold downFull downOk at h
  rw [Bool.and_eq_true, Bool.and_eq_true, Bool.and_eq_true] at h
  unfold safeOk
  rw [h.1.1.2, inB_iff.2 (by omega : (0 : Int) ≤ s ∧ s ≤ 1000000000)]
  rfl
theorem down_vals {s d : Int} {rs : List Int} (hs : 0 ≤ s ∧ s ≤ 10000) (hd : 0 ≤ d ∧ d ≤ 1000000) (hr : Tame rs) (h1 : 1 ≤ rs.length) :
    DrawDown_r0 s rs d = drawTo s rs d 1000000000001 rs.length ∧ DrawDown_r1 s rs d = (drawAt s rs d 1000000000000 rs.length).2 ∧ DrawDown_r2 s rs d = true := by
  have h := down_ok hs hd hr h1
  unfold DrawDown_r0 DrawDown_r1 DrawDown_r2
  rw [h, if_pos rfl, if_pos rfl, draw_max hs hd.1 hr (by omega) _ (Nat.le_refl _)]
  exact ⟨rfl, rfl, rfl⟩
theorem down_full {s d : Int} {rs : List Int} (hs : 0 ≤ s ∧ s ≤ 10000) (hd : 0 ≤ d ∧ d ≤ 1000000) (hr : Tame rs) (h1 : 1 ≤ rs.length) (h : lasts s rs d = true) : DrawDown_r1 s rs d = rs.length := by
  rw [(down_vals hs hd hr h1).2.1]
  exact of_decide_eq_true h
theorem down_less {s d : Int} {rs : List Int} (hs : 0 ≤ s ∧ s ≤ 10000) (hd : 0 ≤ d ∧ d ≤ 1000000) (hr : Tame rs) (h1 : 1 ≤ rs.length) (h : lasts s rs d = false) : 0 ≤ DrawDown_r1 s rs d ∧ DrawDown_r1 s rs d < rs.length := by
  rw [(down_vals hs hd hr h1).2.1]
  rcases years_form (M := 1000000000000) hs hd.1 hr (by omega) rs.length (Nat.le_refl _) with e | ⟨_, _, a, b⟩
  · exact absurd e (of_decide_eq_false h)
  · exact ⟨a, b⟩
end Go.Proofs.Ytneclhkpgalnlaa
namespace Go.Proofs.Ytneclhkpgalnlaa
open Go.ChangeShapes Go.WideShapes Go.ChangeAt Go.RowKit Sm Go.Conc
set_option linter.unusedVariables false
structure M1F (H : Nat) (v : World) (A0 : Option Addr) (n0 : Nat) (z0 : List Int) (A1 : Option Addr) (n1 : Nat) (z1 : List Int) (n : Nat) (gR cR : Nat) (pot y15 : Int) : Prop where
  hH : H ≤ v.heap.size
  r0 : Rd v H 1 A0 n0 (byts z0)
  r1 : Rd v H 1 A1 n1 (byts z1)
  o6 : v.ownsRow H 2 1 (.slice (some ⟨gR, 0, none⟩) n cR) n (ints (rsOf z0 n))
  hn : 1 ≤ n ∧ n ≤ 10
  hp : 0 ≤ pot ∧ pot ≤ 10000
  hy : y15 < n
def M1J (H : Nat) (A0 : Option Addr) (n0 c0 : Nat) (z0 : List Int) (A1 : Option Addr) (n1 c1 : Nat) (z1 : List Int) (a : Act) (v : World) : Prop :=
  ∃ (Ad : Option Addr) (n gR cR cd : Nat) (pot y15 : Int) (x : Nat → Value), M1F H v A0 n0 z0 A1 n1 z1 n gR cR pot y15 ∧ a = ⟨#[.slice A0 n0 c0, .slice A1 n1 c1, x 2, x 3, x 4, .int .i64 (n : Nat), .slice (some ⟨gR, 0, none⟩) n cR, x 7, .int .i64 pot, .int .i64 (safeR pot (rsOf z0 n)), .bool true, .slice Ad n cd, .int .i64 n, .bool true, x 14, .int .i64 y15, .bool true, x 17, x 18, x 19, x 20, x 21, x 22, x 23, x 24, x 25, x 26, x 27, x 28, x 29, x 30, x 31, x 32, x 33, x 34, x 35, x 36, x 37, x 38, x 39, x 40, x 41, x 42, x 43, x 44, x 45, x 46, x 47, x 48, x 49, x 50, x 51, x 52, x 53, x 54, x 55, x 56, x 57, x 58, x 59, x 60, x 61, x 62, x 63, x 64, x 65, x 66, x 67, x 68, x 69, x 70, x 71, x 72, x 73, x 74, x 75, x 76, x 77, x 78, x 79, x 80, x 81, x 82, x 83, x 84, x 85, x 86, x 87, x 88, x 89, x 90, x 91, x 92, x 93, x 94, x 95, x 96, x 97, x 98, x 99, x 100, x 101, x 102, x 103, x 104, x 105, x 106, x 107, x 108, x 109, x 110, x 111, x 112, x 113, x 114, x 115, x 116, x 117, x 118, x 119, x 120, x 121, x 122, x 123, x 124, x 125, x 126, x 127, x 128, x 129, x 130, x 131, x 132, x 133, x 134, x 135, x 136, x 137, x 138, x 139, x 140, x 141, x 142, x 143, x 144, x 145, x 146, x 147, x 148, x 149, x 150, x 151, x 152, x 153, x 154, x 155, x 156, x 157, x 158, x 159, x 160, x 161, x 162, x 163, x 164, x 165, x 166, x 167, x 168, x 169, x 170, x 171, x 172, x 173, x 174, x 175, x 176, x 177, x 178, x 179, x 180, x 181, x 182, x 183, x 184, x 185, x 186, x 187, x 188, x 189, x 190, x 191, x 192, x 193, x 194, x 195, x 196, x 197, x 198, x 199, x 200, x 201, x 202, x 203], []⟩
theorem m1j {H : Nat} {v : World} {A0 A1 Ad : Option Addr} {n0 c0 n1 c1 n gR cR cd : Nat} {z0 z1 : List Int} {pot y15 : Int} {t : Array Value} (h1 : M1F H v A0 n0 z0 A1 n1 z1 n gR cR pot y15) (h : t = #[.slice A0 n0 c0, .slice A1 n1 c1, t.getD 2 undef, t.getD 3 undef, t.getD 4 undef, .int .i64 (n : Nat), .slice (some ⟨gR, 0, none⟩) n cR, t.getD 7 undef, .int .i64 pot, .int .i64 (safeR pot (rsOf z0 n)), .bool true, .slice Ad n cd, .int .i64 n, .bool true, t.getD 14 undef, .int .i64 y15, .bool true, t.getD 17 undef, t.getD 18 undef, t.getD 19 undef, t.getD 20 undef, t.getD 21 undef, t.getD 22 undef, t.getD 23 undef, t.getD 24 undef, t.getD 25 undef, t.getD 26 undef, t.getD 27 undef, t.getD 28 undef, t.getD 29 undef, t.getD 30 undef, t.getD 31 undef, t.getD 32 undef, t.getD 33 undef, t.getD 34 undef, t.getD 35 undef, t.getD 36 undef, t.getD 37 undef, t.getD 38 undef, t.getD 39 undef, t.getD 40 undef, t.getD 41 undef, t.getD 42 undef, t.getD 43 undef, t.getD 44 undef, t.getD 45 undef, t.getD 46 undef, t.getD 47 undef, t.getD 48 undef, t.getD 49 undef, t.getD 50 undef, t.getD 51 undef, t.getD 52 undef, t.getD 53 undef, t.getD 54 undef, t.getD 55 undef, t.getD 56 undef, t.getD 57 undef, t.getD 58 undef, t.getD 59 undef, t.getD 60 undef, t.getD 61 undef, t.getD 62 undef, t.getD 63 undef, t.getD 64 undef, t.getD 65 undef, t.getD 66 undef, t.getD 67 undef, t.getD 68 undef, t.getD 69 undef, t.getD 70 undef, t.getD 71 undef, t.getD 72 undef, t.getD 73 undef, t.getD 74 undef, t.getD 75 undef, t.getD 76 undef, t.getD 77 undef, t.getD 78 undef, t.getD 79 undef, t.getD 80 undef, t.getD 81 undef, t.getD 82 undef, t.getD 83 undef, t.getD 84 undef, t.getD 85 undef, t.getD 86 undef, t.getD 87 undef, t.getD 88 undef, t.getD 89 undef, t.getD 90 undef, t.getD 91 undef, t.getD 92 undef, t.getD 93 undef, t.getD 94 undef, t.getD 95 undef, t.getD 96 undef, t.getD 97 undef, t.getD 98 undef, t.getD 99 undef, t.getD 100 undef, t.getD 101 undef, t.getD 102 undef, t.getD 103 undef, t.getD 104 undef, t.getD 105 undef, t.getD 106 undef, t.getD 107 undef, t.getD 108 undef, t.getD 109 undef, t.getD 110 undef, t.getD 111 undef, t.getD 112 undef, t.getD 113 undef, t.getD 114 undef, t.getD 115 undef, t.getD 116 undef, t.getD 117 undef, t.getD 118 undef, t.getD 119 undef, t.getD 120 undef, t.getD 121 undef, t.getD 122 undef, t.getD 123 undef, t.getD 124 undef, t.getD 125 undef, t.getD 126 undef, t.getD 127 undef, t.getD 128 undef, t.getD 129 undef, t.getD 130 undef, t.getD 131 undef, t.getD 132 undef, t.getD 133 undef, t.getD 134 undef, t.getD 135 undef, t.getD 136 undef, t.getD 137 undef, t.getD 138 undef, t.getD 139 undef, t.getD 140 undef, t.getD 141 undef, t.getD 142 undef, t.getD 143 undef, t.getD 144 undef, t.getD 145 undef, t.getD 146 undef, t.getD 147 undef, t.getD 148 undef, t.getD 149 undef, t.getD 150 undef, t.getD 151 undef, t.getD 152 undef, t.getD 153 undef, t.getD 154 undef, t.getD 155 undef, t.getD 156 undef, t.getD 157 undef, t.getD 158 undef, t.getD 159 undef, t.getD 160 undef, t.getD 161 undef, t.getD 162 undef, t.getD 163 undef, t.getD 164 undef, t.getD 165 undef, t.getD 166 undef, t.getD 167 undef, t.getD 168 undef, t.getD 169 undef, t.getD 170 undef, t.getD 171 undef, t.getD 172 undef, t.getD 173 undef, t.getD 174 undef, t.getD 175 undef, t.getD 176 undef, t.getD 177 undef, t.getD 178 undef, t.getD 179 undef, t.getD 180 undef, t.getD 181 undef, t.getD 182 undef, t.getD 183 undef, t.getD 184 undef, t.getD 185 undef, t.getD 186 undef, t.getD 187 undef, t.getD 188 undef, t.getD 189 undef, t.getD 190 undef, t.getD 191 undef, t.getD 192 undef, t.getD 193 undef, t.getD 194 undef, t.getD 195 undef, t.getD 196 undef, t.getD 197 undef, t.getD 198 undef, t.getD 199 undef, t.getD 200 undef, t.getD 201 undef, t.getD 202 undef, t.getD 203 undef]) : M1J H A0 n0 c0 z0 A1 n1 c1 z1 ⟨t, []⟩ v :=
  ⟨Ad, n, gR, cR, cd, pot, y15, fun i => t.getD i undef, h1, congrArg (fun x => (⟨x, []⟩ : Act)) h⟩
set_option maxRecDepth 100000 in
set_option maxHeartbeats 6400000 in
theorem m1_pre (A0 : Option Addr) (n0 c0 : Nat) (z0 : List Int) (A1 : Option Addr) (n1 c1 : Nat) (z1 : List Int) (W : World) (r0 : Rd W W.heap.size 1 A0 n0 (byts z0)) (r1 : Rd W W.heap.size 1 A1 n1 (byts z1)) (hb0 : Byt z0) (hb1 : Byt z1) (m0 : n0 ≤ 48) (m1 : n1 ≤ 48) (cs : List Frame) :
    Gets Try.prog mC0 mC9 mB [] cs (M1J W.heap.size A0 n0 c0 z0 A1 n1 c1 z1) ⟨#[.slice A0 n0 c0, .slice A1 n1 c1, undef, undef, undef, undef, undef, undef, undef, undef, undef, undef, undef, undef, undef, undef, undef, undef, undef, undef, undef, undef, undef, undef, undef, undef, undef, undef, undef, undef, undef, undef, undef, undef, undef, undef, undef, undef, undef, undef, undef, undef, undef, undef, undef, undef, undef, undef, undef, undef, undef, undef, undef, undef, undef, undef, undef, undef, undef, undef, undef, undef, undef, undef, undef, undef, undef, undef, undef, undef, undef, undef, undef, undef, undef, undef, undef, undef, undef, undef, undef, undef, undef, undef, undef, undef, undef, undef, undef, undef, undef, undef, undef, undef, undef, undef, undef, undef, undef, undef, undef, undef, undef, undef, undef, undef, undef, undef, undef, undef, undef, undef, undef, undef, undef, undef, undef, undef, undef, undef, undef, undef, undef, undef, undef, undef, undef, undef, undef, undef, undef, undef, undef, undef, undef, undef, undef, undef, undef, undef, undef, undef, undef, undef, undef, undef, undef, undef, undef, undef, undef, undef, undef, undef, undef, undef, undef, undef, undef, undef, undef, undef, undef, undef, undef, undef, undef, undef, undef, undef, undef, undef, undef, undef, undef, undef, undef, undef, undef, undef, undef, undef, undef, undef, undef, undef, undef, undef, undef, undef, undef, undef, undef, undef, undef, undef, undef, undef, undef, undef, undef, undef, undef, undef], []⟩ W := by
    have hB : Below W.heap.size W W := Below.refl _ _
    refine Gets.step mc0 ?_
    unfold mP0 mC0 Try.f4
    dsimp only [sq1, sq2]
    go_wp2_with fail
    refine ⟨rfl, ?_⟩
    refine Gets.step mc1 ?_
    unfold mP1 mC1 mC0 Try.f4
    dsimp only [sq1, sq2]
    have hlong : (decide (48 < n0) || decide (48 < n1)) = false := by simp; omega
    go_wp2_with fail
    refine (r8Long_any _ _ _ _ _ _ _ (by omega) (by omega)).mono ?_
    rintro e w1 ⟨rfl, rfl⟩
    rw [hlong]
    go_wp2_with fail
    refine ⟨rfl, ?_⟩
    refine Gets.step mc2 ?_
    unfold mP2 mC2 mC1 mC0 Try.f4
    dsimp only [sq1, sq2]
    go_wp2_with fail
    refine (r8At_int A1 n1 c1 z1 40 10 _ r1 hb1 (by omega) (by omega)).mono ?_
    rintro e w2 ⟨rfl, rfl⟩
    have q1 := r8_bd (bs := z1) (i := 40) (m := 10) (by omega)
    obtain ⟨q, hq⟩ : ∃ q, q = r8 z1 40 10 := ⟨_, rfl⟩
    rw [← hq] at q1 ⊢
    clear hq
    obtain ⟨n, rfl⟩ : ∃ n : Nat, q = (n : Int) - 1 := ⟨(1 + q).toNat, by omega⟩
    have hn : 1 ≤ n ∧ n ≤ 10 := by omega
    have hn1 : 1 + ((n : Int) - 1) = n := by omega
    clear q1
    go_wp2_with fail
    try simp only [hn1]
    clear hn1
    refine ⟨rfl, ?_⟩
    refine Gets.step mc3 ?_
    unfold mP3 mC3 mC2 mC1 mC0 Try.f4
    dsimp only [sq1, sq2]
    go_wp2_with fail
    refine ⟨rfl, ?_⟩
    refine Gets.step mc4 ?_
    unfold mP4 mC4 mC3 mC2 mC1 mC0 Try.f4
    dsimp only [sq1, sq2]
    go_wp2_with fail
    go_loopw [6, 7] (fun v i wr => ∃ j : Nat, j ≤ n ∧ i = .int .i64 j ∧ wr.ownsRow W.heap.size 2 1 v j (ints (rsOf z0 j)) ∧ Below W.heap.size W wr) (fun _ i _ => n - (intOf i).toNat)
    case atStart => exact ⟨0, Nat.zero_le _, rfl, own_base (own_empty _ _) hB.size, hB.alloc hB.size _⟩
    case round =>
      obtain ⟨j, hj, rfl, hown, hbw⟩ := hrel
      clear hB
      by_cases hlt : j < n
      · have hst := Lib.hid (rsOf_succ z0 j)
        have q2 := r8_bd (bs := z0) (i := j) (m := 200) (by omega)
        go_wp2_with fail
        refine (r8At_int A0 n0 c0 z0 j 200 _ ((r0.below hbw).more hbw.size) hb0 (by omega) (by omega)).mono ?_
        rintro e w3 ⟨rfl, rfl⟩
        obtain ⟨q, hq⟩ : ∃ q, q = r8 z0 j 200 := ⟨_, rfl⟩
        rw [← hq] at q2 ⊢
        have HQ := Lib.hid hq
        clear hq
        go_wp2_with (at_builtin; refine append_int rfl (.tmp 37) (.tmp 43) rfl W _ j (rsOf z0 j) rfl (hown.alloc _) (hbw.alloc hbw.size _) _ _ (10 * q - 700) rfl (cell_new _ _ _) (by omega) ?_; intro v' w' ho2 hb2)
        go_roundw
        case rel => exact ⟨j + 1, by omega, by go_num, by rw [hst.out, ← HQ.out]; exact ho2, hb2⟩
        case measure => simp [intOf]; omega
      obtain rfl : n = j := by omega
      obtain ⟨A6, cR, rfl, _⟩ := own_form hown
      obtain ⟨gR, rfl⟩ := own_head hown (by omega)
      have hB := hbw
      clear hbw hlt
      go_wp2_with fail
      refine ⟨rfl, ?_⟩
      have htame := Lib.hid (rsOf_tame (a := z0) hn.2)
      have hrl := Lib.hid (rsOf_length z0 n)
      have hi64 := Lib.hid (tame_i64 htame.out)
      refine Gets.step mc5 ?_
      unfold mP5 mC5 mC4 mC3 mC2 mC1 mC0 Try.f4
      dsimp only [sq1, sq2]
      go_wp2_with fail
      refine (r8At_int A1 n1 c1 z1 41 256 _ ((r1.below hB).more hB.size) hb1 (by omega) (by omega)).mono ?_
      rintro e w5 ⟨rfl, rfl⟩
      have q5 := r8_bd (bs := z1) (i := 41) (m := 256) (by omega)
      obtain ⟨q, hq⟩ : ∃ q, q = r8 z1 41 256 := ⟨_, rfl⟩
      rw [← hq] at q5 ⊢
      clear hq
      go_wp2_with fail
      obtain ⟨pot, hpot⟩ : ∃ pot, pot = q * 39 := ⟨_, rfl⟩
      rw [← hpot]
      have hp : 0 ≤ pot ∧ pot ≤ 10000 := by omega
      clear hpot q5
      refine ⟨rfl, ?_⟩
      have h1' : 1 ≤ (rsOf z0 n).length := by rw [hrl.out]; omega
      have hst := Lib.hid (steady hp htame.out h1')
      have hsv := Lib.hid (safe_vals hp htame.out h1')
      have hd0 := hst.out.1
      have hd1 := hst.out.2.1
      have H1 := Lib.hid h1'
      clear h1'
      refine Gets.step mc6 ?_
      unfold mP6 mC6 mC5 mC4 mC3 mC2 mC1 mC0 Try.f4
      dsimp only [sq1, sq2]
      go_wp2_with fail
      refine (impl_SafeDraw pot _ _ _ (rsOf z0 n) _ (by omega) (Rd.of_own hown) (by omega) hi64.out).mono ?_
      rintro e w6 ⟨rfl, hb⟩
      replace hown := own_on hown hb
      replace hB := below_step hB hb
      clear hb
      rw [hsv.out.1, hsv.out.2]
      obtain ⟨dd, hdd⟩ : ∃ dd, dd = safeR pot (rsOf z0 n) := ⟨_, rfl⟩
      rw [← hdd] at hd0 hd1 ⊢
      have HD := Lib.hid hdd
      clear hdd
      go_wp2_with fail
      refine ⟨rfl, ?_⟩
      have hla := Lib.hid (show lasts pot (rsOf z0 n) dd = true by rw [hst.out.2.2 dd hd0, ← HD.out]; simp)
      have hln := Lib.hid (show lasts pot (rsOf z0 n) (dd + 1) = false by rw [hst.out.2.2 (dd + 1) (by omega), ← HD.out]; simp; omega)
      refine Gets.step mc7 ?_
      unfold mP7 mC7 mC6 mC5 mC4 mC3 mC2 mC1 mC0 Try.f4
      dsimp only [sq1, sq2]
      go_wp2_with fail
      refine (impl_DrawDown pot _ _ _ (rsOf z0 n) (dd) _ (by omega) (Rd.of_own hown) (by omega) hi64.out (by omega)).mono ?_
      rintro e w7 ⟨vd, rfl, ovd, hb⟩
      have dv := Lib.hid (down_vals (d := dd) hp (by omega) htame.out H1.out)
      have e1 : (DrawDown_r0 pot (rsOf z0 n) (dd)).length = n := by rw [dv.out.1, drawTo_length, hrl.out]
      rw [e1] at ovd
      replace hown := own_on hown hb
      replace hB := below_step hB hb
      clear hb e1
      obtain ⟨Avd, cvd, rfl, _⟩ := own_form ovd
      rw [dv.out.2.2]
      have e2 := down_full hp (by omega : 0 ≤ dd ∧ dd ≤ 1000000) htame.out H1.out hla.out
      rw [hrl.out] at e2
      rw [e2]
      clear e2 ovd dv
      go_wp2_with fail
      refine ⟨rfl, ?_⟩
      refine Gets.step mc8 ?_
      unfold mP8 mC8 mC7 mC6 mC5 mC4 mC3 mC2 mC1 mC0 Try.f4
      dsimp only [sq1, sq2]
      go_wp2_with fail
      refine (impl_DrawDown pot _ _ _ (rsOf z0 n) (dd + 1) _ (by omega) (Rd.of_own hown) (by omega) hi64.out (by omega)).mono ?_
      rintro e w8 ⟨ve, rfl, ove, hb⟩
      have dv := Lib.hid (down_vals (d := dd + 1) hp (by omega) htame.out H1.out)
      have e1 : (DrawDown_r0 pot (rsOf z0 n) (dd + 1)).length = n := by rw [dv.out.1, drawTo_length, hrl.out]
      rw [e1] at ove
      replace hown := own_on hown hb
      replace hB := below_step hB hb
      clear hb e1
      obtain ⟨Ave, cve, rfl, _⟩ := own_form ove
      rw [dv.out.2.2]
      have e2 := (down_less hp (by omega : 0 ≤ dd + 1 ∧ dd + 1 ≤ 1000000) htame.out H1.out hln.out).2
      rw [hrl.out] at e2
      obtain ⟨y15, hy⟩ : ∃ y, y = DrawDown_r1 pot (rsOf z0 n) (dd + 1) := ⟨_, rfl⟩
      rw [← hy] at e2 ⊢
      clear hy ove dv
      go_wp2_with fail
      refine ⟨rfl, Gets.done ?_⟩
      rw [HD.out]
      exact m1j ⟨hB.size, r0.below hB, r1.below hB, hown, hn, hp, e2⟩ rfl
end Go.Proofs.Ytneclhkpgalnlaa
namespace Go.Proofs.Ytneclhkpgalnlaa
open Go.ChangeShapes Go.WideShapes Go.ChangeAt Go.RowKit Sm Go.Conc
set_option linter.unusedVariables false
section
variable {s d M : Int} {rs : List Int}
theorem stuck (hs : 0 ≤ s ∧ s ≤ 10000) (hd : 0 < d) (hr : Tame rs) (hM : 1000000000000 ≤ M) {k : Nat} (h0 : (drawAt s rs d M k).1 = 0) : ∀ i, k + i ≤ rs.length → (drawAt s rs d M (k + i)).1 = 0 ∧ (drawAt s rs d M (k + i)).2 = (drawAt s rs d M k).2 := by
  intro i
  induction i with
  | zero => intro _; exact ⟨h0, rfl⟩
  | succ i ih =>
    intro hk
    obtain ⟨a, b⟩ := ih (by omega)
    rw [← Nat.add_assoc, draw_next hs (by omega) hr hM (by omega), if_neg (by omega)]
    exact ⟨rfl, b⟩
theorem paid_iff (hs : 0 ≤ s ∧ s ≤ 10000) (hd : 0 ≤ d) (hr : Tame rs) (hM : 1000000000000 ≤ M) {j : Nat} (hj : j < rs.length) : d ≤ (drawAt s rs d M j).1 ↔ (j : Int) < (drawAt s rs d M rs.length).2 := by
  constructor
  · intro h
    rcases years_form hs hd hr hM j (by omega) with e | ⟨e, e1, _, _⟩
    · have h1 : (drawAt s rs d M (j + 1)).2 = j + 1 := by rw [draw_next hs hd hr hM hj, if_pos h]; dsimp only; omega
      have h2 := (draw_years s rs d M (j + 1) (rs.length - (j + 1))).2
      rw [show j + 1 + (rs.length - (j + 1)) = rs.length from by omega] at h2
      omega
    · omega
  · intro h
    by_cases hp : d ≤ (drawAt s rs d M j).1
    · exact hp
    · exfalso
      have hsm := draw_small hs hd hr hM (k := j) (by omega)
      have h1 : drawAt s rs d M (j + 1) = (0, (drawAt s rs d M j).2) := by rw [draw_next hs hd hr hM hj, if_neg hp]
      have h2 := (stuck (d := d) hs (by omega) hr hM (k := j + 1) (by rw [h1]) (rs.length - (j + 1)) (by omega)).2
      rw [show j + 1 + (rs.length - (j + 1)) = rs.length from by omega, h1] at h2
      dsimp only at h2
      rcases years_form hs hd hr hM j (by omega) with e | ⟨_, _, _, e⟩ <;> omega
theorem drawTo_get {n j : Nat} (h : j < n) : (drawTo s rs d M n)[j]?.getD 0 = (drawAt s rs d M (j + 1)).1 := by simp [drawTo, h]
end
theorem rd_two (w : World) (a b : Int) : Rd (w.alloc (.cells #[.int .i64 a, .int .i64 b] 2 (0, 0))) (w.heap.size + 1) 1 (some ⟨w.heap.size, 0, none⟩) 2 (ints [a, b]) :=
  ⟨rfl, fun _ => ⟨_, rfl, Nat.lt_succ_self _, fun j u hu => by
    rw [add_off, cell_of (al_new _ _)]
    rcases j with _ | _ | j
    · simpa [ints] using hu
    · simpa [ints] using hu
    · simp [ints] at hu⟩⟩
theorem two_ok {pot wk : Int} {rs : List Int} (hp : 0 ≤ pot ∧ pot ≤ 10000) (hr : Tame rs) (h1 : 1 ≤ rs.length) (hw : 1 ≤ wk ∧ wk ≤ 8) : shareOk [pot, 0] rs wk = true ∧ shareR [pot, 0] rs wk = [safeR pot rs, 0] := by
  have h := down_ok (d := 0) hp (by omega) hr h1
  unfold downFull downOk at h
  rw [Bool.and_eq_true, Bool.and_eq_true, Bool.and_eq_true] at h
  have hok : shareOk [pot, 0] rs wk = true := by
    unfold shareOk
    rw [h.1.1.2, inB_iff.2 hw]
    have : cntIn [pot, 0] 1 16 0 1000000000 = true := cntIn_iff.2 ⟨by simp, by simp, by
      unfold allIn
      simp only [List.all_cons, List.all_nil, Bool.and_true]
      rw [inB_iff.2 (by omega : (0 : Int) ≤ pot ∧ pot ≤ 1000000000)]
      rfl⟩
    rw [this]; rfl
  refine ⟨hok, ?_⟩
  unfold shareR
  rw [if_pos hok]
  rfl
end Go.Proofs.Ytneclhkpgalnlaa
namespace Go.Proofs.Ytneclhkpgalnlaa
open Go.ChangeShapes Go.WideShapes Go.ChangeAt Go.RowKit Sm Go.Conc
set_option linter.unusedVariables false
def M1K (H : Nat) (A0 : Option Addr) (n0 c0 : Nat) (z0 : List Int) (A1 : Option Addr) (n1 c1 : Nat) (z1 : List Int) (a : Act) (v : World) : Prop :=
  ∃ (Ad : Option Addr) (n gR cR cd gA : Nat) (pot y15 wk : Int) (x : Nat → Value), M1F H v A0 n0 z0 A1 n1 z1 n gR cR pot y15 ∧ Rd v v.heap.size 1 (some ⟨gA, 0, none⟩) 2 (ints [pot, 0]) ∧ gR < gA ∧ (1 ≤ wk ∧ wk ≤ 8) ∧ a = ⟨#[.slice A0 n0 c0, .slice A1 n1 c1, x 2, x 3, x 4, .int .i64 (n : Nat), .slice (some ⟨gR, 0, none⟩) n cR, x 7, .int .i64 pot, .int .i64 (safeR pot (rsOf z0 n)), .bool true, .slice Ad n cd, .int .i64 n, .bool true, x 14, .int .i64 y15, .bool true, x 17, x 18, x 19, x 20, x 21, x 22, x 23, x 24, x 25, x 26, x 27, x 28, x 29, x 30, x 31, x 32, x 33, x 34, x 35, x 36, x 37, x 38, x 39, x 40, x 41, x 42, x 43, x 44, x 45, x 46, x 47, x 48, x 49, x 50, x 51, x 52, x 53, x 54, x 55, x 56, x 57, x 58, x 59, x 60, x 61, x 62, x 63, x 64, x 65, x 66, x 67, x 68, x 69, x 70, x 71, x 72, .slice (some ⟨gA, 0, none⟩) 2 2, .slice (some ⟨gR, 0, none⟩) n cR, x 75, x 76, .int .i64 wk, x 78, x 79, x 80, x 81, x 82, x 83, x 84, x 85, x 86, x 87, x 88, x 89, x 90, x 91, x 92, x 93, x 94, x 95, x 96, x 97, x 98, x 99, x 100, x 101, x 102, x 103, x 104, x 105, x 106, x 107, x 108, x 109, x 110, x 111, x 112, x 113, x 114, x 115, x 116, x 117, x 118, x 119, x 120, x 121, x 122, x 123, x 124, x 125, x 126, x 127, x 128, x 129, x 130, x 131, x 132, x 133, x 134, x 135, x 136, x 137, x 138, x 139, x 140, x 141, x 142, x 143, x 144, x 145, x 146, x 147, x 148, x 149, x 150, x 151, x 152, x 153, x 154, x 155, x 156, x 157, x 158, x 159, x 160, x 161, x 162, x 163, x 164, x 165, x 166, x 167, x 168, x 169, x 170, x 171, x 172, x 173, x 174, x 175, x 176, x 177, x 178, x 179, x 180, x 181, x 182, x 183, x 184, x 185, x 186, x 187, x 188, x 189, x 190, x 191, x 192, x 193, x 194, x 195, x 196, x 197, x 198, x 199, x 200, x 201, x 202, x 203], []⟩
theorem m1k {H : Nat} {v : World} {A0 A1 Ad : Option Addr} {n0 c0 n1 c1 n gR cR cd gA : Nat} {z0 z1 : List Int} {pot y15 wk : Int} {t : Array Value} (h1 : M1F H v A0 n0 z0 A1 n1 z1 n gR cR pot y15) (h2 : Rd v v.heap.size 1 (some ⟨gA, 0, none⟩) 2 (ints [pot, 0])) (h3 : gR < gA) (h4 : 1 ≤ wk ∧ wk ≤ 8) (h : t = #[.slice A0 n0 c0, .slice A1 n1 c1, t.getD 2 undef, t.getD 3 undef, t.getD 4 undef, .int .i64 (n : Nat), .slice (some ⟨gR, 0, none⟩) n cR, t.getD 7 undef, .int .i64 pot, .int .i64 (safeR pot (rsOf z0 n)), .bool true, .slice Ad n cd, .int .i64 n, .bool true, t.getD 14 undef, .int .i64 y15, .bool true, t.getD 17 undef, t.getD 18 undef, t.getD 19 undef, t.getD 20 undef, t.getD 21 undef, t.getD 22 undef, t.getD 23 undef, t.getD 24 undef, t.getD 25 undef, t.getD 26 undef, t.getD 27 undef, t.getD 28 undef, t.getD 29 undef, t.getD 30 undef, t.getD 31 undef, t.getD 32 undef, t.getD 33 undef, t.getD 34 undef, t.getD 35 undef, t.getD 36 undef, t.getD 37 undef, t.getD 38 undef, t.getD 39 undef, t.getD 40 undef, t.getD 41 undef, t.getD 42 undef, t.getD 43 undef, t.getD 44 undef, t.getD 45 undef, t.getD 46 undef, t.getD 47 undef, t.getD 48 undef, t.getD 49 undef, t.getD 50 undef, t.getD 51 undef, t.getD 52 undef, t.getD 53 undef, t.getD 54 undef, t.getD 55 undef, t.getD 56 undef, t.getD 57 undef, t.getD 58 undef, t.getD 59 undef, t.getD 60 undef, t.getD 61 undef, t.getD 62 undef, t.getD 63 undef, t.getD 64 undef, t.getD 65 undef, t.getD 66 undef, t.getD 67 undef, t.getD 68 undef, t.getD 69 undef, t.getD 70 undef, t.getD 71 undef, t.getD 72 undef, .slice (some ⟨gA, 0, none⟩) 2 2, .slice (some ⟨gR, 0, none⟩) n cR, t.getD 75 undef, t.getD 76 undef, .int .i64 wk, t.getD 78 undef, t.getD 79 undef, t.getD 80 undef, t.getD 81 undef, t.getD 82 undef, t.getD 83 undef, t.getD 84 undef, t.getD 85 undef, t.getD 86 undef, t.getD 87 undef, t.getD 88 undef, t.getD 89 undef, t.getD 90 undef, t.getD 91 undef, t.getD 92 undef, t.getD 93 undef, t.getD 94 undef, t.getD 95 undef, t.getD 96 undef, t.getD 97 undef, t.getD 98 undef, t.getD 99 undef, t.getD 100 undef, t.getD 101 undef, t.getD 102 undef, t.getD 103 undef, t.getD 104 undef, t.getD 105 undef, t.getD 106 undef, t.getD 107 undef, t.getD 108 undef, t.getD 109 undef, t.getD 110 undef, t.getD 111 undef, t.getD 112 undef, t.getD 113 undef, t.getD 114 undef, t.getD 115 undef, t.getD 116 undef, t.getD 117 undef, t.getD 118 undef, t.getD 119 undef, t.getD 120 undef, t.getD 121 undef, t.getD 122 undef, t.getD 123 undef, t.getD 124 undef, t.getD 125 undef, t.getD 126 undef, t.getD 127 undef, t.getD 128 undef, t.getD 129 undef, t.getD 130 undef, t.getD 131 undef, t.getD 132 undef, t.getD 133 undef, t.getD 134 undef, t.getD 135 undef, t.getD 136 undef, t.getD 137 undef, t.getD 138 undef, t.getD 139 undef, t.getD 140 undef, t.getD 141 undef, t.getD 142 undef, t.getD 143 undef, t.getD 144 undef, t.getD 145 undef, t.getD 146 undef, t.getD 147 undef, t.getD 148 undef, t.getD 149 undef, t.getD 150 undef, t.getD 151 undef, t.getD 152 undef, t.getD 153 undef, t.getD 154 undef, t.getD 155 undef, t.getD 156 undef, t.getD 157 undef, t.getD 158 undef, t.getD 159 undef, t.getD 160 undef, t.getD 161 undef, t.getD 162 undef, t.getD 163 undef, t.getD 164 undef, t.getD 165 undef, t.getD 166 undef, t.getD 167 undef, t.getD 168 undef, t.getD 169 undef, t.getD 170 undef, t.getD 171 undef, t.getD 172 undef, t.getD 173 undef, t.getD 174 undef, t.getD 175 undef, t.getD 176 undef, t.getD 177 undef, t.getD 178 undef, t.getD 179 undef, t.getD 180 undef, t.getD 181 undef, t.getD 182 undef, t.getD 183 undef, t.getD 184 undef, t.getD 185 undef, t.getD 186 undef, t.getD 187 undef, t.getD 188 undef, t.getD 189 undef, t.getD 190 undef, t.getD 191 undef, t.getD 192 undef, t.getD 193 undef, t.getD 194 undef, t.getD 195 undef, t.getD 196 undef, t.getD 197 undef, t.getD 198 undef, t.getD 199 undef, t.getD 200 undef, t.getD 201 undef, t.getD 202 undef, t.getD 203 undef]) : M1K H A0 n0 c0 z0 A1 n1 c1 z1 ⟨t, []⟩ v :=
  ⟨Ad, n, gR, cR, cd, gA, pot, y15, wk, fun i => t.getD i undef, h1, h2, h3, h4, congrArg (fun x => (⟨x, []⟩ : Act)) h⟩
set_option maxRecDepth 100000 in
set_option maxHeartbeats 6400000 in
theorem m1_arg {H : Nat} {A0 A1 : Option Addr} {n0 c0 n1 c1 : Nat} {z0 z1 : List Int} {a : Act} {v : World} (hb1 : Byt z1) (h : M1J H A0 n0 c0 z0 A1 n1 c1 z1 a v) (cs : List Frame) :
    ∃ a' v', M1K H A0 n0 c0 z0 A1 n1 c1 z1 a' v' ∧ Steps Try.prog (lone (mB.at a (.code mC9 :: [])) cs v) (lone (mB.at a' (.inRegion (opsOf mP9) [6, 7, 8, 9, 10, 11] :: [.code mC10])) cs v') := by
  obtain ⟨Ad, n, gR, cR, cd, pot, y15, x, hF, rfl⟩ := h
  obtain ⟨hH, r0, r1, o6, hn, hp, hy⟩ := hF
  obtain ⟨a3, u3, hK, hs3⟩ := ops_more (P := Try.prog) (ops := opsOf mP9) (ops2 := opsOf mP9) (K := M1K H A0 n0 c0 z0 A1 n1 c1 z1) (fun _ => rfl) [0, 1, 2, 3, 4, 5] ⟨#[.slice A0 n0 c0, .slice A1 n1 c1, x 2, x 3, x 4, .int .i64 (n : Nat), .slice (some ⟨gR, 0, none⟩) n cR, x 7, .int .i64 pot, .int .i64 (safeR pot (rsOf z0 n)), .bool true, .slice Ad n cd, .int .i64 n, .bool true, x 14, .int .i64 y15, .bool true, x 17, x 18, x 19, x 20, x 21, x 22, x 23, x 24, x 25, x 26, x 27, x 28, x 29, x 30, x 31, x 32, x 33, x 34, x 35, x 36, x 37, x 38, x 39, x 40, x 41, x 42, x 43, x 44, x 45, x 46, x 47, x 48, x 49, x 50, x 51, x 52, x 53, x 54, x 55, x 56, x 57, x 58, x 59, x 60, x 61, x 62, x 63, x 64, x 65, x 66, x 67, x 68, x 69, x 70, x 71, x 72, x 73, x 74, x 75, x 76, x 77, x 78, x 79, x 80, x 81, x 82, x 83, x 84, x 85, x 86, x 87, x 88, x 89, x 90, x 91, x 92, x 93, x 94, x 95, x 96, x 97, x 98, x 99, x 100, x 101, x 102, x 103, x 104, x 105, x 106, x 107, x 108, x 109, x 110, x 111, x 112, x 113, x 114, x 115, x 116, x 117, x 118, x 119, x 120, x 121, x 122, x 123, x 124, x 125, x 126, x 127, x 128, x 129, x 130, x 131, x 132, x 133, x 134, x 135, x 136, x 137, x 138, x 139, x 140, x 141, x 142, x 143, x 144, x 145, x 146, x 147, x 148, x 149, x 150, x 151, x 152, x 153, x 154, x 155, x 156, x 157, x 158, x 159, x 160, x 161, x 162, x 163, x 164, x 165, x 166, x 167, x 168, x 169, x 170, x 171, x 172, x 173, x 174, x 175, x 176, x 177, x 178, x 179, x 180, x 181, x 182, x 183, x 184, x 185, x 186, x 187, x 188, x 189, x 190, x 191, x 192, x 193, x 194, x 195, x 196, x 197, x 198, x 199, x 200, x 201, x 202, x 203], []⟩ v (fun _ _ => rfl) (by
    have hlt := (own_block o6).2
    have hnew := rd_two v pot 0
    have hr1 := (r1.alloc hH (.cells #[.int .i64 pot, .int .i64 0] 2 (0, 0))).more (B' := v.heap.size + 1) (by omega)
    unfold mP9 mC9 mC8 mC7 mC6 mC5 mC4 mC3 mC2 mC1 mC0 Try.f4
    dsimp only [sq1, sq2, opsOf]
    go_wp2_with fail
    refine Or.inl ?_
    go_simp
    refine Or.inl ?_
    go_simp
    refine Or.inl ?_
    go_simp
    refine Or.inl ?_
    go_simp
    refine Or.inl ?_
    go_simp
    refine (r8At_int A1 n1 c1 z1 42 8 _ (by simpa using hr1) hb1 (by omega) (by omega)).mono ?_
    rintro e w5 ⟨rfl, rfl⟩
    have q5 := r8_bd (bs := z1) (i := 42) (m := 8) (by omega)
    obtain ⟨q, hq⟩ : ∃ q, q = r8 z1 42 8 := ⟨_, rfl⟩
    rw [← hq] at q5 ⊢
    clear hq
    have hwr : IntKind.i64.wrap (1 + q) = 1 + q := IntWalk.i64_in _ (by omega)
    go_wp2_with fail
    refine Or.inl ?_
    go_simp
    exact ⟨rfl, m1k ⟨by simp; omega, r0.alloc hH _, r1.alloc hH _, own_on o6 (Below.alloc (Below.refl _ _) (Nat.le_refl _) _), hn, hp, hy⟩ (by simpa using hnew) hlt (by omega) rfl⟩) mB [6, 7, 8, 9, 10, 11] [.code mC10] cs
  refine ⟨a3, u3, hK, ?_⟩
  rw [mc9]
  refine .head step_seq ?_
  rw [show mP9 = .region 13 (opsOf mP9) false from mp9]
  refine .head step_region ?_
  rw [show List.range (opsOf mP9).size = [0, 1, 2, 3, 4, 5] ++ [6, 7, 8, 9, 10, 11] from by rw [mp9_size]; rfl]
  exact hs3
end Go.Proofs.Ytneclhkpgalnlaa
namespace Go.Proofs.Ytneclhkpgalnlaa
open Go.ChangeShapes Go.WideShapes Go.ChangeAt Go.RowKit Sm Go.Conc
set_option linter.unusedVariables false
def MEnd (fr : Frame) : Prop := ∃ t todo, fr = { mB.at ⟨t, []⟩ todo with mode := .returning } ∧ t.getD 4 undef = .bool true
theorem mend_ok {fr : Frame} (h : MEnd fr) : OkFr fr := by
  obtain ⟨t, todo, rfl, _⟩ := h
  exact ⟨rfl, .inr rfl⟩
theorem mqend_of {fr : Frame} {v : World} (h : MEnd fr) : QEnd Try.prog 4 true fr [] v := by
  obtain ⟨t, todo, h1, h2⟩ := h
  exact ⟨rfl, t, todo, Try.f4, 4, h1, by kernel_rfl, by kernel_rfl, h2⟩
def MM (z0 : List Int) (n gR cR : Nat) (pot : Int) (a : Act) (u : World) : Prop :=
  ∃ (Av : Option Addr) (cv : Nat) (yy ee : Int) (x : Nat → Value), Rd u u.heap.size 1 (some ⟨gR, 0, none⟩) n (ints (rsOf z0 n)) ∧ Rd u u.heap.size 1 Av n (ints (drawTo pot (rsOf z0 n) ee 1000000000001 (rsOf z0 n).length)) ∧ (0 ≤ ee ∧ ee ≤ 1275) ∧ yy = (drawAt pot (rsOf z0 n) ee 1000000000000 (rsOf z0 n).length).2 ∧ (0 ≤ yy ∧ yy ≤ n) ∧ a = ⟨#[x 0, x 1, x 2, x 3, x 4, .int .i64 (n : Nat), .slice (some ⟨gR, 0, none⟩) n cR, x 7, .int .i64 pot, x 9, x 10, x 11, x 12, x 13, x 14, x 15, x 16, x 17, x 18, .int .i64 ee, .slice Av n cv, .int .i64 yy, x 22, x 23, x 24, x 25, x 26, x 27, x 28, x 29, x 30, x 31, x 32, x 33, x 34, x 35, x 36, x 37, x 38, x 39, x 40, x 41, x 42, x 43, x 44, x 45, x 46, x 47, x 48, x 49, x 50, x 51, x 52, x 53, x 54, x 55, x 56, x 57, x 58, x 59, x 60, x 61, x 62, x 63, x 64, x 65, x 66, x 67, x 68, x 69, x 70, x 71, x 72, x 73, x 74, x 75, x 76, x 77, x 78, x 79, x 80, x 81, x 82, x 83, x 84, x 85, x 86, x 87, x 88, x 89, x 90, x 91, x 92, x 93, x 94, x 95, x 96, x 97, x 98, x 99, x 100, x 101, x 102, x 103, x 104, x 105, x 106, x 107, x 108, x 109, x 110, x 111, x 112, x 113, x 114, x 115, x 116, x 117, x 118, x 119, x 120, x 121, x 122, x 123, x 124, x 125, x 126, x 127, x 128, x 129, x 130, x 131, x 132, x 133, x 134, x 135, x 136, x 137, x 138, x 139, x 140, x 141, x 142, x 143, x 144, x 145, x 146, x 147, x 148, x 149, x 150, x 151, x 152, x 153, x 154, x 155, x 156, x 157, x 158, x 159, x 160, x 161, x 162, x 163, x 164, x 165, x 166, x 167, x 168, x 169, x 170, x 171, x 172, x 173, x 174, x 175, x 176, x 177, x 178, x 179, x 180, x 181, x 182, x 183, x 184, x 185, x 186, x 187, x 188, x 189, x 190, x 191, x 192, x 193, x 194, x 195, x 196, x 197, x 198, x 199, x 200, x 201, x 202, x 203], []⟩
theorem mm {z0 : List Int} {n gR cR cv : Nat} {Av : Option Addr} {pot yy ee : Int} {t : Array Value} {u : World} (h1 : Rd u u.heap.size 1 (some ⟨gR, 0, none⟩) n (ints (rsOf z0 n))) (h2 : Rd u u.heap.size 1 Av n (ints (drawTo pot (rsOf z0 n) ee 1000000000001 (rsOf z0 n).length))) (h3 : 0 ≤ ee ∧ ee ≤ 1275) (h4 : yy = (drawAt pot (rsOf z0 n) ee 1000000000000 (rsOf z0 n).length).2) (h5 : 0 ≤ yy ∧ yy ≤ n) (h : t = #[t.getD 0 undef, t.getD 1 undef, t.getD 2 undef, t.getD 3 undef, t.getD 4 undef, .int .i64 (n : Nat), .slice (some ⟨gR, 0, none⟩) n cR, t.getD 7 undef, .int .i64 pot, t.getD 9 undef, t.getD 10 undef, t.getD 11 undef, t.getD 12 undef, t.getD 13 undef, t.getD 14 undef, t.getD 15 undef, t.getD 16 undef, t.getD 17 undef, t.getD 18 undef, .int .i64 ee, .slice Av n cv, .int .i64 yy, t.getD 22 undef, t.getD 23 undef, t.getD 24 undef, t.getD 25 undef, t.getD 26 undef, t.getD 27 undef, t.getD 28 undef, t.getD 29 undef, t.getD 30 undef, t.getD 31 undef, t.getD 32 undef, t.getD 33 undef, t.getD 34 undef, t.getD 35 undef, t.getD 36 undef, t.getD 37 undef, t.getD 38 undef, t.getD 39 undef, t.getD 40 undef, t.getD 41 undef, t.getD 42 undef, t.getD 43 undef, t.getD 44 undef, t.getD 45 undef, t.getD 46 undef, t.getD 47 undef, t.getD 48 undef, t.getD 49 undef, t.getD 50 undef, t.getD 51 undef, t.getD 52 undef, t.getD 53 undef, t.getD 54 undef, t.getD 55 undef, t.getD 56 undef, t.getD 57 undef, t.getD 58 undef, t.getD 59 undef, t.getD 60 undef, t.getD 61 undef, t.getD 62 undef, t.getD 63 undef, t.getD 64 undef, t.getD 65 undef, t.getD 66 undef, t.getD 67 undef, t.getD 68 undef, t.getD 69 undef, t.getD 70 undef, t.getD 71 undef, t.getD 72 undef, t.getD 73 undef, t.getD 74 undef, t.getD 75 undef, t.getD 76 undef, t.getD 77 undef, t.getD 78 undef, t.getD 79 undef, t.getD 80 undef, t.getD 81 undef, t.getD 82 undef, t.getD 83 undef, t.getD 84 undef, t.getD 85 undef, t.getD 86 undef, t.getD 87 undef, t.getD 88 undef, t.getD 89 undef, t.getD 90 undef, t.getD 91 undef, t.getD 92 undef, t.getD 93 undef, t.getD 94 undef, t.getD 95 undef, t.getD 96 undef, t.getD 97 undef, t.getD 98 undef, t.getD 99 undef, t.getD 100 undef, t.getD 101 undef, t.getD 102 undef, t.getD 103 undef, t.getD 104 undef, t.getD 105 undef, t.getD 106 undef, t.getD 107 undef, t.getD 108 undef, t.getD 109 undef, t.getD 110 undef, t.getD 111 undef, t.getD 112 undef, t.getD 113 undef, t.getD 114 undef, t.getD 115 undef, t.getD 116 undef, t.getD 117 undef, t.getD 118 undef, t.getD 119 undef, t.getD 120 undef, t.getD 121 undef, t.getD 122 undef, t.getD 123 undef, t.getD 124 undef, t.getD 125 undef, t.getD 126 undef, t.getD 127 undef, t.getD 128 undef, t.getD 129 undef, t.getD 130 undef, t.getD 131 undef, t.getD 132 undef, t.getD 133 undef, t.getD 134 undef, t.getD 135 undef, t.getD 136 undef, t.getD 137 undef, t.getD 138 undef, t.getD 139 undef, t.getD 140 undef, t.getD 141 undef, t.getD 142 undef, t.getD 143 undef, t.getD 144 undef, t.getD 145 undef, t.getD 146 undef, t.getD 147 undef, t.getD 148 undef, t.getD 149 undef, t.getD 150 undef, t.getD 151 undef, t.getD 152 undef, t.getD 153 undef, t.getD 154 undef, t.getD 155 undef, t.getD 156 undef, t.getD 157 undef, t.getD 158 undef, t.getD 159 undef, t.getD 160 undef, t.getD 161 undef, t.getD 162 undef, t.getD 163 undef, t.getD 164 undef, t.getD 165 undef, t.getD 166 undef, t.getD 167 undef, t.getD 168 undef, t.getD 169 undef, t.getD 170 undef, t.getD 171 undef, t.getD 172 undef, t.getD 173 undef, t.getD 174 undef, t.getD 175 undef, t.getD 176 undef, t.getD 177 undef, t.getD 178 undef, t.getD 179 undef, t.getD 180 undef, t.getD 181 undef, t.getD 182 undef, t.getD 183 undef, t.getD 184 undef, t.getD 185 undef, t.getD 186 undef, t.getD 187 undef, t.getD 188 undef, t.getD 189 undef, t.getD 190 undef, t.getD 191 undef, t.getD 192 undef, t.getD 193 undef, t.getD 194 undef, t.getD 195 undef, t.getD 196 undef, t.getD 197 undef, t.getD 198 undef, t.getD 199 undef, t.getD 200 undef, t.getD 201 undef, t.getD 202 undef, t.getD 203 undef]) : MM z0 n gR cR pot ⟨t, []⟩ u :=
  ⟨Av, cv, yy, ee, fun i => t.getD i undef, h1, h2, h3, h4, h5, congrArg (fun x => (⟨x, []⟩ : Act)) h⟩
theorem mend_any {t : Array Value} (h : t = #[t.getD 0 undef, t.getD 1 undef, t.getD 2 undef, t.getD 3 undef, t.getD 4 undef, t.getD 5 undef, t.getD 6 undef, t.getD 7 undef, t.getD 8 undef, t.getD 9 undef, t.getD 10 undef, t.getD 11 undef, t.getD 12 undef, t.getD 13 undef, t.getD 14 undef, t.getD 15 undef, t.getD 16 undef, t.getD 17 undef, t.getD 18 undef, t.getD 19 undef, t.getD 20 undef, t.getD 21 undef, t.getD 22 undef, t.getD 23 undef, t.getD 24 undef, t.getD 25 undef, t.getD 26 undef, t.getD 27 undef, t.getD 28 undef, t.getD 29 undef, t.getD 30 undef, t.getD 31 undef, t.getD 32 undef, t.getD 33 undef, t.getD 34 undef, t.getD 35 undef, t.getD 36 undef, t.getD 37 undef, t.getD 38 undef, t.getD 39 undef, t.getD 40 undef, t.getD 41 undef, t.getD 42 undef, t.getD 43 undef, t.getD 44 undef, t.getD 45 undef, t.getD 46 undef, t.getD 47 undef, t.getD 48 undef, t.getD 49 undef, t.getD 50 undef, t.getD 51 undef, t.getD 52 undef, t.getD 53 undef, t.getD 54 undef, t.getD 55 undef, t.getD 56 undef, t.getD 57 undef, t.getD 58 undef, t.getD 59 undef, t.getD 60 undef, t.getD 61 undef, t.getD 62 undef, t.getD 63 undef, t.getD 64 undef, t.getD 65 undef, t.getD 66 undef, t.getD 67 undef, t.getD 68 undef, t.getD 69 undef, t.getD 70 undef, t.getD 71 undef, t.getD 72 undef, t.getD 73 undef, t.getD 74 undef, t.getD 75 undef, t.getD 76 undef, t.getD 77 undef, t.getD 78 undef, t.getD 79 undef, t.getD 80 undef, t.getD 81 undef, t.getD 82 undef, t.getD 83 undef, t.getD 84 undef, t.getD 85 undef, t.getD 86 undef, t.getD 87 undef, t.getD 88 undef, t.getD 89 undef, t.getD 90 undef, t.getD 91 undef, t.getD 92 undef, t.getD 93 undef, t.getD 94 undef, t.getD 95 undef, t.getD 96 undef, t.getD 97 undef, t.getD 98 undef, t.getD 99 undef, t.getD 100 undef, t.getD 101 undef, t.getD 102 undef, t.getD 103 undef, t.getD 104 undef, t.getD 105 undef, t.getD 106 undef, t.getD 107 undef, t.getD 108 undef, t.getD 109 undef, t.getD 110 undef, t.getD 111 undef, t.getD 112 undef, t.getD 113 undef, t.getD 114 undef, t.getD 115 undef, t.getD 116 undef, t.getD 117 undef, t.getD 118 undef, t.getD 119 undef, t.getD 120 undef, t.getD 121 undef, t.getD 122 undef, t.getD 123 undef, t.getD 124 undef, t.getD 125 undef, t.getD 126 undef, t.getD 127 undef, t.getD 128 undef, t.getD 129 undef, t.getD 130 undef, t.getD 131 undef, t.getD 132 undef, t.getD 133 undef, t.getD 134 undef, t.getD 135 undef, t.getD 136 undef, t.getD 137 undef, t.getD 138 undef, t.getD 139 undef, t.getD 140 undef, t.getD 141 undef, t.getD 142 undef, t.getD 143 undef, t.getD 144 undef, t.getD 145 undef, t.getD 146 undef, t.getD 147 undef, t.getD 148 undef, t.getD 149 undef, t.getD 150 undef, t.getD 151 undef, t.getD 152 undef, t.getD 153 undef, t.getD 154 undef, t.getD 155 undef, t.getD 156 undef, t.getD 157 undef, t.getD 158 undef, t.getD 159 undef, t.getD 160 undef, t.getD 161 undef, t.getD 162 undef, t.getD 163 undef, t.getD 164 undef, t.getD 165 undef, t.getD 166 undef, t.getD 167 undef, t.getD 168 undef, t.getD 169 undef, t.getD 170 undef, t.getD 171 undef, t.getD 172 undef, t.getD 173 undef, t.getD 174 undef, t.getD 175 undef, t.getD 176 undef, t.getD 177 undef, t.getD 178 undef, t.getD 179 undef, t.getD 180 undef, t.getD 181 undef, t.getD 182 undef, t.getD 183 undef, t.getD 184 undef, t.getD 185 undef, t.getD 186 undef, t.getD 187 undef, t.getD 188 undef, t.getD 189 undef, t.getD 190 undef, t.getD 191 undef, t.getD 192 undef, t.getD 193 undef, t.getD 194 undef, t.getD 195 undef, t.getD 196 undef, t.getD 197 undef, t.getD 198 undef, t.getD 199 undef, t.getD 200 undef, t.getD 201 undef, t.getD 202 undef, t.getD 203 undef]) : ∃ x : Nat → Value, (⟨t, []⟩ : Act) = ⟨#[x 0, x 1, x 2, x 3, x 4, x 5, x 6, x 7, x 8, x 9, x 10, x 11, x 12, x 13, x 14, x 15, x 16, x 17, x 18, x 19, x 20, x 21, x 22, x 23, x 24, x 25, x 26, x 27, x 28, x 29, x 30, x 31, x 32, x 33, x 34, x 35, x 36, x 37, x 38, x 39, x 40, x 41, x 42, x 43, x 44, x 45, x 46, x 47, x 48, x 49, x 50, x 51, x 52, x 53, x 54, x 55, x 56, x 57, x 58, x 59, x 60, x 61, x 62, x 63, x 64, x 65, x 66, x 67, x 68, x 69, x 70, x 71, x 72, x 73, x 74, x 75, x 76, x 77, x 78, x 79, x 80, x 81, x 82, x 83, x 84, x 85, x 86, x 87, x 88, x 89, x 90, x 91, x 92, x 93, x 94, x 95, x 96, x 97, x 98, x 99, x 100, x 101, x 102, x 103, x 104, x 105, x 106, x 107, x 108, x 109, x 110, x 111, x 112, x 113, x 114, x 115, x 116, x 117, x 118, x 119, x 120, x 121, x 122, x 123, x 124, x 125, x 126, x 127, x 128, x 129, x 130, x 131, x 132, x 133, x 134, x 135, x 136, x 137, x 138, x 139, x 140, x 141, x 142, x 143, x 144, x 145, x 146, x 147, x 148, x 149, x 150, x 151, x 152, x 153, x 154, x 155, x 156, x 157, x 158, x 159, x 160, x 161, x 162, x 163, x 164, x 165, x 166, x 167, x 168, x 169, x 170, x 171, x 172, x 173, x 174, x 175, x 176, x 177, x 178, x 179, x 180, x 181, x 182, x 183, x 184, x 185, x 186, x 187, x 188, x 189, x 190, x 191, x 192, x 193, x 194, x 195, x 196, x 197, x 198, x 199, x 200, x 201, x 202, x 203], []⟩ := ⟨fun i => t.getD i undef, congrArg (fun x => (⟨x, []⟩ : Act)) h⟩
set_option maxRecDepth 100000 in
set_option maxHeartbeats 12800000 in
theorem m1_end (A0 A1 Ad : Option Addr) (n0 c0 n1 c1 n gR cR cd gA c17 g17 : Nat) (z0 z1 : List Int) (pot y15 wk : Int) (x : Nat → Value) (W : World) (r1 : Rd W W.heap.size 1 A1 n1 (byts z1)) (hb1 : Byt z1) (r6 : Rd W W.heap.size 1 (some ⟨gR, 0, none⟩) n (ints (rsOf z0 n))) (hn : 1 ≤ n ∧ n ≤ 10) (hp : 0 ≤ pot ∧ pot ≤ 10000) (hy : y15 < n)
    (r17 : Rd W W.heap.size 1 (some ⟨g17, 0, none⟩) 2 (ints [safeR pot (rsOf z0 n), 0])) (cs : List Frame) :
    ∃ fr w', MEnd fr ∧ Steps Try.prog (lone (mB.at ⟨#[.slice A0 n0 c0, .slice A1 n1 c1, x 2, x 3, x 4, .int .i64 (n : Nat), .slice (some ⟨gR, 0, none⟩) n cR, x 7, .int .i64 pot, .int .i64 (safeR pot (rsOf z0 n)), .bool true, .slice Ad n cd, .int .i64 n, .bool true, x 14, .int .i64 y15, .bool true, x 17, x 18, x 19, x 20, x 21, x 22, x 23, x 24, x 25, x 26, x 27, x 28, x 29, x 30, x 31, x 32, x 33, x 34, x 35, x 36, x 37, x 38, x 39, x 40, x 41, x 42, x 43, x 44, x 45, x 46, x 47, x 48, x 49, x 50, x 51, x 52, x 53, x 54, x 55, x 56, x 57, x 58, x 59, x 60, x 61, x 62, x 63, x 64, x 65, x 66, x 67, x 68, x 69, x 70, x 71, x 72, .slice (some ⟨gA, 0, none⟩) 2 2, .slice (some ⟨gR, 0, none⟩) n cR, x 75, x 76, .int .i64 wk, .tuple #[.slice (some ⟨g17, 0, none⟩) 2 c17, .bool true], x 79, x 80, x 81, x 82, x 83, x 84, x 85, x 86, x 87, x 88, x 89, x 90, x 91, x 92, x 93, x 94, x 95, x 96, x 97, x 98, x 99, x 100, x 101, x 102, x 103, x 104, x 105, x 106, x 107, x 108, x 109, x 110, x 111, x 112, x 113, x 114, x 115, x 116, x 117, x 118, x 119, x 120, x 121, x 122, x 123, x 124, x 125, x 126, x 127, x 128, x 129, x 130, x 131, x 132, x 133, x 134, x 135, x 136, x 137, x 138, x 139, x 140, x 141, x 142, x 143, x 144, x 145, x 146, x 147, x 148, x 149, x 150, x 151, x 152, x 153, x 154, x 155, x 156, x 157, x 158, x 159, x 160, x 161, x 162, x 163, x 164, x 165, x 166, x 167, x 168, x 169, x 170, x 171, x 172, x 173, x 174, x 175, x 176, x 177, x 178, x 179, x 180, x 181, x 182, x 183, x 184, x 185, x 186, x 187, x 188, x 189, x 190, x 191, x 192, x 193, x 194, x 195, x 196, x 197, x 198, x 199, x 200, x 201, x 202, x 203], []⟩ (.inRegion (opsOf mP9) [7, 8, 9, 10, 11] :: [.code mC10])) cs W) (lone fr cs w') := by
  have htame := Lib.hid (rsOf_tame (a := z0) hn.2)
  have hrl := Lib.hid (rsOf_length z0 n)
  have h1' : 1 ≤ (rsOf z0 n).length := by rw [hrl.out]; omega
  have hst := Lib.hid (steady hp htame.out h1')
  have H1 := Lib.hid h1'
  clear h1'
  obtain ⟨dd, hdd⟩ : ∃ dd, dd = safeR pot (rsOf z0 n) := ⟨_, rfl⟩
  rw [← hdd] at r17 ⊢
  have hd0 : 0 ≤ dd ∧ dd ≤ pot := by rw [hdd]; exact ⟨hst.out.1, hst.out.2.1⟩
  have HD := Lib.hid hdd
  clear hdd
  have hB : Below W.heap.size W W := Below.refl _ _
  obtain ⟨a1, w1, ⟨rfl, rfl⟩, hs1⟩ := ops_more (P := Try.prog) (ops := opsOf mP9) (ops2 := opsOf mP9) (K := fun a u => a = ⟨#[.slice A0 n0 c0, .slice A1 n1 c1, x 2, x 3, x 4, .int .i64 (n : Nat), .slice (some ⟨gR, 0, none⟩) n cR, x 7, .int .i64 pot, .int .i64 dd, .bool true, .slice Ad n cd, .int .i64 n, .bool true, x 14, .int .i64 y15, .bool true, .slice (some ⟨g17, 0, none⟩) 2 c17, .bool true, x 19, x 20, x 21, x 22, x 23, x 24, x 25, x 26, x 27, x 28, x 29, x 30, x 31, x 32, x 33, x 34, x 35, x 36, x 37, x 38, x 39, x 40, x 41, x 42, x 43, x 44, x 45, x 46, x 47, x 48, x 49, x 50, x 51, x 52, x 53, x 54, x 55, x 56, x 57, x 58, x 59, x 60, x 61, x 62, x 63, x 64, x 65, x 66, x 67, x 68, x 69, x 70, .tuple #[.slice (some ⟨g17, 0, none⟩) 2 c17, .bool true], x 72, .slice (some ⟨gA, 0, none⟩) 2 2, .slice (some ⟨gR, 0, none⟩) n cR, x 75, x 76, .int .i64 wk, .tuple #[.slice (some ⟨g17, 0, none⟩) 2 c17, .bool true], .slice (some ⟨g17, 0, none⟩) 2 c17, .bool true, x 81, x 82, x 83, x 84, x 85, x 86, x 87, x 88, x 89, x 90, x 91, x 92, x 93, x 94, x 95, x 96, x 97, x 98, x 99, x 100, x 101, x 102, x 103, x 104, x 105, x 106, x 107, x 108, x 109, x 110, x 111, x 112, x 113, x 114, x 115, x 116, x 117, x 118, x 119, x 120, x 121, x 122, x 123, x 124, x 125, x 126, x 127, x 128, x 129, x 130, x 131, x 132, x 133, x 134, x 135, x 136, x 137, x 138, x 139, x 140, x 141, x 142, x 143, x 144, x 145, x 146, x 147, x 148, x 149, x 150, x 151, x 152, x 153, x 154, x 155, x 156, x 157, x 158, x 159, x 160, x 161, x 162, x 163, x 164, x 165, x 166, x 167, x 168, x 169, x 170, x 171, x 172, x 173, x 174, x 175, x 176, x 177, x 178, x 179, x 180, x 181, x 182, x 183, x 184, x 185, x 186, x 187, x 188, x 189, x 190, x 191, x 192, x 193, x 194, x 195, x 196, x 197, x 198, x 199, x 200, x 201, x 202, x 203], []⟩ ∧ u = W) (fun _ => rfl) [7, 8, 9, 10, 11] ⟨#[.slice A0 n0 c0, .slice A1 n1 c1, x 2, x 3, x 4, .int .i64 (n : Nat), .slice (some ⟨gR, 0, none⟩) n cR, x 7, .int .i64 pot, .int .i64 dd, .bool true, .slice Ad n cd, .int .i64 n, .bool true, x 14, .int .i64 y15, .bool true, x 17, x 18, x 19, x 20, x 21, x 22, x 23, x 24, x 25, x 26, x 27, x 28, x 29, x 30, x 31, x 32, x 33, x 34, x 35, x 36, x 37, x 38, x 39, x 40, x 41, x 42, x 43, x 44, x 45, x 46, x 47, x 48, x 49, x 50, x 51, x 52, x 53, x 54, x 55, x 56, x 57, x 58, x 59, x 60, x 61, x 62, x 63, x 64, x 65, x 66, x 67, x 68, x 69, x 70, x 71, x 72, .slice (some ⟨gA, 0, none⟩) 2 2, .slice (some ⟨gR, 0, none⟩) n cR, x 75, x 76, .int .i64 wk, .tuple #[.slice (some ⟨g17, 0, none⟩) 2 c17, .bool true], x 79, x 80, x 81, x 82, x 83, x 84, x 85, x 86, x 87, x 88, x 89, x 90, x 91, x 92, x 93, x 94, x 95, x 96, x 97, x 98, x 99, x 100, x 101, x 102, x 103, x 104, x 105, x 106, x 107, x 108, x 109, x 110, x 111, x 112, x 113, x 114, x 115, x 116, x 117, x 118, x 119, x 120, x 121, x 122, x 123, x 124, x 125, x 126, x 127, x 128, x 129, x 130, x 131, x 132, x 133, x 134, x 135, x 136, x 137, x 138, x 139, x 140, x 141, x 142, x 143, x 144, x 145, x 146, x 147, x 148, x 149, x 150, x 151, x 152, x 153, x 154, x 155, x 156, x 157, x 158, x 159, x 160, x 161, x 162, x 163, x 164, x 165, x 166, x 167, x 168, x 169, x 170, x 171, x 172, x 173, x 174, x 175, x 176, x 177, x 178, x 179, x 180, x 181, x 182, x 183, x 184, x 185, x 186, x 187, x 188, x 189, x 190, x 191, x 192, x 193, x 194, x 195, x 196, x 197, x 198, x 199, x 200, x 201, x 202, x 203], []⟩ W (fun _ _ => rfl) (by
    unfold mP9 mC9 mC8 mC7 mC6 mC5 mC4 mC3 mC2 mC1 mC0 Try.f4
    dsimp only [sq1, sq2, opsOf]
    go_wp2_with fail
    refine Or.inl ?_
    go_simp
    refine Or.inl ?_
    go_simp
    refine Or.inl ?_
    go_simp
    refine Or.inl ?_
    go_simp
    refine Or.inl ?_
    go_simp
    exact ⟨rfl, rfl, rfl⟩) mB [] [.code mC10] cs
  have hc0 : w1.cell? ⟨g17, 0, none⟩ = some (.int .i64 dd) := by
    obtain ⟨ad, e, hc⟩ := r17.int (k := 0) (by omega)
    cases e
    rw [add_off] at hc; exact hc
  have hc1 : w1.cell? ⟨g17, 1, none⟩ = some (.int .i64 0) := by
    obtain ⟨ad, e, hc⟩ := r17.int (k := 1) (by omega)
    cases e
    rw [add_off] at hc; exact hc
  have key : Gets Try.prog mC10 mC14 mB [] cs (MM z0 n gR cR pot) ⟨#[.slice A0 n0 c0, .slice A1 n1 c1, x 2, x 3, x 4, .int .i64 (n : Nat), .slice (some ⟨gR, 0, none⟩) n cR, x 7, .int .i64 pot, .int .i64 dd, .bool true, .slice Ad n cd, .int .i64 n, .bool true, x 14, .int .i64 y15, .bool true, .slice (some ⟨g17, 0, none⟩) 2 c17, .bool true, x 19, x 20, x 21, x 22, x 23, x 24, x 25, x 26, x 27, x 28, x 29, x 30, x 31, x 32, x 33, x 34, x 35, x 36, x 37, x 38, x 39, x 40, x 41, x 42, x 43, x 44, x 45, x 46, x 47, x 48, x 49, x 50, x 51, x 52, x 53, x 54, x 55, x 56, x 57, x 58, x 59, x 60, x 61, x 62, x 63, x 64, x 65, x 66, x 67, x 68, x 69, x 70, .tuple #[.slice (some ⟨g17, 0, none⟩) 2 c17, .bool true], x 72, .slice (some ⟨gA, 0, none⟩) 2 2, .slice (some ⟨gR, 0, none⟩) n cR, x 75, x 76, .int .i64 wk, .tuple #[.slice (some ⟨g17, 0, none⟩) 2 c17, .bool true], .slice (some ⟨g17, 0, none⟩) 2 c17, .bool true, x 81, x 82, x 83, x 84, x 85, x 86, x 87, x 88, x 89, x 90, x 91, x 92, x 93, x 94, x 95, x 96, x 97, x 98, x 99, x 100, x 101, x 102, x 103, x 104, x 105, x 106, x 107, x 108, x 109, x 110, x 111, x 112, x 113, x 114, x 115, x 116, x 117, x 118, x 119, x 120, x 121, x 122, x 123, x 124, x 125, x 126, x 127, x 128, x 129, x 130, x 131, x 132, x 133, x 134, x 135, x 136, x 137, x 138, x 139, x 140, x 141, x 142, x 143, x 144, x 145, x 146, x 147, x 148, x 149, x 150, x 151, x 152, x 153, x 154, x 155, x 156, x 157, x 158, x 159, x 160, x 161, x 162, x 163, x 164, x 165, x 166, x 167, x 168, x 169, x 170, x 171, x 172, x 173, x 174, x 175, x 176, x 177, x 178, x 179, x 180, x 181, x 182, x 183, x 184, x 185, x 186, x 187, x 188, x 189, x 190, x 191, x 192, x 193, x 194, x 195, x 196, x 197, x 198, x 199, x 200, x 201, x 202, x 203], []⟩ w1 := by
    refine Gets.step mc10 ?_
    unfold mP10 mC10 mC9 mC8 mC7 mC6 mC5 mC4 mC3 mC2 mC1 mC0 Try.f4
    dsimp only [sq1, sq2]
    go_wp2_with fail
    refine ⟨rfl, ?_⟩
    refine Gets.step mc11 ?_
    unfold mP11 mC11 mC10 mC9 mC8 mC7 mC6 mC5 mC4 mC3 mC2 mC1 mC0 Try.f4
    dsimp only [sq1, sq2]
    go_wp2_with fail
    refine (r8At_int A1 n1 c1 z1 43 256 _ ((r1.below hB).more hB.size) hb1 (by omega) (by omega)).mono ?_
    rintro e w5 ⟨rfl, rfl⟩
    have q5 := r8_bd (bs := z1) (i := 43) (m := 256) (by omega)
    obtain ⟨q, hq⟩ : ∃ q, q = r8 z1 43 256 := ⟨_, rfl⟩
    rw [← hq] at q5 ⊢
    clear hq
    go_wp2_with fail
    obtain ⟨ee, he⟩ : ∃ ee, ee = q * 5 := ⟨_, rfl⟩
    rw [← he]
    have heb : 0 ≤ ee ∧ ee ≤ 1275 := by omega
    clear he q5
    refine ⟨rfl, ?_⟩
    refine Gets.step mc12 ?_
    unfold mP12 mC12 mC11 mC10 mC9 mC8 mC7 mC6 mC5 mC4 mC3 mC2 mC1 mC0 Try.f4
    dsimp only [sq1, sq2]
    go_wp2_with fail
    refine (impl_DrawDown pot _ _ _ (rsOf z0 n) ee _ (by omega) ((r6.below hB).more hB.size) (by omega) (tame_i64 htame.out) (by omega)).mono ?_
    rintro e w7 ⟨vv, rfl, ov, hb⟩
    have dv := Lib.hid (down_vals (d := ee) hp (by omega) htame.out H1.out)
    have e1 : (DrawDown_r0 pot (rsOf z0 n) ee).length = n := by rw [dv.out.1, drawTo_length, hrl.out]
    rw [e1, dv.out.1] at ov
    replace hB := below_step hB hb
    clear hb e1
    obtain ⟨Av, cv, rfl, _⟩ := own_form ov
    have rv := Rd.of_own ov
    clear ov
    rw [dv.out.2.2]
    have hfull := down_full hp (by omega : 0 ≤ ee ∧ ee ≤ 1000000) htame.out H1.out
    have hless := down_less hp (by omega : 0 ≤ ee ∧ ee ≤ 1000000) htame.out H1.out
    have hyd := dv.out.2.1
    obtain ⟨yy, hyy⟩ : ∃ yy, yy = DrawDown_r1 pot (rsOf z0 n) ee := ⟨_, rfl⟩
    rw [← hyy] at hyd hfull hless ⊢
    rw [hrl.out] at hfull hless
    have HYD := Lib.hid hyd
    have hlast := hst.out.2.2 ee heb.1
    rw [← HD.out] at hlast
    have hyb : (ee ≤ dd ∧ yy = n) ∨ (dd < ee ∧ 0 ≤ yy ∧ yy < n) := by
      by_cases hc : ee ≤ dd
      · exact .inl ⟨hc, hfull (by rw [hlast]; simp [hc])⟩
      · have := hless (by rw [hlast]; simp; omega)
        exact .inr ⟨by omega, this⟩
    clear hyy hyd hfull hless dv hlast
    go_wp2_with fail
    refine ⟨rfl, ?_⟩
    refine Gets.step mc13 ?_
    unfold mP13 mC13 mC12 mC11 mC10 mC9 mC8 mC7 mC6 mC5 mC4 mC3 mC2 mC1 mC0 Try.f4
    dsimp only [sq1, sq2]
    rcases hyb with ⟨y1, y2⟩ | ⟨y1, y2, y3⟩
    · subst y2
      go_wp2_with fail
      refine ⟨rfl, Gets.done ?_⟩
      exact mm ((r6.below hB).more hB.size) rv heb HYD.out (by omega) rfl
    · have hyn := beq_eq_false_iff_ne.2 (show yy ≠ (n : Int) by omega)
      have hed := decide_eq_false (show ¬ ee ≤ dd by omega)
      go_wp2_with fail
      refine ⟨rfl, Gets.done ?_⟩
      exact mm ((r6.below hB).more hB.size) rv heb HYD.out (by omega) rfl
  obtain ⟨a2, u, ⟨Av, cv, yy, ee, y, R6, RV, heb, hyd, hyb, rfl⟩, hs2⟩ := key
  have key2 : Gets Try.prog mC14 mC16 mB [] cs (fun a u => ∃ x : Nat → Value, a = ⟨#[x 0, x 1, x 2, x 3, x 4, x 5, x 6, x 7, x 8, x 9, x 10, x 11, x 12, x 13, x 14, x 15, x 16, x 17, x 18, x 19, x 20, x 21, x 22, x 23, x 24, x 25, x 26, x 27, x 28, x 29, x 30, x 31, x 32, x 33, x 34, x 35, x 36, x 37, x 38, x 39, x 40, x 41, x 42, x 43, x 44, x 45, x 46, x 47, x 48, x 49, x 50, x 51, x 52, x 53, x 54, x 55, x 56, x 57, x 58, x 59, x 60, x 61, x 62, x 63, x 64, x 65, x 66, x 67, x 68, x 69, x 70, x 71, x 72, x 73, x 74, x 75, x 76, x 77, x 78, x 79, x 80, x 81, x 82, x 83, x 84, x 85, x 86, x 87, x 88, x 89, x 90, x 91, x 92, x 93, x 94, x 95, x 96, x 97, x 98, x 99, x 100, x 101, x 102, x 103, x 104, x 105, x 106, x 107, x 108, x 109, x 110, x 111, x 112, x 113, x 114, x 115, x 116, x 117, x 118, x 119, x 120, x 121, x 122, x 123, x 124, x 125, x 126, x 127, x 128, x 129, x 130, x 131, x 132, x 133, x 134, x 135, x 136, x 137, x 138, x 139, x 140, x 141, x 142, x 143, x 144, x 145, x 146, x 147, x 148, x 149, x 150, x 151, x 152, x 153, x 154, x 155, x 156, x 157, x 158, x 159, x 160, x 161, x 162, x 163, x 164, x 165, x 166, x 167, x 168, x 169, x 170, x 171, x 172, x 173, x 174, x 175, x 176, x 177, x 178, x 179, x 180, x 181, x 182, x 183, x 184, x 185, x 186, x 187, x 188, x 189, x 190, x 191, x 192, x 193, x 194, x 195, x 196, x 197, x 198, x 199, x 200, x 201, x 202, x 203], []⟩) ⟨#[y 0, y 1, y 2, y 3, y 4, .int .i64 (n : Nat), .slice (some ⟨gR, 0, none⟩) n cR, y 7, .int .i64 pot, y 9, y 10, y 11, y 12, y 13, y 14, y 15, y 16, y 17, y 18, .int .i64 ee, .slice Av n cv, .int .i64 yy, y 22, y 23, y 24, y 25, y 26, y 27, y 28, y 29, y 30, y 31, y 32, y 33, y 34, y 35, y 36, y 37, y 38, y 39, y 40, y 41, y 42, y 43, y 44, y 45, y 46, y 47, y 48, y 49, y 50, y 51, y 52, y 53, y 54, y 55, y 56, y 57, y 58, y 59, y 60, y 61, y 62, y 63, y 64, y 65, y 66, y 67, y 68, y 69, y 70, y 71, y 72, y 73, y 74, y 75, y 76, y 77, y 78, y 79, y 80, y 81, y 82, y 83, y 84, y 85, y 86, y 87, y 88, y 89, y 90, y 91, y 92, y 93, y 94, y 95, y 96, y 97, y 98, y 99, y 100, y 101, y 102, y 103, y 104, y 105, y 106, y 107, y 108, y 109, y 110, y 111, y 112, y 113, y 114, y 115, y 116, y 117, y 118, y 119, y 120, y 121, y 122, y 123, y 124, y 125, y 126, y 127, y 128, y 129, y 130, y 131, y 132, y 133, y 134, y 135, y 136, y 137, y 138, y 139, y 140, y 141, y 142, y 143, y 144, y 145, y 146, y 147, y 148, y 149, y 150, y 151, y 152, y 153, y 154, y 155, y 156, y 157, y 158, y 159, y 160, y 161, y 162, y 163, y 164, y 165, y 166, y 167, y 168, y 169, y 170, y 171, y 172, y 173, y 174, y 175, y 176, y 177, y 178, y 179, y 180, y 181, y 182, y 183, y 184, y 185, y 186, y 187, y 188, y 189, y 190, y 191, y 192, y 193, y 194, y 195, y 196, y 197, y 198, y 199, y 200, y 201, y 202, y 203], []⟩ u := by
    clear hs1 hs2 r1 r6 r17 hc0 hc1 hB hst
    have hB : Below u.heap.size u u := Below.refl _ _
    have HYD := Lib.hid hyd
    clear hyd
    refine Gets.step mc14 ?_
    unfold mP14 mC14 mC13 mC12 mC11 mC10 mC9 mC8 mC7 mC6 mC5 mC4 mC3 mC2 mC1 mC0 Try.f4
    dsimp only [sq1, sq2]
    go_wp2_with fail
    refine ⟨rfl, ?_⟩
    refine Gets.step mc15 ?_
    unfold mP15 mC15 mC14 mC13 mC12 mC11 mC10 mC9 mC8 mC7 mC6 mC5 mC4 mC3 mC2 mC1 mC0 Try.f4
    dsimp only [sq1, sq2]
    go_wp2_with fail
    go_loopw [23, 24] (fun v i wr => ∃ j : Nat, j ≤ n ∧ i = .int .i64 j ∧ v = .int .i64 (drawAt pot (rsOf z0 n) ee 1000000000000 j).1 ∧ Below u.heap.size u wr) (fun _ i _ => n - (intOf i).toNat)
    case atStart => exact ⟨0, Nat.zero_le _, rfl, rfl, hB⟩
    case round =>
      obtain ⟨j, hj, rfl, rfl, hbw⟩ := hrel
      clear hB
      by_cases hlt : j < n
      · have hjl : j < (rsOf z0 n).length := by rw [hrl.out]; exact hlt
        have hpi := paid_iff (M := 1000000000000) hp heb.1 htame.out (by omega) hjl
        rw [← HYD.out] at hpi
        have hnx := draw_next (M := 1000000000000) hp heb.1 htame.out (by omega) hjl
        have hsm := draw_small (M := 1000000000000) hp heb.1 htame.out (by omega) (k := j) (by omega)
        have hsm2 := draw_small (M := 1000000000000) hp heb.1 htame.out (by omega) (k := j + 1) (by omega)
        have hrj := htame.out.2 j hjl
        obtain ⟨adr, hadr, hcr⟩ := (R6.below hbw).int hlt
        cases hadr
        rw [add_off] at hcr
        obtain ⟨adv, rfl, hcv⟩ := (RV.below hbw).int hlt
        rw [drawTo_get hjl, draw_max hp heb.1 htame.out (by omega) (j + 1) (by omega)] at hcv
        obtain ⟨u0, hu0⟩ : ∃ u0, u0 = (drawAt pot (rsOf z0 n) ee 1000000000000 j).1 := ⟨_, rfl⟩
        obtain ⟨u1, hu1⟩ : ∃ u1, u1 = (drawAt pot (rsOf z0 n) ee 1000000000000 (j + 1)).1 := ⟨_, rfl⟩
        obtain ⟨rj, hrj0⟩ : ∃ rj, rj = (rsOf z0 n)[j]?.getD 0 := ⟨_, rfl⟩
        rw [← hu1] at hcv hsm2
        rw [← hrj0] at hcr hrj hnx
        rw [← hu0] at hpi hsm hnx
        have HU1 := Lib.hid hu1
        by_cases hpd : ee ≤ u0
        · have hjy := hpi.1 hpd
          rw [if_pos hpd] at hnx
          rw [hnx] at hu1
          dsimp only at hu1
          have hq := step_small hsm heb.1 hpd hrj
          have pb := mul_bds 10240000 20000 (a := u0 - ee) (b := 10000 + rj) (by omega) (by omega) (by omega) (by omega)
          rw [← hu0]
          rw [hu1] at hcv
          have HE := Lib.hid hu1
          clear hnx hpi hu0 hu1 hrj0 hsm2
          go_wp2_with fail
          go_roundw
          case rel => exact ⟨j + 1, by omega, by go_num, by rw [← HU1.out, HE.out], hbw⟩
          case measure => simp [intOf]; omega
        · have hjy : ¬ (j : Int) < yy := fun h => hpd (hpi.2 h)
          rw [if_neg hpd] at hnx
          rw [hnx] at hu1
          dsimp only at hu1
          rw [← hu0]
          rw [hu1] at hcv
          have HE := Lib.hid hu1
          clear hnx hpi hu0 hu1 hrj0 hsm2
          go_wp2_with fail
          go_roundw
          case rel => exact ⟨j + 1, by omega, by go_num, by rw [← HU1.out, HE.out], hbw⟩
          case measure => simp [intOf]; omega
      obtain rfl : n = j := by omega
      have hB := hbw
      clear hbw hlt
      go_wp2_with fail
      refine ⟨rfl, Gets.done ?_⟩
      exact mend_any rfl
  obtain ⟨a3, u3, ⟨y3, rfl⟩, hs3⟩ := key2
  have h16 : mP16.wp Try.prog (QN (fun a u' => ∃ t : Array Value, a = ⟨t, []⟩ ∧ t.getD 4 undef = .bool true)) ⟨#[y3 0, y3 1, y3 2, y3 3, y3 4, y3 5, y3 6, y3 7, y3 8, y3 9, y3 10, y3 11, y3 12, y3 13, y3 14, y3 15, y3 16, y3 17, y3 18, y3 19, y3 20, y3 21, y3 22, y3 23, y3 24, y3 25, y3 26, y3 27, y3 28, y3 29, y3 30, y3 31, y3 32, y3 33, y3 34, y3 35, y3 36, y3 37, y3 38, y3 39, y3 40, y3 41, y3 42, y3 43, y3 44, y3 45, y3 46, y3 47, y3 48, y3 49, y3 50, y3 51, y3 52, y3 53, y3 54, y3 55, y3 56, y3 57, y3 58, y3 59, y3 60, y3 61, y3 62, y3 63, y3 64, y3 65, y3 66, y3 67, y3 68, y3 69, y3 70, y3 71, y3 72, y3 73, y3 74, y3 75, y3 76, y3 77, y3 78, y3 79, y3 80, y3 81, y3 82, y3 83, y3 84, y3 85, y3 86, y3 87, y3 88, y3 89, y3 90, y3 91, y3 92, y3 93, y3 94, y3 95, y3 96, y3 97, y3 98, y3 99, y3 100, y3 101, y3 102, y3 103, y3 104, y3 105, y3 106, y3 107, y3 108, y3 109, y3 110, y3 111, y3 112, y3 113, y3 114, y3 115, y3 116, y3 117, y3 118, y3 119, y3 120, y3 121, y3 122, y3 123, y3 124, y3 125, y3 126, y3 127, y3 128, y3 129, y3 130, y3 131, y3 132, y3 133, y3 134, y3 135, y3 136, y3 137, y3 138, y3 139, y3 140, y3 141, y3 142, y3 143, y3 144, y3 145, y3 146, y3 147, y3 148, y3 149, y3 150, y3 151, y3 152, y3 153, y3 154, y3 155, y3 156, y3 157, y3 158, y3 159, y3 160, y3 161, y3 162, y3 163, y3 164, y3 165, y3 166, y3 167, y3 168, y3 169, y3 170, y3 171, y3 172, y3 173, y3 174, y3 175, y3 176, y3 177, y3 178, y3 179, y3 180, y3 181, y3 182, y3 183, y3 184, y3 185, y3 186, y3 187, y3 188, y3 189, y3 190, y3 191, y3 192, y3 193, y3 194, y3 195, y3 196, y3 197, y3 198, y3 199, y3 200, y3 201, y3 202, y3 203], []⟩ u3 := by
    unfold mP16 mC16 mC15 mC14 mC13 mC12 mC11 mC10 mC9 mC8 mC7 mC6 mC5 mC4 mC3 mC2 mC1 mC0 Try.f4
    dsimp only [sq1, sq2, opsOf]
    go_wp2_with fail
    exact ⟨rfl, _, rfl, rfl⟩
  obtain ⟨a4, u4, ⟨t, rfl, ht⟩, hs4⟩ := wp_steps h16 mB [.code .ret] cs
  refine ⟨_, u4, ⟨t, [.code .ret], rfl, ht⟩, Steps.trans hs1 (.head step_region_end (Steps.trans hs2 (Steps.trans hs3 ?_)))⟩
  rw [mc16]
  exact .head step_seq (Steps.trans hs4 (.one step_ret))
end Go.Proofs.Ytneclhkpgalnlaa
namespace Go.Proofs.Ytneclhkpgalnlaa
open Go.ConcN (sumTo)
open Go.ChangeShapes Go.WideShapes Go.ChangeAt Go.RowKit Sm Go.Conc
set_option linter.unusedVariables false
theorem pale_rdb {W : World} {H n : Nat} {A : Option Addr} {zs : List Int} (h : Rd W H 1 A n (byts zs)) : Rd (paleW W) H 1 A n (byts zs) :=
  ⟨h.1, fun hn => by
    obtain ⟨ad, e, hb, hc⟩ := h.2 hn
    refine ⟨ad, e, hb, fun j u hu => ?_⟩
    have := hc j u hu
    unfold byts at hu
    rw [List.getElem?_map] at hu
    cases hz : zs[j]? with
    | none => rw [hz] at hu; cases hu
    | some z =>
      rw [hz] at hu
      simp only [Option.map_some, Option.some.injEq] at hu
      subst hu
      exact pale_cell this⟩
theorem r8Long_big (A B : Option Addr) (n c m d : Nat) (w : World) (hn : n ≤ 9223372036854775807) (hm : m ≤ 9223372036854775807) :
    Calls Try.prog 11 #[.slice A n c, .slice B m d] w fun e w' => e = .returned (.bool (decide (48 < n) || decide (48 < m))) ∧ w = w' := by
  go_enter Try.func11, Try.ntmps11
  go_wp2
  all_goals go_ret
  all_goals refine ⟨?_, rfl⟩
  all_goals refine ret_bool ?_
  all_goals first | (simp; done) | (simp; omega) | (rw [Bool.eq_iff_iff]; simp; omega)
theorem mc1x : mC1 = .seq (.seq (sq1 mP1) (.cond (.tmp 27) (.seq (sq1 (cthen mP1)) .ret) .skip)) mC2 := by kernel_rfl
theorem mlong_any {t : Array Value} {A0 A1 : Option Addr} {n0 c0 n1 c1 : Nat} (h : t = #[.slice A0 n0 c0, .slice A1 n1 c1, t.getD 2 undef, t.getD 3 undef, t.getD 4 undef, t.getD 5 undef, t.getD 6 undef, t.getD 7 undef, t.getD 8 undef, t.getD 9 undef, t.getD 10 undef, t.getD 11 undef, t.getD 12 undef, t.getD 13 undef, t.getD 14 undef, t.getD 15 undef, t.getD 16 undef, t.getD 17 undef, t.getD 18 undef, t.getD 19 undef, t.getD 20 undef, t.getD 21 undef, t.getD 22 undef, t.getD 23 undef, t.getD 24 undef, t.getD 25 undef, t.getD 26 undef, t.getD 27 undef, t.getD 28 undef, t.getD 29 undef, t.getD 30 undef, t.getD 31 undef, t.getD 32 undef, t.getD 33 undef, t.getD 34 undef, t.getD 35 undef, t.getD 36 undef, t.getD 37 undef, t.getD 38 undef, t.getD 39 undef, t.getD 40 undef, t.getD 41 undef, t.getD 42 undef, t.getD 43 undef, t.getD 44 undef, t.getD 45 undef, t.getD 46 undef, t.getD 47 undef, t.getD 48 undef, t.getD 49 undef, t.getD 50 undef, t.getD 51 undef, t.getD 52 undef, t.getD 53 undef, t.getD 54 undef, t.getD 55 undef, t.getD 56 undef, t.getD 57 undef, t.getD 58 undef, t.getD 59 undef, t.getD 60 undef, t.getD 61 undef, t.getD 62 undef, t.getD 63 undef, t.getD 64 undef, t.getD 65 undef, t.getD 66 undef, t.getD 67 undef, t.getD 68 undef, t.getD 69 undef, t.getD 70 undef, t.getD 71 undef, t.getD 72 undef, t.getD 73 undef, t.getD 74 undef, t.getD 75 undef, t.getD 76 undef, t.getD 77 undef, t.getD 78 undef, t.getD 79 undef, t.getD 80 undef, t.getD 81 undef, t.getD 82 undef, t.getD 83 undef, t.getD 84 undef, t.getD 85 undef, t.getD 86 undef, t.getD 87 undef, t.getD 88 undef, t.getD 89 undef, t.getD 90 undef, t.getD 91 undef, t.getD 92 undef, t.getD 93 undef, t.getD 94 undef, t.getD 95 undef, t.getD 96 undef, t.getD 97 undef, t.getD 98 undef, t.getD 99 undef, t.getD 100 undef, t.getD 101 undef, t.getD 102 undef, t.getD 103 undef, t.getD 104 undef, t.getD 105 undef, t.getD 106 undef, t.getD 107 undef, t.getD 108 undef, t.getD 109 undef, t.getD 110 undef, t.getD 111 undef, t.getD 112 undef, t.getD 113 undef, t.getD 114 undef, t.getD 115 undef, t.getD 116 undef, t.getD 117 undef, t.getD 118 undef, t.getD 119 undef, t.getD 120 undef, t.getD 121 undef, t.getD 122 undef, t.getD 123 undef, t.getD 124 undef, t.getD 125 undef, t.getD 126 undef, t.getD 127 undef, t.getD 128 undef, t.getD 129 undef, t.getD 130 undef, t.getD 131 undef, t.getD 132 undef, t.getD 133 undef, t.getD 134 undef, t.getD 135 undef, t.getD 136 undef, t.getD 137 undef, t.getD 138 undef, t.getD 139 undef, t.getD 140 undef, t.getD 141 undef, t.getD 142 undef, t.getD 143 undef, t.getD 144 undef, t.getD 145 undef, t.getD 146 undef, t.getD 147 undef, t.getD 148 undef, t.getD 149 undef, t.getD 150 undef, t.getD 151 undef, t.getD 152 undef, t.getD 153 undef, t.getD 154 undef, t.getD 155 undef, t.getD 156 undef, t.getD 157 undef, t.getD 158 undef, t.getD 159 undef, t.getD 160 undef, t.getD 161 undef, t.getD 162 undef, t.getD 163 undef, t.getD 164 undef, t.getD 165 undef, t.getD 166 undef, t.getD 167 undef, t.getD 168 undef, t.getD 169 undef, t.getD 170 undef, t.getD 171 undef, t.getD 172 undef, t.getD 173 undef, t.getD 174 undef, t.getD 175 undef, t.getD 176 undef, t.getD 177 undef, t.getD 178 undef, t.getD 179 undef, t.getD 180 undef, t.getD 181 undef, t.getD 182 undef, t.getD 183 undef, t.getD 184 undef, t.getD 185 undef, t.getD 186 undef, t.getD 187 undef, t.getD 188 undef, t.getD 189 undef, t.getD 190 undef, t.getD 191 undef, t.getD 192 undef, t.getD 193 undef, t.getD 194 undef, t.getD 195 undef, t.getD 196 undef, t.getD 197 undef, t.getD 198 undef, t.getD 199 undef, t.getD 200 undef, t.getD 201 undef, t.getD 202 undef, t.getD 203 undef]) : ∃ x : Nat → Value, (⟨t, []⟩ : Act) = ⟨#[.slice A0 n0 c0, .slice A1 n1 c1, x 2, x 3, x 4, x 5, x 6, x 7, x 8, x 9, x 10, x 11, x 12, x 13, x 14, x 15, x 16, x 17, x 18, x 19, x 20, x 21, x 22, x 23, x 24, x 25, x 26, x 27, x 28, x 29, x 30, x 31, x 32, x 33, x 34, x 35, x 36, x 37, x 38, x 39, x 40, x 41, x 42, x 43, x 44, x 45, x 46, x 47, x 48, x 49, x 50, x 51, x 52, x 53, x 54, x 55, x 56, x 57, x 58, x 59, x 60, x 61, x 62, x 63, x 64, x 65, x 66, x 67, x 68, x 69, x 70, x 71, x 72, x 73, x 74, x 75, x 76, x 77, x 78, x 79, x 80, x 81, x 82, x 83, x 84, x 85, x 86, x 87, x 88, x 89, x 90, x 91, x 92, x 93, x 94, x 95, x 96, x 97, x 98, x 99, x 100, x 101, x 102, x 103, x 104, x 105, x 106, x 107, x 108, x 109, x 110, x 111, x 112, x 113, x 114, x 115, x 116, x 117, x 118, x 119, x 120, x 121, x 122, x 123, x 124, x 125, x 126, x 127, x 128, x 129, x 130, x 131, x 132, x 133, x 134, x 135, x 136, x 137, x 138, x 139, x 140, x 141, x 142, x 143, x 144, x 145, x 146, x 147, x 148, x 149, x 150, x 151, x 152, x 153, x 154, x 155, x 156, x 157, x 158, x 159, x 160, x 161, x 162, x 163, x 164, x 165, x 166, x 167, x 168, x 169, x 170, x 171, x 172, x 173, x 174, x 175, x 176, x 177, x 178, x 179, x 180, x 181, x 182, x 183, x 184, x 185, x 186, x 187, x 188, x 189, x 190, x 191, x 192, x 193, x 194, x 195, x 196, x 197, x 198, x 199, x 200, x 201, x 202, x 203], []⟩ := ⟨fun i => t.getD i undef, congrArg (fun x => (⟨x, []⟩ : Act)) h⟩
set_option maxRecDepth 100000 in
set_option maxHeartbeats 3200000 in
theorem m1_long (A0 : Option Addr) (n0 c0 : Nat) (A1 : Option Addr) (n1 c1 : Nat) (W : World) (k0 : n0 ≤ 9223372036854775807) (k1 : n1 ≤ 9223372036854775807) (hm : 48 < n0 ∨ 48 < n1) (cs : List Frame) :
    ∃ fr w', MEnd fr ∧ Steps Try.prog (lone (Frame.enter Try.prog 4 #[.slice A0 n0 c0, .slice A1 n1 c1] .normal) cs W) (lone fr cs w') := by
  rw [m_enter]
  have key : Gets Try.prog mC0 mC1 mB [] cs (fun a u => ∃ x : Nat → Value, a = ⟨#[.slice A0 n0 c0, .slice A1 n1 c1, x 2, x 3, x 4, x 5, x 6, x 7, x 8, x 9, x 10, x 11, x 12, x 13, x 14, x 15, x 16, x 17, x 18, x 19, x 20, x 21, x 22, x 23, x 24, x 25, x 26, x 27, x 28, x 29, x 30, x 31, x 32, x 33, x 34, x 35, x 36, x 37, x 38, x 39, x 40, x 41, x 42, x 43, x 44, x 45, x 46, x 47, x 48, x 49, x 50, x 51, x 52, x 53, x 54, x 55, x 56, x 57, x 58, x 59, x 60, x 61, x 62, x 63, x 64, x 65, x 66, x 67, x 68, x 69, x 70, x 71, x 72, x 73, x 74, x 75, x 76, x 77, x 78, x 79, x 80, x 81, x 82, x 83, x 84, x 85, x 86, x 87, x 88, x 89, x 90, x 91, x 92, x 93, x 94, x 95, x 96, x 97, x 98, x 99, x 100, x 101, x 102, x 103, x 104, x 105, x 106, x 107, x 108, x 109, x 110, x 111, x 112, x 113, x 114, x 115, x 116, x 117, x 118, x 119, x 120, x 121, x 122, x 123, x 124, x 125, x 126, x 127, x 128, x 129, x 130, x 131, x 132, x 133, x 134, x 135, x 136, x 137, x 138, x 139, x 140, x 141, x 142, x 143, x 144, x 145, x 146, x 147, x 148, x 149, x 150, x 151, x 152, x 153, x 154, x 155, x 156, x 157, x 158, x 159, x 160, x 161, x 162, x 163, x 164, x 165, x 166, x 167, x 168, x 169, x 170, x 171, x 172, x 173, x 174, x 175, x 176, x 177, x 178, x 179, x 180, x 181, x 182, x 183, x 184, x 185, x 186, x 187, x 188, x 189, x 190, x 191, x 192, x 193, x 194, x 195, x 196, x 197, x 198, x 199, x 200, x 201, x 202, x 203], []⟩) ⟨#[.slice A0 n0 c0, .slice A1 n1 c1, undef, undef, undef, undef, undef, undef, undef, undef, undef, undef, undef, undef, undef, undef, undef, undef, undef, undef, undef, undef, undef, undef, undef, undef, undef, undef, undef, undef, undef, undef, undef, undef, undef, undef, undef, undef, undef, undef, undef, undef, undef, undef, undef, undef, undef, undef, undef, undef, undef, undef, undef, undef, undef, undef, undef, undef, undef, undef, undef, undef, undef, undef, undef, undef, undef, undef, undef, undef, undef, undef, undef, undef, undef, undef, undef, undef, undef, undef, undef, undef, undef, undef, undef, undef, undef, undef, undef, undef, undef, undef, undef, undef, undef, undef, undef, undef, undef, undef, undef, undef, undef, undef, undef, undef, undef, undef, undef, undef, undef, undef, undef, undef, undef, undef, undef, undef, undef, undef, undef, undef, undef, undef, undef, undef, undef, undef, undef, undef, undef, undef, undef, undef, undef, undef, undef, undef, undef, undef, undef, undef, undef, undef, undef, undef, undef, undef, undef, undef, undef, undef, undef, undef, undef, undef, undef, undef, undef, undef, undef, undef, undef, undef, undef, undef, undef, undef, undef, undef, undef, undef, undef, undef, undef, undef, undef, undef, undef, undef, undef, undef, undef, undef, undef, undef, undef, undef, undef, undef, undef, undef, undef, undef, undef, undef, undef, undef, undef, undef, undef, undef, undef, undef], []⟩ W := by
    refine Gets.step mc0 ?_
    unfold mP0 mC0 Try.f4
    dsimp only [sq1, sq2]
    go_wp2_with fail
    refine ⟨rfl, Gets.done ?_⟩
    exact mlong_any rfl
  obtain ⟨a2, u, ⟨y, rfl⟩, hs2⟩ := key
  have hlong : (decide (48 < n0) || decide (48 < n1)) = true := by simp; omega
  obtain ⟨a3, u3, ⟨t, rfl, ht⟩, hs3⟩ := early (P := Try.prog) (b := mB) (k := []) (cs := cs) (K := fun a u' => ∃ t : Array Value, a = ⟨t, []⟩ ∧ t.getD 4 undef = .bool true) (a := ⟨#[.slice A0 n0 c0, .slice A1 n1 c1, y 2, y 3, y 4, y 5, y 6, y 7, y 8, y 9, y 10, y 11, y 12, y 13, y 14, y 15, y 16, y 17, y 18, y 19, y 20, y 21, y 22, y 23, y 24, y 25, y 26, y 27, y 28, y 29, y 30, y 31, y 32, y 33, y 34, y 35, y 36, y 37, y 38, y 39, y 40, y 41, y 42, y 43, y 44, y 45, y 46, y 47, y 48, y 49, y 50, y 51, y 52, y 53, y 54, y 55, y 56, y 57, y 58, y 59, y 60, y 61, y 62, y 63, y 64, y 65, y 66, y 67, y 68, y 69, y 70, y 71, y 72, y 73, y 74, y 75, y 76, y 77, y 78, y 79, y 80, y 81, y 82, y 83, y 84, y 85, y 86, y 87, y 88, y 89, y 90, y 91, y 92, y 93, y 94, y 95, y 96, y 97, y 98, y 99, y 100, y 101, y 102, y 103, y 104, y 105, y 106, y 107, y 108, y 109, y 110, y 111, y 112, y 113, y 114, y 115, y 116, y 117, y 118, y 119, y 120, y 121, y 122, y 123, y 124, y 125, y 126, y 127, y 128, y 129, y 130, y 131, y 132, y 133, y 134, y 135, y 136, y 137, y 138, y 139, y 140, y 141, y 142, y 143, y 144, y 145, y 146, y 147, y 148, y 149, y 150, y 151, y 152, y 153, y 154, y 155, y 156, y 157, y 158, y 159, y 160, y 161, y 162, y 163, y 164, y 165, y 166, y 167, y 168, y 169, y 170, y 171, y 172, y 173, y 174, y 175, y 176, y 177, y 178, y 179, y 180, y 181, y 182, y 183, y 184, y 185, y 186, y 187, y 188, y 189, y 190, y 191, y 192, y 193, y 194, y 195, y 196, y 197, y 198, y 199, y 200, y 201, y 202, y 203], []⟩) (w := u) mc1x (by
    unfold mP1 mC1 mC0 Try.f4
    dsimp only [sq1, sq2, cthen]
    go_wp2_with fail
    refine (r8Long_big _ _ _ _ _ _ _ k0 k1).mono ?_
    rintro e w1 ⟨rfl, rfl⟩
    rw [hlong]
    go_wp2_with fail
    refine ⟨rfl, rfl, ?_⟩
    go_wp2_with fail
    exact ⟨rfl, _, rfl, rfl⟩)
  exact ⟨_, u3, ⟨t, _, rfl, ht⟩, Steps.trans hs2 hs3⟩
set_option maxRecDepth 100000 in
set_option maxHeartbeats 3200000 in
theorem m1_run (A0 : Option Addr) (n0 c0 : Nat) (z0 : List Int) (A1 : Option Addr) (n1 c1 : Nat) (z1 : List Int) (W : World) (k0 : n0 ≤ 9223372036854775807) (k1 : n1 ≤ 9223372036854775807) (r0 : Rd W W.heap.size 1 A0 n0 (byts z0)) (r1 : Rd W W.heap.size 1 A1 n1 (byts z1)) (hb0 : Byt z0) (hb1 : Byt z1)
    (h0 : ∀ a, A0 = some a → a.spot = none ∧ ∃ c el fz, W.heap[a.block]? = some (.cells c el fz)) (h1 : ∀ a, A1 = some a → a.spot = none ∧ ∃ c el fz, W.heap[a.block]? = some (.cells c el fz)) :
    ∃ M last o w' t', runNT Try.prog (M + 1) (solo (G (Frame.enter Try.prog 4 #[.slice A0 n0 c0, .slice A1 n1 c1] .normal) []) W) #[] = (.ended o w', t') ∧ runN Try.prog M (solo (G (Frame.enter Try.prog 4 #[.slice A0 n0 c0, .slice A1 n1 c1] .normal) []) W) = .next last ∧
      step Try.prog last = .ended o w' ∧ Conc.Good Try.prog (fun v W' => v = .bool true ∧ Below W.heap.size W W') last o w' t' := by
  have hi : Try.prog.inits.idxOf? 4 = none := by kernel_rfl
  have hC := calm_start (W := W) (f := 4) (args := #[.slice A0 n0 c0, .slice A1 n1 c1]) (S := fun b => ∃ a : Addr, a.block = b ∧ (A0 = some a ∨ A1 = some a)) (by kernel_rfl) (fun b hb => by
    obtain ⟨a, rfl, h | h⟩ := hb
    · exact (h0 a h).2
    · exact (h1 a h).2) (by
    have one : ∀ (A : Option Addr) (n c : Nat), (A = A0 ∨ A = A1) → VR (FFs Fs10) (argR fun b => ∃ a : Addr, a.block = b ∧ (A0 = some a ∨ A1 = some a)) (.slice A n c) (.slice A n c) := by
      intro A n c hA
      cases A with
      | none => exact .sliceNone n c
      | some a =>
        have hsp : a.spot = none := hA.elim (fun e => (h0 a e.symm).1) fun e => (h1 a e.symm).1
        exact .slice ⟨⟨rfl, a, rfl, hA.elim (fun e => .inl e.symm) fun e => .inr e.symm⟩, rfl, hsp, hsp⟩ n c
    refine ⟨rfl, fun i h1 h2 => ?_⟩
    rcases i with _ | _ | i
    · exact one _ _ _ (.inl rfl)
    · exact one _ _ _ (.inr rfl)
    · simp at h1; omega)
  have hsolo : ∀ (g : Goroutine), runNT Try.prog 0 (solo g W) #[] = (.next (crowd #[g] W none), #[]) := fun g => rfl
  have hps : (paleW W).heap.size = W.heap.size := pale_size W
  have R0 : Rd (paleW W) (paleW W).heap.size 1 A0 n0 (byts z0) := by rw [hps]; exact pale_rdb r0
  have R1 : Rd (paleW W) (paleW W).heap.size 1 A1 n1 (byts z1) := by rw [hps]; exact pale_rdb r1
  by_cases hm : 48 < n0 ∨ 48 < n1
  · exact run_end (gs0 := #[]) hi (hsolo _) hC fun T d => by
      obtain ⟨fr, w', hE, hs⟩ := m1_long A0 n0 c0 A1 n1 c1 (Sm.rt (paleW W) T d) k0 k1 hm [trap]
      exact ⟨fr, [], w', hs, mend_ok hE, mqend_of hE, fun b o hb => hb.elim⟩
  obtain ⟨N1, gs1, w1, sl1, t1, q1, s1, run1, hC1, T1, d1, hup1, a1, ⟨Ad, n, gR, cR, cd, gA, pot, y15, wk, x, hF, rA, hlt, hwk, rfl⟩, hfr1⟩ := calm_seg (sl := none) (Q := fun fr up v' => up = [] ∧ ∃ a, M1K W.heap.size A0 n0 c0 z0 A1 n1 c1 z1 a v' ∧ fr = mB.at a (.inRegion (opsOf mP9) [6, 7, 8, 9, 10, 11] :: [.code mC10])) hC (fun T d => by
    obtain ⟨a, w', hJ, hs⟩ := m1_pre A0 n0 c0 z0 A1 n1 c1 z1 (Sm.rt (paleW W) T d) (R0.keep fun _ _ => rfl) (R1.keep fun _ _ => rfl) hb0 hb1 (by omega) (by omega) [trap]
    have hJ' : M1J W.heap.size A0 n0 c0 z0 A1 n1 c1 z1 a w' := by
      have e : (Sm.rt (paleW W) T d).heap.size = W.heap.size := hps
      rw [e] at hJ; exact hJ
    obtain ⟨a2, w2, hK, hs2⟩ := m1_arg hb1 hJ' [trap]
    have hd : a2.defers = [] := by obtain ⟨_, _, _, _, _, _, _, _, _, _, _, _, _, _, rfl⟩ := hK; rfl
    refine ⟨_, [], w2, ?_, ⟨hd, .inl rfl⟩, ⟨rfl, a2, hK, rfl⟩, fun b o hb => hb.elim⟩
    show Steps Try.prog (lone (Frame.enter Try.prog 4 #[.slice A0 n0 c0, .slice A1 n1 c1] .normal) ([] ++ [trap]) _) _
    rw [m_enter]
    exact Steps.trans hs hs2)
  obtain ⟨f1, f2, f3, f4, f5, f6, f7⟩ := hF
  have F1 : M1F W.heap.size s1.v A0 n0 z0 A1 n1 z1 n gR cR pot y15 := ⟨f1, f2, f3, f4, f5, f6, f7⟩
  obtain ⟨lc, lg, ld, lo⟩ := mcall
  have rR : Rd s1.v s1.v.heap.size 1 (some ⟨gR, 0, none⟩) n (ints (rsOf z0 n)) := Rd.of_own F1.o6
  obtain ⟨N2, gs2, w2, sl2, t2, q2, s2, v17, run2, hC2, hup2, hfr2, o17, hk2⟩ := call_run (sl := sl1) (gA := gA) (gR := gR) (ln := 2) (lc := 2) (rn := n) (rc := cR) (zs := [pot, 0]) (rs := rsOf z0 n) (k := wk) hC1 hfr1 lc lg (fun u => by unfold execOp; rw [lo]; dsimp only; go_simp) rA rR (by omega) (by omega) (by have := F1.hn; omega)
  have htame := rsOf_tame (a := z0) F1.hn.2
  obtain ⟨ok1, ok2⟩ := two_ok F1.hp htame (by rw [rsOf_length]; exact F1.hn.1) hwk
  rw [ok2] at o17
  rw [ok1] at hfr2
  have o17' : s2.v.ownsRow s1.v.heap.size 2 1 v17 2 (ints [safeR pot (rsOf z0 n), 0]) := o17
  obtain ⟨A17, c17, rfl, _⟩ := own_form o17'
  obtain ⟨g17, rfl⟩ := own_head o17' (by omega)
  have hgR := own_ge F1.o6
  have R1' : Rd s2.v s2.v.heap.size 1 A1 n1 (byts z1) := (F1.r1.kpx hk2 (by omega) hgR).more (Nat.le_trans F1.hH hk2.size)
  have R6' : Rd s2.v s2.v.heap.size 1 (some ⟨gR, 0, none⟩) n (ints (rsOf z0 n)) := (rR.kp fun i hi xx hx => hk2.cell _ xx hx (fun e => by rw [add_off] at e; have e' : gR = gA := e; omega) (fun _ => by rw [add_off]; exact hi)).more hk2.size
  have hfr2' : s2.fr = mB.at ⟨#[.slice A0 n0 c0, .slice A1 n1 c1, x 2, x 3, x 4, .int .i64 (n : Nat), .slice (some ⟨gR, 0, none⟩) n cR, x 7, .int .i64 pot, .int .i64 (safeR pot (rsOf z0 n)), .bool true, .slice Ad n cd, .int .i64 n, .bool true, x 14, .int .i64 y15, .bool true, x 17, x 18, x 19, x 20, x 21, x 22, x 23, x 24, x 25, x 26, x 27, x 28, x 29, x 30, x 31, x 32, x 33, x 34, x 35, x 36, x 37, x 38, x 39, x 40, x 41, x 42, x 43, x 44, x 45, x 46, x 47, x 48, x 49, x 50, x 51, x 52, x 53, x 54, x 55, x 56, x 57, x 58, x 59, x 60, x 61, x 62, x 63, x 64, x 65, x 66, x 67, x 68, x 69, x 70, x 71, x 72, .slice (some ⟨gA, 0, none⟩) 2 2, .slice (some ⟨gR, 0, none⟩) n cR, x 75, x 76, .int .i64 wk, .tuple #[.slice (some ⟨g17, 0, none⟩) 2 c17, .bool true], x 79, x 80, x 81, x 82, x 83, x 84, x 85, x 86, x 87, x 88, x 89, x 90, x 91, x 92, x 93, x 94, x 95, x 96, x 97, x 98, x 99, x 100, x 101, x 102, x 103, x 104, x 105, x 106, x 107, x 108, x 109, x 110, x 111, x 112, x 113, x 114, x 115, x 116, x 117, x 118, x 119, x 120, x 121, x 122, x 123, x 124, x 125, x 126, x 127, x 128, x 129, x 130, x 131, x 132, x 133, x 134, x 135, x 136, x 137, x 138, x 139, x 140, x 141, x 142, x 143, x 144, x 145, x 146, x 147, x 148, x 149, x 150, x 151, x 152, x 153, x 154, x 155, x 156, x 157, x 158, x 159, x 160, x 161, x 162, x 163, x 164, x 165, x 166, x 167, x 168, x 169, x 170, x 171, x 172, x 173, x 174, x 175, x 176, x 177, x 178, x 179, x 180, x 181, x 182, x 183, x 184, x 185, x 186, x 187, x 188, x 189, x 190, x 191, x 192, x 193, x 194, x 195, x 196, x 197, x 198, x 199, x 200, x 201, x 202, x 203], []⟩ (.inRegion (opsOf mP9) [7, 8, 9, 10, 11] :: [.code mC10]) := by rw [hfr2, ld]; rfl
  obtain ⟨Na, runa⟩ := runs_on run1 run2
  refine run_end (gs0 := #[]) (m0 := solo (G (Frame.enter Try.prog 4 #[.slice A0 n0 c0, .slice A1 n1 c1] .normal) []) W) hi runa hC2 fun T d => ?_
  obtain ⟨fr, w', hE, hs⟩ := m1_end A0 A1 Ad n0 c0 n1 c1 n gR cR cd gA c17 g17 z0 z1 pot y15 wk x (Sm.rt s2.v T d) (R1'.keep fun _ _ => rfl) hb1 (R6'.keep fun _ _ => rfl) F1.hn F1.hp F1.hy ((Rd.of_own o17').keep fun _ _ => rfl) (s2.up ++ [trap])
  have hu : s2.up = [] := hup2.trans hup1
  rw [hfr2']
  rw [hu] at hs ⊢
  exact ⟨fr, [], w', hs, mend_ok hE, mqend_of hE, fun b o hb => hb.elim⟩
end Go.Proofs.Ytneclhkpgalnlaa
