/-
  The law FnExactAnswersShared: its ends.
-/
import Derived.Test.YtmfglflahlddbaaSkY
namespace Go.Proofs.Ytmfglflahlddbaa
open Go.ChangeShapes Go.WideShapes Go.ChangeAt Go.RowKit Sm Go.Conc
set_option linter.unusedVariables false
def LEnd (fr : Frame) : Prop := ∃ t todo, fr = { lB.at ⟨t, []⟩ todo with mode := .returning } ∧ t.getD 8 undef = .bool true
theorem qend_of {fr : Frame} {v : World} (h : LEnd fr) : QEnd Try.prog 3 true fr [] v := by
  obtain ⟨t, todo, h1, h2⟩ := h
  exact ⟨rfl, t, todo, Try.f3, 8, h1, by kernel_rfl, by kernel_rfl, h2⟩
theorem lend_ok {fr : Frame} (h : LEnd fr) : OkFr fr := by
  obtain ⟨t, todo, rfl, _⟩ := h
  exact ⟨rfl, .inr rfl⟩
theorem early {P : Program} {c R R2 rest : Code} {s : Nat} {b : Frame} {k : List Item} {cs : List Frame} {K : Act → World → Prop} {a : Act} {w : World} (e : c = .seq (.seq R (.cond (.tmp s) (.seq R2 .ret) .skip)) rest) (h : R.wp P (QN fun a w => a.eval (.tmp s) = .bool true ∧ R2.wp P (QN K) a w) a w) :
    ∃ a' w', K a' w' ∧ Steps P (lone (b.at a (.code c :: k)) cs w) (lone { b.at a' (.code .ret :: .code rest :: k) with mode := .returning } cs w') := by
  subst e
  obtain ⟨a1, w1, ⟨ht, h2⟩, hs1⟩ := wp_steps h b (.code (.cond (.tmp s) (.seq R2 .ret) .skip) :: .code rest :: k) cs
  obtain ⟨a2, w2, hK, hs2⟩ := wp_steps h2 b (.code .ret :: .code rest :: k) cs
  exact ⟨a2, w2, hK, .head step_seq (.head step_seq (Steps.trans hs1 (.head (step_cond ht) (.head step_seq (Steps.trans hs2 (.one step_ret))))))⟩
def cthen : Code → Code | .seq _ (.cond _ a _) => a | _ => .skip
theorem lend_any {t : Array Value} (h : t = #[t.getD 0 undef, t.getD 1 undef, t.getD 2 undef, t.getD 3 undef, t.getD 4 undef, t.getD 5 undef, t.getD 6 undef, t.getD 7 undef, t.getD 8 undef, t.getD 9 undef, t.getD 10 undef, t.getD 11 undef, t.getD 12 undef, t.getD 13 undef, t.getD 14 undef, t.getD 15 undef, t.getD 16 undef, t.getD 17 undef, t.getD 18 undef, t.getD 19 undef, t.getD 20 undef, t.getD 21 undef, t.getD 22 undef, t.getD 23 undef, t.getD 24 undef, t.getD 25 undef, t.getD 26 undef, t.getD 27 undef, t.getD 28 undef, t.getD 29 undef, t.getD 30 undef, t.getD 31 undef, t.getD 32 undef, t.getD 33 undef, t.getD 34 undef, t.getD 35 undef, t.getD 36 undef, t.getD 37 undef, t.getD 38 undef, t.getD 39 undef, t.getD 40 undef, t.getD 41 undef, t.getD 42 undef, t.getD 43 undef, t.getD 44 undef, t.getD 45 undef, t.getD 46 undef, t.getD 47 undef, t.getD 48 undef, t.getD 49 undef, t.getD 50 undef, t.getD 51 undef, t.getD 52 undef, t.getD 53 undef, t.getD 54 undef, t.getD 55 undef, t.getD 56 undef, t.getD 57 undef, t.getD 58 undef, t.getD 59 undef, t.getD 60 undef, t.getD 61 undef, t.getD 62 undef, t.getD 63 undef, t.getD 64 undef, t.getD 65 undef, t.getD 66 undef, t.getD 67 undef, t.getD 68 undef, t.getD 69 undef, t.getD 70 undef, t.getD 71 undef, t.getD 72 undef, t.getD 73 undef, t.getD 74 undef, t.getD 75 undef, t.getD 76 undef, t.getD 77 undef, t.getD 78 undef, t.getD 79 undef, t.getD 80 undef, t.getD 81 undef, t.getD 82 undef, t.getD 83 undef, t.getD 84 undef, t.getD 85 undef, t.getD 86 undef, t.getD 87 undef, t.getD 88 undef, t.getD 89 undef, t.getD 90 undef, t.getD 91 undef, t.getD 92 undef, t.getD 93 undef, t.getD 94 undef, t.getD 95 undef, t.getD 96 undef, t.getD 97 undef, t.getD 98 undef, t.getD 99 undef, t.getD 100 undef, t.getD 101 undef, t.getD 102 undef, t.getD 103 undef, t.getD 104 undef, t.getD 105 undef, t.getD 106 undef, t.getD 107 undef, t.getD 108 undef, t.getD 109 undef, t.getD 110 undef, t.getD 111 undef, t.getD 112 undef, t.getD 113 undef, t.getD 114 undef, t.getD 115 undef, t.getD 116 undef, t.getD 117 undef, t.getD 118 undef, t.getD 119 undef, t.getD 120 undef, t.getD 121 undef, t.getD 122 undef, t.getD 123 undef, t.getD 124 undef, t.getD 125 undef, t.getD 126 undef, t.getD 127 undef, t.getD 128 undef]) : ∃ x : Nat → Value, (⟨t, []⟩ : Act) = ⟨#[x 0, x 1, x 2, x 3, x 4, x 5, x 6, x 7, x 8, x 9, x 10, x 11, x 12, x 13, x 14, x 15, x 16, x 17, x 18, x 19, x 20, x 21, x 22, x 23, x 24, x 25, x 26, x 27, x 28, x 29, x 30, x 31, x 32, x 33, x 34, x 35, x 36, x 37, x 38, x 39, x 40, x 41, x 42, x 43, x 44, x 45, x 46, x 47, x 48, x 49, x 50, x 51, x 52, x 53, x 54, x 55, x 56, x 57, x 58, x 59, x 60, x 61, x 62, x 63, x 64, x 65, x 66, x 67, x 68, x 69, x 70, x 71, x 72, x 73, x 74, x 75, x 76, x 77, x 78, x 79, x 80, x 81, x 82, x 83, x 84, x 85, x 86, x 87, x 88, x 89, x 90, x 91, x 92, x 93, x 94, x 95, x 96, x 97, x 98, x 99, x 100, x 101, x 102, x 103, x 104, x 105, x 106, x 107, x 108, x 109, x 110, x 111, x 112, x 113, x 114, x 115, x 116, x 117, x 118, x 119, x 120, x 121, x 122, x 123, x 124, x 125, x 126, x 127, x 128], []⟩ := ⟨fun i => t.getD i undef, congrArg (fun x => (⟨x, []⟩ : Act)) h⟩
theorem lend_neg {t : Array Value} {A0 A1 : Option Addr} {n0 c0 n1 c1 : Nat} {day k : Int} (h : t = #[.slice A0 n0 c0, .slice A1 n1 c1, .int .i64 day, .int .i64 k, t.getD 4 undef, t.getD 5 undef, t.getD 6 undef, t.getD 7 undef, t.getD 8 undef, .int .i64 (-1), t.getD 10 undef, t.getD 11 undef, t.getD 12 undef, t.getD 13 undef, t.getD 14 undef, t.getD 15 undef, t.getD 16 undef, t.getD 17 undef, t.getD 18 undef, t.getD 19 undef, t.getD 20 undef, t.getD 21 undef, t.getD 22 undef, t.getD 23 undef, t.getD 24 undef, t.getD 25 undef, t.getD 26 undef, t.getD 27 undef, t.getD 28 undef, t.getD 29 undef, t.getD 30 undef, t.getD 31 undef, t.getD 32 undef, t.getD 33 undef, t.getD 34 undef, t.getD 35 undef, t.getD 36 undef, t.getD 37 undef, t.getD 38 undef, t.getD 39 undef, t.getD 40 undef, t.getD 41 undef, t.getD 42 undef, t.getD 43 undef, t.getD 44 undef, t.getD 45 undef, t.getD 46 undef, t.getD 47 undef, t.getD 48 undef, t.getD 49 undef, t.getD 50 undef, t.getD 51 undef, t.getD 52 undef, t.getD 53 undef, t.getD 54 undef, t.getD 55 undef, t.getD 56 undef, t.getD 57 undef, t.getD 58 undef, t.getD 59 undef, t.getD 60 undef, t.getD 61 undef, t.getD 62 undef, t.getD 63 undef, t.getD 64 undef, t.getD 65 undef, t.getD 66 undef, t.getD 67 undef, t.getD 68 undef, t.getD 69 undef, t.getD 70 undef, t.getD 71 undef, t.getD 72 undef, t.getD 73 undef, t.getD 74 undef, t.getD 75 undef, t.getD 76 undef, t.getD 77 undef, t.getD 78 undef, t.getD 79 undef, t.getD 80 undef, t.getD 81 undef, t.getD 82 undef, t.getD 83 undef, t.getD 84 undef, t.getD 85 undef, t.getD 86 undef, t.getD 87 undef, t.getD 88 undef, t.getD 89 undef, t.getD 90 undef, t.getD 91 undef, t.getD 92 undef, t.getD 93 undef, t.getD 94 undef, t.getD 95 undef, t.getD 96 undef, t.getD 97 undef, t.getD 98 undef, t.getD 99 undef, t.getD 100 undef, t.getD 101 undef, t.getD 102 undef, t.getD 103 undef, t.getD 104 undef, t.getD 105 undef, t.getD 106 undef, t.getD 107 undef, t.getD 108 undef, t.getD 109 undef, t.getD 110 undef, t.getD 111 undef, t.getD 112 undef, t.getD 113 undef, t.getD 114 undef, t.getD 115 undef, t.getD 116 undef, t.getD 117 undef, t.getD 118 undef, t.getD 119 undef, t.getD 120 undef, t.getD 121 undef, t.getD 122 undef, t.getD 123 undef, t.getD 124 undef, t.getD 125 undef, t.getD 126 undef, t.getD 127 undef, t.getD 128 undef]) : ∃ x : Nat → Value, (⟨t, []⟩ : Act) = ⟨#[.slice A0 n0 c0, .slice A1 n1 c1, .int .i64 day, .int .i64 k, x 4, x 5, x 6, x 7, x 8, .int .i64 (-1), x 10, x 11, x 12, x 13, x 14, x 15, x 16, x 17, x 18, x 19, x 20, x 21, x 22, x 23, x 24, x 25, x 26, x 27, x 28, x 29, x 30, x 31, x 32, x 33, x 34, x 35, x 36, x 37, x 38, x 39, x 40, x 41, x 42, x 43, x 44, x 45, x 46, x 47, x 48, x 49, x 50, x 51, x 52, x 53, x 54, x 55, x 56, x 57, x 58, x 59, x 60, x 61, x 62, x 63, x 64, x 65, x 66, x 67, x 68, x 69, x 70, x 71, x 72, x 73, x 74, x 75, x 76, x 77, x 78, x 79, x 80, x 81, x 82, x 83, x 84, x 85, x 86, x 87, x 88, x 89, x 90, x 91, x 92, x 93, x 94, x 95, x 96, x 97, x 98, x 99, x 100, x 101, x 102, x 103, x 104, x 105, x 106, x 107, x 108, x 109, x 110, x 111, x 112, x 113, x 114, x 115, x 116, x 117, x 118, x 119, x 120, x 121, x 122, x 123, x 124, x 125, x 126, x 127, x 128], []⟩ := ⟨fun i => t.getD i undef, congrArg (fun x => (⟨x, []⟩ : Act)) h⟩
set_option maxRecDepth 100000 in
set_option maxHeartbeats 6400000 in
theorem l1_end {H : Nat} (n0 : Nat) (ds : List Rl) (n1 : Nat) (zss : List (List Int)) (day k : Int) (W : World) (Aw Ag Ah : Option Addr) (cw cg ch : Nat) (G5 : Option Addr) (c5 : Nat) (G6 : Option Addr) (c6 : Nat) (x : Nat → Value)
    (ow : W.ownsRow H tI 1 (.slice Aw (shR ds zss day k).length cw) (shR ds zss day k).length (ints (shR ds zss day k))) (og : W.ownsRow H tI 1 (.slice Ag (shR ds zss day k).length cg) (shR ds zss day k).length (ints (up 1 (shR ds zss day k).length))) (oh : W.ownsRow H tI 1 (.slice Ah (shR ds zss day k).length ch) (shR ds zss day k).length (ints (shR ds zss day k))) (cs : List Frame) :
    ∃ fr w', LEnd fr ∧ Steps Try.prog (lone (lB.at ⟨#[x 0, x 1, x 2, x 3, x 4, x 5, x 6, x 7, x 8, x 9, .slice Aw (shR ds zss day k).length cw, .bool (shOk ds zss day k), x 12, x 13, .slice Ag (shR ds zss day k).length cg, .bool (shOk ds zss day k), x 16, .int .i64 (1 + ((shR ds zss day k).length : Nat)), x 18, x 19, x 20, x 21, x 22, x 23, x 24, x 25, x 26, x 27, x 28, x 29, x 30, x 31, x 32, x 33, x 34, x 35, x 36, x 37, x 38, x 39, x 40, x 41, x 42, x 43, x 44, x 45, x 46, x 47, x 48, x 49, x 50, x 51, x 52, x 53, x 54, x 55, x 56, x 57, x 58, x 59, x 60, x 61, x 62, x 63, x 64, x 65, x 66, x 67, x 68, x 69, x 70, x 71, x 72, x 73, x 74, x 75, x 76, x 77, x 78, x 79, x 80, x 81, x 82, x 83, x 84, x 85, x 86, x 87, x 88, x 89, x 90, x 91, x 92, x 93, x 94, x 95, x 96, x 97, x 98, x 99, x 100, x 101, x 102, x 103, .slice G5 n0 c5, x 105, .slice G6 n1 c6, .int .i64 day, .int .i64 k, .tuple #[.slice Ah (shR ds zss day k).length ch, .bool (shOk ds zss day k)], x 110, x 111, x 112, x 113, x 114, x 115, x 116, x 117, x 118, x 119, x 120, x 121, x 122, x 123, x 124, x 125, x 126, x 127, x 128], []⟩ (.inRegion (opsOf lP23) [7, 8, 9, 10, 11] :: [.code lC24])) cs W) (lone fr cs w') := by
  have hL := shR_len ds zss day k
  obtain ⟨a1, w1, ⟨rfl, rfl⟩, hs1⟩ := ops_more (P := Try.prog) (ops := opsOf lP23) (ops2 := opsOf lP23) (K := fun a u => a = ⟨#[x 0, x 1, x 2, x 3, x 4, x 5, x 6, x 7, x 8, x 9, .slice Aw (shR ds zss day k).length cw, .bool (shOk ds zss day k), x 12, x 13, .slice Ag (shR ds zss day k).length cg, .bool (shOk ds zss day k), x 16, .int .i64 (1 + ((shR ds zss day k).length : Nat)), x 18, .slice Ah (shR ds zss day k).length ch, .bool (shOk ds zss day k), x 21, x 22, x 23, x 24, x 25, x 26, x 27, x 28, x 29, x 30, x 31, x 32, x 33, x 34, x 35, x 36, x 37, x 38, x 39, x 40, x 41, x 42, x 43, x 44, x 45, x 46, x 47, x 48, x 49, x 50, x 51, x 52, x 53, x 54, x 55, x 56, x 57, x 58, x 59, x 60, x 61, x 62, x 63, x 64, x 65, x 66, x 67, x 68, x 69, x 70, x 71, x 72, x 73, x 74, x 75, x 76, x 77, x 78, x 79, x 80, x 81, x 82, x 83, x 84, x 85, x 86, x 87, x 88, x 89, x 90, x 91, x 92, x 93, x 94, x 95, x 96, x 97, x 98, x 99, x 100, x 101, .tuple #[.slice Ah (shR ds zss day k).length ch, .bool (shOk ds zss day k)], x 103, .slice G5 n0 c5, x 105, .slice G6 n1 c6, .int .i64 day, .int .i64 k, .tuple #[.slice Ah (shR ds zss day k).length ch, .bool (shOk ds zss day k)], .slice Ah (shR ds zss day k).length ch, .bool (shOk ds zss day k), x 112, x 113, x 114, x 115, x 116, x 117, x 118, x 119, x 120, x 121, x 122, x 123, x 124, x 125, x 126, x 127, x 128], []⟩ ∧ u = W) (fun _ => rfl) [7, 8, 9, 10, 11] ⟨#[x 0, x 1, x 2, x 3, x 4, x 5, x 6, x 7, x 8, x 9, .slice Aw (shR ds zss day k).length cw, .bool (shOk ds zss day k), x 12, x 13, .slice Ag (shR ds zss day k).length cg, .bool (shOk ds zss day k), x 16, .int .i64 (1 + ((shR ds zss day k).length : Nat)), x 18, x 19, x 20, x 21, x 22, x 23, x 24, x 25, x 26, x 27, x 28, x 29, x 30, x 31, x 32, x 33, x 34, x 35, x 36, x 37, x 38, x 39, x 40, x 41, x 42, x 43, x 44, x 45, x 46, x 47, x 48, x 49, x 50, x 51, x 52, x 53, x 54, x 55, x 56, x 57, x 58, x 59, x 60, x 61, x 62, x 63, x 64, x 65, x 66, x 67, x 68, x 69, x 70, x 71, x 72, x 73, x 74, x 75, x 76, x 77, x 78, x 79, x 80, x 81, x 82, x 83, x 84, x 85, x 86, x 87, x 88, x 89, x 90, x 91, x 92, x 93, x 94, x 95, x 96, x 97, x 98, x 99, x 100, x 101, x 102, x 103, .slice G5 n0 c5, x 105, .slice G6 n1 c6, .int .i64 day, .int .i64 k, .tuple #[.slice Ah (shR ds zss day k).length ch, .bool (shOk ds zss day k)], x 110, x 111, x 112, x 113, x 114, x 115, x 116, x 117, x 118, x 119, x 120, x 121, x 122, x 123, x 124, x 125, x 126, x 127, x 128], []⟩ W (fun _ _ => rfl) (by
    unfold lP23 lC23 lC22 lC21 lC20 lC19 lC18 lC17 lC16 lC15 lC14 lC13 lC12 lC11 lC10 lC9 lC8 lC7 lC6 lC5 lC4 lC3 lC2 lC1 lC0 Try.f3
    dsimp only [sq1, sq2, opsOf]
    go_wp2_with fail
    refine Or.inl ?_
    go_simp
    refine Or.inl ?_
    go_simp
    refine Or.inl ?_
    go_simp
    refine Or.inl ?_
    go_simp
    refine Or.inl ?_
    go_simp
    exact ⟨rfl, rfl, rfl⟩) lB [] [.code lC24] cs
  have key : Gets Try.prog lC24 lC29 lB [] cs (fun a u => ∃ x : Nat → Value, a = ⟨#[x 0, x 1, x 2, x 3, x 4, x 5, x 6, x 7, x 8, x 9, x 10, x 11, x 12, x 13, x 14, x 15, x 16, x 17, x 18, x 19, x 20, x 21, x 22, x 23, x 24, x 25, x 26, x 27, x 28, x 29, x 30, x 31, x 32, x 33, x 34, x 35, x 36, x 37, x 38, x 39, x 40, x 41, x 42, x 43, x 44, x 45, x 46, x 47, x 48, x 49, x 50, x 51, x 52, x 53, x 54, x 55, x 56, x 57, x 58, x 59, x 60, x 61, x 62, x 63, x 64, x 65, x 66, x 67, x 68, x 69, x 70, x 71, x 72, x 73, x 74, x 75, x 76, x 77, x 78, x 79, x 80, x 81, x 82, x 83, x 84, x 85, x 86, x 87, x 88, x 89, x 90, x 91, x 92, x 93, x 94, x 95, x 96, x 97, x 98, x 99, x 100, x 101, x 102, x 103, x 104, x 105, x 106, x 107, x 108, x 109, x 110, x 111, x 112, x 113, x 114, x 115, x 116, x 117, x 118, x 119, x 120, x 121, x 122, x 123, x 124, x 125, x 126, x 127, x 128], []⟩) ⟨#[x 0, x 1, x 2, x 3, x 4, x 5, x 6, x 7, x 8, x 9, .slice Aw (shR ds zss day k).length cw, .bool (shOk ds zss day k), x 12, x 13, .slice Ag (shR ds zss day k).length cg, .bool (shOk ds zss day k), x 16, .int .i64 (1 + ((shR ds zss day k).length : Nat)), x 18, .slice Ah (shR ds zss day k).length ch, .bool (shOk ds zss day k), x 21, x 22, x 23, x 24, x 25, x 26, x 27, x 28, x 29, x 30, x 31, x 32, x 33, x 34, x 35, x 36, x 37, x 38, x 39, x 40, x 41, x 42, x 43, x 44, x 45, x 46, x 47, x 48, x 49, x 50, x 51, x 52, x 53, x 54, x 55, x 56, x 57, x 58, x 59, x 60, x 61, x 62, x 63, x 64, x 65, x 66, x 67, x 68, x 69, x 70, x 71, x 72, x 73, x 74, x 75, x 76, x 77, x 78, x 79, x 80, x 81, x 82, x 83, x 84, x 85, x 86, x 87, x 88, x 89, x 90, x 91, x 92, x 93, x 94, x 95, x 96, x 97, x 98, x 99, x 100, x 101, .tuple #[.slice Ah (shR ds zss day k).length ch, .bool (shOk ds zss day k)], x 103, .slice G5 n0 c5, x 105, .slice G6 n1 c6, .int .i64 day, .int .i64 k, .tuple #[.slice Ah (shR ds zss day k).length ch, .bool (shOk ds zss day k)], .slice Ah (shR ds zss day k).length ch, .bool (shOk ds zss day k), x 112, x 113, x 114, x 115, x 116, x 117, x 118, x 119, x 120, x 121, x 122, x 123, x 124, x 125, x 126, x 127, x 128], []⟩ w1 := by
    refine Gets.step lc24 ?_
    unfold lP24 lC24 lC23 lC22 lC21 lC20 lC19 lC18 lC17 lC16 lC15 lC14 lC13 lC12 lC11 lC10 lC9 lC8 lC7 lC6 lC5 lC4 lC3 lC2 lC1 lC0 Try.f3
    dsimp only [sq1, sq2]
    go_wp2_with fail
    refine (eqInt64S_yes _ _ _ _ _ _ _ (Rd.of_own oh) (Rd.of_own ow) (by omega)).mono ?_
    rintro e w2 ⟨rfl, hb⟩
    replace og := own_on og hb
    clear hb ow oh
    go_wp2_with fail
    refine ⟨rfl, ?_⟩
    refine Gets.step lc25 ?_
    unfold lP25 lC25 lC24 lC23 lC22 lC21 lC20 lC19 lC18 lC17 lC16 lC15 lC14 lC13 lC12 lC11 lC10 lC9 lC8 lC7 lC6 lC5 lC4 lC3 lC2 lC1 lC0 Try.f3
    dsimp only [sq1, sq2]
    go_wp2_with fail
    refine ⟨rfl, ?_⟩
    refine Gets.step lc26 ?_
    unfold lP26 lC26 lC25 lC24 lC23 lC22 lC21 lC20 lC19 lC18 lC17 lC16 lC15 lC14 lC13 lC12 lC11 lC10 lC9 lC8 lC7 lC6 lC5 lC4 lC3 lC2 lC1 lC0 Try.f3
    dsimp only [sq1, sq2]
    go_wp2_with fail
    refine (heldInt64S_any _ _ _ _ _ (Rd.of_own og) (by omega) (by omega) (by omega)).mono ?_
    rintro e w11 ⟨rfl, rfl⟩
    go_wp2_with fail
    refine ⟨rfl, ?_⟩
    refine Gets.step lc27 ?_
    unfold lP27 lC27 lC26 lC25 lC24 lC23 lC22 lC21 lC20 lC19 lC18 lC17 lC16 lC15 lC14 lC13 lC12 lC11 lC10 lC9 lC8 lC7 lC6 lC5 lC4 lC3 lC2 lC1 lC0 Try.f3
    dsimp only [sq1, sq2]
    go_wp2_with fail
    refine ⟨rfl, ?_⟩
    refine Gets.step lc28 ?_
    unfold lP28 lC28 lC27 lC26 lC25 lC24 lC23 lC22 lC21 lC20 lC19 lC18 lC17 lC16 lC15 lC14 lC13 lC12 lC11 lC10 lC9 lC8 lC7 lC6 lC5 lC4 lC3 lC2 lC1 lC0 Try.f3
    dsimp only [sq1, sq2]
    go_wp2_with fail
    refine ⟨rfl, Gets.done ?_⟩
    exact lend_any rfl
  obtain ⟨a2, u, ⟨y, rfl⟩, hs2⟩ := key
  have h29 : lP29.wp Try.prog (QN (fun a u' => ∃ t : Array Value, a = ⟨t, []⟩ ∧ t.getD 8 undef = .bool true)) ⟨#[y 0, y 1, y 2, y 3, y 4, y 5, y 6, y 7, y 8, y 9, y 10, y 11, y 12, y 13, y 14, y 15, y 16, y 17, y 18, y 19, y 20, y 21, y 22, y 23, y 24, y 25, y 26, y 27, y 28, y 29, y 30, y 31, y 32, y 33, y 34, y 35, y 36, y 37, y 38, y 39, y 40, y 41, y 42, y 43, y 44, y 45, y 46, y 47, y 48, y 49, y 50, y 51, y 52, y 53, y 54, y 55, y 56, y 57, y 58, y 59, y 60, y 61, y 62, y 63, y 64, y 65, y 66, y 67, y 68, y 69, y 70, y 71, y 72, y 73, y 74, y 75, y 76, y 77, y 78, y 79, y 80, y 81, y 82, y 83, y 84, y 85, y 86, y 87, y 88, y 89, y 90, y 91, y 92, y 93, y 94, y 95, y 96, y 97, y 98, y 99, y 100, y 101, y 102, y 103, y 104, y 105, y 106, y 107, y 108, y 109, y 110, y 111, y 112, y 113, y 114, y 115, y 116, y 117, y 118, y 119, y 120, y 121, y 122, y 123, y 124, y 125, y 126, y 127, y 128], []⟩ u := by
    unfold lP29 lC29 lC28 lC27 lC26 lC25 lC24 lC23 lC22 lC21 lC20 lC19 lC18 lC17 lC16 lC15 lC14 lC13 lC12 lC11 lC10 lC9 lC8 lC7 lC6 lC5 lC4 lC3 lC2 lC1 lC0 Try.f3
    dsimp only [sq1, sq2]
    go_wp2_with fail
    exact ⟨rfl, _, rfl, rfl⟩
  obtain ⟨a3, u3, ⟨t, rfl, ht⟩, hs3⟩ := wp_steps h29 lB [.code .ret] cs
  refine ⟨_, u3, ⟨t, [.code .ret], rfl, ht⟩, Steps.trans hs1 (.head step_region_end (Steps.trans hs2 ?_))⟩
  rw [lc29]
  exact .head step_seq (Steps.trans hs3 (.one step_ret))

theorem lc3x : lC3 = .seq (.seq (sq1 lP3) (.cond (.tmp 25) (.seq (sq1 (cthen lP3)) .ret) .skip)) lC4 := by kernel_rfl
theorem lc5x : lC5 = .seq (.seq (sq1 lP5) (.cond (.tmp 30) (.seq (sq1 (cthen lP5)) .ret) .skip)) lC6 := by kernel_rfl
set_option maxRecDepth 100000 in
set_option maxHeartbeats 6400000 in
theorem l1_long {H : Nat} (A0 : Option Addr) (n0 c0 : Nat) (ds : List Rl) (A1 : Option Addr) (n1 c1 : Nat) (zss : List (List Int)) (day k : Int) (W : World) (hH : H ≤ W.heap.size) (K0 : RsK W H A0 n0 ds) (K1 : MsK W H A1 n1 zss) (hC : LC n0 ds n1 zss day) (hzs : 1048576 < szD ds + szM zss) (cs : List Frame) :
    ∃ fr w', LEnd fr ∧ Steps Try.prog (lone (Frame.enter Try.prog 3 #[.slice A0 n0 c0, .slice A1 n1 c1, .int .i64 day, .int .i64 k] .normal) cs W) (lone fr cs w') := by
  rw [l_enter]
  have hB : Below H W W := Below.refl _ _
  obtain ⟨m0, m1, hb, hi, hl, bd⟩ := hC
  have r0 := K0.rd
  have r1 := K1.rd
  have HZS := Lib.hid hzs
  clear hzs
  by_cases hz : szD ds ≤ 1048576
  case neg =>
    have HZ := Lib.hid hz
    clear hz
    have key : Gets Try.prog lC0 lC3 lB [] cs (fun a u => ∃ x : Nat → Value, a = ⟨#[.slice A0 n0 c0, .slice A1 n1 c1, .int .i64 day, .int .i64 k, x 4, x 5, x 6, x 7, x 8, .int .i64 (-1), x 10, x 11, x 12, x 13, x 14, x 15, x 16, x 17, x 18, x 19, x 20, x 21, x 22, x 23, x 24, x 25, x 26, x 27, x 28, x 29, x 30, x 31, x 32, x 33, x 34, x 35, x 36, x 37, x 38, x 39, x 40, x 41, x 42, x 43, x 44, x 45, x 46, x 47, x 48, x 49, x 50, x 51, x 52, x 53, x 54, x 55, x 56, x 57, x 58, x 59, x 60, x 61, x 62, x 63, x 64, x 65, x 66, x 67, x 68, x 69, x 70, x 71, x 72, x 73, x 74, x 75, x 76, x 77, x 78, x 79, x 80, x 81, x 82, x 83, x 84, x 85, x 86, x 87, x 88, x 89, x 90, x 91, x 92, x 93, x 94, x 95, x 96, x 97, x 98, x 99, x 100, x 101, x 102, x 103, x 104, x 105, x 106, x 107, x 108, x 109, x 110, x 111, x 112, x 113, x 114, x 115, x 116, x 117, x 118, x 119, x 120, x 121, x 122, x 123, x 124, x 125, x 126, x 127, x 128], []⟩) ⟨#[.slice A0 n0 c0, .slice A1 n1 c1, .int .i64 day, .int .i64 k, undef, undef, undef, undef, undef, undef, undef, undef, undef, undef, undef, undef, undef, undef, undef, undef, undef, undef, undef, undef, undef, undef, undef, undef, undef, undef, undef, undef, undef, undef, undef, undef, undef, undef, undef, undef, undef, undef, undef, undef, undef, undef, undef, undef, undef, undef, undef, undef, undef, undef, undef, undef, undef, undef, undef, undef, undef, undef, undef, undef, undef, undef, undef, undef, undef, undef, undef, undef, undef, undef, undef, undef, undef, undef, undef, undef, undef, undef, undef, undef, undef, undef, undef, undef, undef, undef, undef, undef, undef, undef, undef, undef, undef, undef, undef, undef, undef, undef, undef, undef, undef, undef, undef, undef, undef, undef, undef, undef, undef, undef, undef, undef, undef, undef, undef, undef, undef, undef, undef, undef, undef, undef, undef, undef, undef], []⟩ W := by
      refine Gets.step lc0 ?_
      unfold lP0 lC0 Try.f3
      dsimp only [sq1, sq2]
      go_wp2_with fail
      refine ⟨rfl, ?_⟩
      refine Gets.step lc1 ?_
      unfold lP1 lC1 lC0 Try.f3
      dsimp only [sq1, sq2]
      go_wp2_with fail
      refine ⟨rfl, ?_⟩
      refine Gets.step lc2 ?_
      unfold lP2 lC2 lC1 lC0 Try.f3
      dsimp only [sq1, sq2]
      go_wp2_with fail
      refine (szRs_no _ _ _ ds 1048576 _ ((r0.below hB).more (bH_size hH hB)) (by omega) ⟨hb, m0⟩ (by have := HZ.out; omega)).mono ?_
      rintro e w1 ⟨rfl, hb'⟩
      clear hb'
      go_wp2_with fail
      refine ⟨rfl, Gets.done ?_⟩
      exact lend_neg rfl
    obtain ⟨a2, u, ⟨y, rfl⟩, hs2⟩ := key
    obtain ⟨a3, u3, ⟨t, rfl, ht⟩, hs3⟩ := early (P := Try.prog) (b := lB) (k := []) (cs := cs) (K := fun a u' => ∃ t : Array Value, a = ⟨t, []⟩ ∧ t.getD 8 undef = .bool true) (a := ⟨#[.slice A0 n0 c0, .slice A1 n1 c1, .int .i64 day, .int .i64 k, y 4, y 5, y 6, y 7, y 8, .int .i64 (-1), y 10, y 11, y 12, y 13, y 14, y 15, y 16, y 17, y 18, y 19, y 20, y 21, y 22, y 23, y 24, y 25, y 26, y 27, y 28, y 29, y 30, y 31, y 32, y 33, y 34, y 35, y 36, y 37, y 38, y 39, y 40, y 41, y 42, y 43, y 44, y 45, y 46, y 47, y 48, y 49, y 50, y 51, y 52, y 53, y 54, y 55, y 56, y 57, y 58, y 59, y 60, y 61, y 62, y 63, y 64, y 65, y 66, y 67, y 68, y 69, y 70, y 71, y 72, y 73, y 74, y 75, y 76, y 77, y 78, y 79, y 80, y 81, y 82, y 83, y 84, y 85, y 86, y 87, y 88, y 89, y 90, y 91, y 92, y 93, y 94, y 95, y 96, y 97, y 98, y 99, y 100, y 101, y 102, y 103, y 104, y 105, y 106, y 107, y 108, y 109, y 110, y 111, y 112, y 113, y 114, y 115, y 116, y 117, y 118, y 119, y 120, y 121, y 122, y 123, y 124, y 125, y 126, y 127, y 128], []⟩) (w := u) lc3x (by
      unfold lP3 lC3 lC2 lC1 lC0 Try.f3
      dsimp only [sq1, sq2, cthen]
      go_wp2_with fail
      refine ⟨rfl, by simp, ?_⟩
      go_wp2_with fail
      exact ⟨rfl, _, rfl, rfl⟩)
    exact ⟨_, u3, ⟨t, _, rfl, ht⟩, Steps.trans hs2 hs3⟩
  have key : Gets Try.prog lC0 lC5 lB [] cs (fun a u => ∃ x : Nat → Value, a = ⟨#[.slice A0 n0 c0, .slice A1 n1 c1, .int .i64 day, .int .i64 k, x 4, x 5, x 6, x 7, x 8, .int .i64 (-1), x 10, x 11, x 12, x 13, x 14, x 15, x 16, x 17, x 18, x 19, x 20, x 21, x 22, x 23, x 24, x 25, x 26, x 27, x 28, x 29, x 30, x 31, x 32, x 33, x 34, x 35, x 36, x 37, x 38, x 39, x 40, x 41, x 42, x 43, x 44, x 45, x 46, x 47, x 48, x 49, x 50, x 51, x 52, x 53, x 54, x 55, x 56, x 57, x 58, x 59, x 60, x 61, x 62, x 63, x 64, x 65, x 66, x 67, x 68, x 69, x 70, x 71, x 72, x 73, x 74, x 75, x 76, x 77, x 78, x 79, x 80, x 81, x 82, x 83, x 84, x 85, x 86, x 87, x 88, x 89, x 90, x 91, x 92, x 93, x 94, x 95, x 96, x 97, x 98, x 99, x 100, x 101, x 102, x 103, x 104, x 105, x 106, x 107, x 108, x 109, x 110, x 111, x 112, x 113, x 114, x 115, x 116, x 117, x 118, x 119, x 120, x 121, x 122, x 123, x 124, x 125, x 126, x 127, x 128], []⟩) ⟨#[.slice A0 n0 c0, .slice A1 n1 c1, .int .i64 day, .int .i64 k, undef, undef, undef, undef, undef, undef, undef, undef, undef, undef, undef, undef, undef, undef, undef, undef, undef, undef, undef, undef, undef, undef, undef, undef, undef, undef, undef, undef, undef, undef, undef, undef, undef, undef, undef, undef, undef, undef, undef, undef, undef, undef, undef, undef, undef, undef, undef, undef, undef, undef, undef, undef, undef, undef, undef, undef, undef, undef, undef, undef, undef, undef, undef, undef, undef, undef, undef, undef, undef, undef, undef, undef, undef, undef, undef, undef, undef, undef, undef, undef, undef, undef, undef, undef, undef, undef, undef, undef, undef, undef, undef, undef, undef, undef, undef, undef, undef, undef, undef, undef, undef, undef, undef, undef, undef, undef, undef, undef, undef, undef, undef, undef, undef, undef, undef, undef, undef, undef, undef, undef, undef, undef, undef, undef, undef], []⟩ W := by
    refine Gets.step lc0 ?_
    unfold lP0 lC0 Try.f3
    dsimp only [sq1, sq2]
    go_wp2_with fail
    refine ⟨rfl, ?_⟩
    refine Gets.step lc1 ?_
    unfold lP1 lC1 lC0 Try.f3
    dsimp only [sq1, sq2]
    go_wp2_with fail
    refine ⟨rfl, ?_⟩
    refine Gets.step lc2 ?_
    unfold lP2 lC2 lC1 lC0 Try.f3
    dsimp only [sq1, sq2]
    go_wp2_with fail
    refine (szRs_yes _ _ _ ds 1048576 _ ((r0.below hB).more (bH_size hH hB)) (by omega) ⟨hb, m0⟩ (by omega)).mono ?_
    rintro e w1 ⟨l, rfl, hl1, hl2, hb'⟩
    have HL := Lib.hid hl1
    replace hB := bH_step hH hB hb'
    clear hl1 hb'
    go_wp2_with fail
    refine ⟨rfl, ?_⟩
    refine Gets.step lc3 ?_
    unfold lP3 lC3 lC2 lC1 lC0 Try.f3
    dsimp only [sq1, sq2]
    go_wp2_with fail
    refine ⟨rfl, ?_⟩
    refine Gets.step lc4 ?_
    unfold lP4 lC4 lC3 lC2 lC1 lC0 Try.f3
    dsimp only [sq1, sq2]
    go_wp2_with fail
    refine (szMs_no _ _ _ zss l _ ((r1.below hB).more (bH_size hH hB)) hl2 m1 hl (by have := HZS.out; have := HL.out; omega)).mono ?_
    rintro e w2 ⟨rfl, rfl⟩
    go_wp2_with fail
    refine ⟨rfl, Gets.done ?_⟩
    exact lend_neg rfl
  obtain ⟨a2, u, ⟨y, rfl⟩, hs2⟩ := key
  obtain ⟨a3, u3, ⟨t, rfl, ht⟩, hs3⟩ := early (P := Try.prog) (b := lB) (k := []) (cs := cs) (K := fun a u' => ∃ t : Array Value, a = ⟨t, []⟩ ∧ t.getD 8 undef = .bool true) (a := ⟨#[.slice A0 n0 c0, .slice A1 n1 c1, .int .i64 day, .int .i64 k, y 4, y 5, y 6, y 7, y 8, .int .i64 (-1), y 10, y 11, y 12, y 13, y 14, y 15, y 16, y 17, y 18, y 19, y 20, y 21, y 22, y 23, y 24, y 25, y 26, y 27, y 28, y 29, y 30, y 31, y 32, y 33, y 34, y 35, y 36, y 37, y 38, y 39, y 40, y 41, y 42, y 43, y 44, y 45, y 46, y 47, y 48, y 49, y 50, y 51, y 52, y 53, y 54, y 55, y 56, y 57, y 58, y 59, y 60, y 61, y 62, y 63, y 64, y 65, y 66, y 67, y 68, y 69, y 70, y 71, y 72, y 73, y 74, y 75, y 76, y 77, y 78, y 79, y 80, y 81, y 82, y 83, y 84, y 85, y 86, y 87, y 88, y 89, y 90, y 91, y 92, y 93, y 94, y 95, y 96, y 97, y 98, y 99, y 100, y 101, y 102, y 103, y 104, y 105, y 106, y 107, y 108, y 109, y 110, y 111, y 112, y 113, y 114, y 115, y 116, y 117, y 118, y 119, y 120, y 121, y 122, y 123, y 124, y 125, y 126, y 127, y 128], []⟩) (w := u) lc5x (by
    unfold lP5 lC5 lC4 lC3 lC2 lC1 lC0 Try.f3
    dsimp only [sq1, sq2, cthen]
    go_wp2_with fail
    refine ⟨rfl, by simp, ?_⟩
    go_wp2_with fail
    exact ⟨rfl, _, rfl, rfl⟩)
  exact ⟨_, u3, ⟨t, _, rfl, ht⟩, Steps.trans hs2 hs3⟩
end Go.Proofs.Ytmfglflahlddbaa

