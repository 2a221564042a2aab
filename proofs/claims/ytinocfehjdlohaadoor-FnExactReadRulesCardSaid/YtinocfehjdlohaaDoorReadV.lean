/-
  ReadRule: the reference's function.
-/
import Derived.Test.YtinocfehjdlohaaDoorReadL
namespace Go.Proofs.YtinocfehjdlohaaDoor
open Go.ChangeShapes Go.WideShapes Go.ChangeAt Go.RowKit
set_option linter.unusedVariables false
set_option linter.unusedSimpArgs false

theorem l05Read_as {l : List UInt8} {b : Bool} (h : goodS l = b) (w : World) (hl : l.length ≤ 1048576) : Calls Tryd.prog 35 #[.string (txB l)] w fun E w' =>
    ∃ (hd : Int) (A : Option Addr) (n c : Nat) (fr tt rk : Int) (zs : List Int), E = .returned (.tuple #[.agg #[.int .i64 hd, .slice A n c, .int .i64 fr, .int .i64 tt, .int .i64 rk], .bool b]) ∧
    (b = true → parseR l = ⟨hd, zs, fr, tt, rk⟩ ∧ w'.ownsRow w.heap.size tI 1 (.slice A n c) n (ints zs)) ∧ Below w.heap.size w w' := by
  have H := l05Read_is l w hl
  unfold RdEnds at H
  rw [h] at H
  exact H
theorem rr_eq {l : List UInt8} {b : Bool} (h : goodS l = b) : ReadRule_r0 l = (if b then parseR l else zeroRl) ∧ ReadRule_r1 l = b := by
  rw [good_same] at h
  unfold ReadRule_r0 ReadRule_r1
  rw [h]
  exact ⟨rfl, rfl⟩
set_option maxRecDepth 100000 in
set_option maxHeartbeats 2000000 in
theorem spec_ReadRule (l : List UInt8) (w : World) (hl : l.length ≤ 1048576) : Calls Tryd.prog 17 #[.string (txB l)] w (ReadEnds w (ReadRule_r0 l) (ReadRule_r1 l)) := by
  obtain ⟨b, hb⟩ : ∃ b, goodS l = b := ⟨_, rfl⟩
  have HE := Lib.hid (rr_eq hb)
  have HR := Lib.hid (fun w => l05Read_as hb w hl)
  clear hb
  have hb0 := (Below.alloc (Below.refl w.heap.size w) (Nat.le_refl _) (.cells #[.int .i64 0, .slice none 0 0, .int .i64 0, .int .i64 0, .int .i64 0] 28))
  have HB0 := Lib.hid hb0
  have HX0 := Lib.hid (BoxF.new w zr 28)
  clear hb0
  go_enter Tryd.func17, Tryd.ntmps17
  go_wp2_with fail
  refine (HR.out _).mono ?_
  rintro e w4 ⟨hd, A, n, c, fr, tt, rk, zs, rfl, hg, hb⟩
  have hs : w.heap.size + 1 ≤ w4.heap.size := by have := hb.size; simpa using this
  have B4 := HX0.out.below hb (by simp)
  have B5 := Lib.hid (B4.below (Below.alloc (Below.refl w4.heap.size w4) (Nat.le_refl _) (.cells #[.int .i64 hd, .slice A n c, .int .i64 fr, .int .i64 tt, .int .i64 rk] 28)) (by omega))
  have N5 := Lib.hid (BoxF.new w4 ⟨hd, fr, tt, rk, A, n, c, zs⟩ 28)
  have HB5 := Lib.hid (below_step HB0.out (hb.alloc hb.size (.cells #[.int .i64 hd, .slice A n c, .int .i64 fr, .int .i64 tt, .int .i64 rk] 28)))
  have HG := Lib.hid hg
  have HS := Lib.hid hs
  clear hb B4 hg hs HB0 HX0 HR
  obtain ⟨y0, y1, y2, y3, y4⟩ := B5.out.box
  have g0 := B5.out.fz 0; have g1 := B5.out.fz 1; have g2 := B5.out.fz 2; have g3 := B5.out.fz 3; have g4 := B5.out.fz 4
  obtain ⟨x0, x1, x2, x3, x4⟩ := N5.out.box
  dsimp only [zr] at y0 y1 y2 y3 y4 x0 x1 x2 x3 x4
  cases b
  · go_wp2_with fail
    (try simp only [Exit.inBlock, Exit.then])
    refine bodyPost_ret (v := .tuple #[.agg #[.int .i64 0, .slice none 0 0, .int .i64 0, .int .i64 0, .int .i64 0], .bool false]) (results_cell_tmp rfl _ _ rfl rfl ?_) rfl ?_
    · go_simp
    · rw [HE.out.1, HE.out.2]
      refine ⟨none, 0, 0, rfl, World.ownsRow_nil _ _ _ _, ?_⟩
      iterate 5 (refine Below.setCell ?_ (by exact Nat.le_refl _) _)
      exact HB5.out
  · obtain ⟨hp, ho⟩ := HG.out rfl
    have HO := Lib.hid (ho.alloc (.cells #[.int .i64 hd, .slice A n c, .int .i64 fr, .int .i64 tt, .int .i64 rk] 28))
    have HP := Lib.hid hp
    clear hp ho
    go_wp2_with fail
    (try simp only [Exit.inBlock, Exit.then])
    refine bodyPost_ret (v := .tuple #[.agg #[.int .i64 hd, .slice A n c, .int .i64 fr, .int .i64 tt, .int .i64 rk], .bool true]) (results_cell_tmp rfl _ _ rfl rfl ?_) rfl ?_
    · go_simp
    · rw [HE.out.1, HE.out.2, if_pos (by trivial), HP.out]
      refine ⟨_, _, _, rfl, ?_, ?_⟩
      · refine own_base (base := w.heap.size + 1) ?_ (by omega)
        iterate 5 (refine own_far ?_ (Nat.lt_succ_self _) _)
        exact own_base HO.out (by simp)
      · iterate 5 (refine Below.setCell ?_ (by exact Nat.le_refl _) _)
        exact HB5.out
end Go.Proofs.YtinocfehjdlohaaDoor
