/-
  RuleText, RulesText: what the program's and the reference's functions return.
-/
import Derived.Test.YtinocfehjdlohaaDoorTxtT
import Derived.Test.YtinocfehjdlohaaDoorRuBy
namespace Go.Proofs.YtinocfehjdlohaaDoor
open Go.ChangeShapes Go.WideShapes Go.ChangeAt Go.RowKit
set_option linter.unusedVariables false
set_option linter.unusedSimpArgs false

def RuleText_r0 (d : Rl) : List UInt8 := if validB d then ruleTx d else []
def RuleText_r1 (d : Rl) : Bool := validB d
theorem rt_no {d : Rl} (h : validB d = false) : RuleText_r0 d = [] ∧ RuleText_r1 d = false := by simp [RuleText_r0, RuleText_r1, h]
theorem rt_yes {d : Rl} (h : validB d = true) : RuleText_r0 d = ruleTx d ∧ RuleText_r1 d = true := by simp [RuleText_r0, RuleText_r1, h]
theorem ruleTx_len {d : Rl} (h : validB d = true) : (ruleTx d).length ≤ 400 := by
  have hv := rlV h
  have h1 := preTx_len hv
  have h2 := ifsTake_len hv.i64 hv.n d.ifs.length
  rw [List.take_length] at h2
  have h3 := itoa_len (n := d.hd) (by have := hv.hd; omega)
  rw [ruleTx_pre]
  unfold ifsTx2
  simp only [List.length_append, List.length_cons, List.length_nil]
  split
  · simp only [List.length_nil]; omega
  · simp only [List.length_cons, List.length_nil]; omega
set_option maxHeartbeats 800000 in
theorem impl_RuleText (hd fr tt rk : Int) (A : Option Addr) (n c : Nat) (ifs : List Int) (w : World) (hr : Rd w w.heap.size 1 A n (ints ifs)) (hn : n ≤ 1048576) (hb : RlB ⟨hd, ifs, fr, tt, rk⟩) (ht : Tab w) :
    Calls Tryd.prog 10 #[.agg #[.int .i64 hd, .slice A n c, .int .i64 fr, .int .i64 tt, .int .i64 rk]] w fun e w' => e = .returned (.tuple #[.string (txB (RuleText_r0 ⟨hd, ifs, fr, tt, rk⟩)), .bool (RuleText_r1 ⟨hd, ifs, fr, tt, rk⟩)]) ∧ Below w.heap.size w w' := by
  have hz : I64s ifs := hb.ifs
  have HR := Lib.hid hr
  have HZ := Lib.hid hz
  have HT := Lib.hid ht
  have HL := Lib.hid hr.ilen
  clear hr hz ht hb
  have hb0 := Below.alloc (Below.refl w.heap.size w) (Nat.le_refl _) (.cells #[.int .i64 hd, .slice A n c, .int .i64 fr, .int .i64 tt, .int .i64 rk] 28)
  have HB0 := Lib.hid hb0
  clear hb0
  cases hv : validB ⟨hd, ifs, fr, tt, rk⟩
  · have hfin := Lib.hid (rt_no hv)
    go_enter Tryd.func10, Tryd.ntmps10
    go_wp2_with fail
    refine (validRule_is _ _ _ _ _ _ _ ifs _ (HR.out.on HB0.out) hn HZ.out hv).mono ?_
    rintro e w1 ⟨rfl, hb1⟩
    have HB1 := Lib.hid (below_step HB0.out hb1)
    clear hb1
    go_wp2_with fail
    go_ret2
    exact ⟨by rw [hfin.out.1, hfin.out.2]; rfl, HB1.out⟩
  · have hfin := Lib.hid (rt_yes hv)
    have V := rlV hv
    have hn6 : n ≤ 6 := by have := HL.out; have := V.n; change ifs.length ≤ 6 at this; omega
    have b1 := V.fr; have b2 := V.tt; have b3 := V.rk; have b4 := V.hd
    change 0 ≤ fr ∧ fr ≤ 100000 at b1
    change 0 ≤ tt ∧ tt ≤ 100000 at b2
    change 0 ≤ rk ∧ rk ≤ 100 at b3
    change -1000000 ≤ hd ∧ hd ≤ 1000000 at b4
    have HV := Lib.hid V
    clear V
    go_enter Tryd.func10, Tryd.ntmps10
    go_wp2_with fail
    refine (validRule_is _ _ _ _ _ _ _ ifs _ (HR.out.on HB0.out) hn HZ.out hv).mono ?_
    rintro e w1 ⟨rfl, hb1⟩
    have HX := BoxF.below (BoxF.new w ⟨hd, fr, tt, rk, A, n, c, ifs⟩ 28) hb1 (by simp)
    have HB1 := Lib.hid (below_step HB0.out hb1)
    clear hb1
    obtain ⟨⟨x0, x1, x2, x3, x4⟩, _⟩ := HX
    dsimp only at x0 x1 x2 x3 x4
    go_wp2_with fail
    clear x0 x1 x2 x3 x4
    refine (ruleText_is hd fr tt rk _ _ _ ifs _ (HR.out.on HB1.out) (by omega) HZ.out (by omega) (by omega) (by omega) (by omega) (HT.out.on HB1.out)).mono ?_
    rintro e w2 ⟨rfl, hb2⟩
    have HB2 := Lib.hid (below_step HB1.out hb2)
    clear hb2
    go_wp2_with fail
    go_ret2
    exact ⟨by rw [hfin.out.1, hfin.out.2]; rfl, HB2.out⟩
theorem AtP.box {w : World} {g : Nat} {r : Ru} (h : Box w g r) : AtP w ⟨g, 0, none⟩ r := ⟨h.c0, h.c1, h.c2, h.c3, h.c4⟩
set_option maxHeartbeats 800000 in
theorem spec_RuleText (hd fr tt rk : Int) (A : Option Addr) (n c : Nat) (ifs : List Int) (w : World) (hr : Rd w w.heap.size 1 A n (ints ifs)) (hn : n ≤ 1048576) (hb : RlB ⟨hd, ifs, fr, tt, rk⟩) :
    Calls Tryd.prog 8 #[.agg #[.int .i64 hd, .slice A n c, .int .i64 fr, .int .i64 tt, .int .i64 rk]] w fun e w' => e = .returned (.tuple #[.string (txB (RuleText_r0 ⟨hd, ifs, fr, tt, rk⟩)), .bool (RuleText_r1 ⟨hd, ifs, fr, tt, rk⟩)]) ∧ Below w.heap.size w w' := by
  have hz : I64s ifs := hb.ifs
  have HR := Lib.hid hr
  have HZ := Lib.hid hz
  clear hr hz hb
  have hb0 := Below.alloc (Below.refl w.heap.size w) (Nat.le_refl _) (.cells #[.int .i64 hd, .slice A n c, .int .i64 fr, .int .i64 tt, .int .i64 rk] 28)
  have HB0 := Lib.hid hb0
  have HX := Lib.hid (AtP.box (BoxF.new w ⟨hd, fr, tt, rk, A, n, c, ifs⟩ 28).box)
  clear hb0
  cases hv : validB ⟨hd, ifs, fr, tt, rk⟩
  · have hfin := Lib.hid (rt_no hv)
    go_enter Tryd.func8, Tryd.ntmps8
    go_wp2_with fail
    refine (l05Rule_is _ ⟨hd, fr, tt, rk, A, n, c, ifs⟩ _ HX.out (HR.out.on HB0.out) hn HZ.out hv).mono ?_
    rintro e w1 ⟨rfl, j, rfl⟩
    go_wp2_with fail
    go_ret2
    exact ⟨by rw [hfin.out.1, hfin.out.2]; rfl, below_drewN HB0.out _⟩
  · have hfin := Lib.hid (rt_yes hv)
    have V := rlV hv
    have HV := Lib.hid V
    clear V
    go_enter Tryd.func8, Tryd.ntmps8
    go_wp2_with fail
    refine (l05Rule_is _ ⟨hd, fr, tt, rk, A, n, c, ifs⟩ _ HX.out (HR.out.on HB0.out) hn HZ.out hv).mono ?_
    rintro e w1 ⟨rfl, j, rfl⟩
    have HB1 := Lib.hid (below_drewN HB0.out j)
    have HX1 := Lib.hid (HX.out.drewN j)
    go_wp2_with fail
    refine (l05Text_is _ ⟨hd, fr, tt, rk, A, n, c, ifs⟩ _ HX1.out (by simp) (HR.out.on HB1.out) HV.out).mono ?_
    rintro e w2 ⟨rfl, hb2⟩
    have HB2 := Lib.hid (below_step HB1.out hb2)
    clear hb2
    go_wp2_with fail
    go_ret2
    exact ⟨by rw [hfin.out.1, hfin.out.2]; rfl, HB2.out⟩
end Go.Proofs.YtinocfehjdlohaaDoor
