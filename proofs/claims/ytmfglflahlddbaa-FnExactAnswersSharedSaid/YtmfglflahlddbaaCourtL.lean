/-
  l05Answer: the reference's state of all words is the least pair.
-/
import Derived.Test.YtmfglflahlddbaaCoZa
import Derived.StillTailTactics
import Derived.Deep.LoopGhost
namespace Go.Proofs.Ytmfglflahlddbaa
open Go.ChangeShapes Go.WideShapes Go.ChangeAt Go.RowKit
set_option linter.unusedVariables false
set_option linter.unusedSimpArgs false

theorem state_cells : Try.zeroCells70 = Array.replicate 96 (.bool false) := by kernel_rfl
theorem state_new (w : World) (t : TypeId) : St (w.alloc (.cells Try.zeroCells70 t)) w.heap.size (fun _ => false) (fun _ => false) (fun _ => false) := by
  rw [state_cells]
  have hc : ∀ i, i < 96 → (w.alloc (.cells (Array.replicate 96 (.bool false)) t)).cell? ⟨w.heap.size, i, none⟩ = some (.bool false) := fun i hi => by
    rw [World.cell?_alloc_at _ _ _ _ rfl]; simp [hi]
  exact ⟨by simp, fun x hx => hc _ (by have := place_lt hx; omega), fun x hx => hc _ (by have := place_lt hx; omega), fun x hx => hc _ (by have := place_lt hx; omega), fun i hi => by go_simp⟩
theorem place_inj {x z : Int} (hx : wordB x = true) (hz : wordB z = true) (h : placeOf x = placeOf z) : x = z := by
  rw [← (word_place hx).2, ← (word_place hz).2, h]
theorem below_setFar {W w : World} (h : Below W.heap.size W w) {p : Addr} (v : Value) (hp : W.heap.size ≤ p.block) : Below W.heap.size W (w.setCell p v) :=
  ⟨h.os, h.tape, h.output, by simpa [World.setCell] using h.size, fun q hq => (Below.heap_setCell _ _ _ _ (by omega)).trans (h.block q hq)⟩
section
variable {w : World} {sb : Nat} {y n f : Int → Bool} {x : Int}
theorem set_other (w : World) (sb j : Nat) (v : Value) (i : Nat) (hi : j ≠ i) : (w.setCell ⟨sb, j, none⟩ v).cell? ⟨sb, i, none⟩ = w.cell? ⟨sb, i, none⟩ :=
  World.cell?_setCell_other w _ _ _ (fun e => hi (by injection e))
theorem set_frozen (w : World) (p q : Addr) (v : Value) : (w.setCell p v).frozen? q = w.frozen? q := by go_simp
theorem St.setY (h : St w sb y n f) (hx : wordB x = true) : St (w.setCell ⟨sb, placeOf x, none⟩ (.bool true)) sb (putB y x) n f := by
  have hp := place_lt hx
  refine ⟨by simpa [World.setCell] using h.lt, fun z hz => ?_, fun z hz => ?_, fun z hz => ?_, fun i hi => by rw [set_frozen]; exact h.fz i hi⟩
  · by_cases e : z = x
    · subst e; rw [World.cell?_setCell_same _ _ _ (h.yes z hz)]; simp [putB]
    · rw [set_other _ _ _ _ _ (fun h2 => e (place_inj hx hz h2).symm), h.yes z hz]; simp [putB, e]
  · rw [set_other _ _ _ _ _ (by omega), h.no z hz]
  · rw [set_other _ _ _ _ _ (by omega), h.fact z hz]
theorem St.setN (h : St w sb y n f) (hx : wordB x = true) : St (w.setCell ⟨sb, 32 + placeOf x, none⟩ (.bool true)) sb y (putB n x) f := by
  have hp := place_lt hx
  refine ⟨by simpa [World.setCell] using h.lt, fun z hz => ?_, fun z hz => ?_, fun z hz => ?_, fun i hi => by rw [set_frozen]; exact h.fz i hi⟩
  · have := place_lt hz; rw [set_other _ _ _ _ _ (by omega), h.yes z hz]
  · by_cases e : z = x
    · subst e; rw [World.cell?_setCell_same _ _ _ (h.no z hz)]; simp [putB]
    · rw [set_other _ _ _ _ _ (fun h2 => e (place_inj hx hz (by omega)).symm), h.no z hz]; simp [putB, e]
  · rw [set_other _ _ _ _ _ (by omega), h.fact z hz]
theorem St.setF (h : St w sb y n f) (hx : wordB x = true) : St (w.setCell ⟨sb, 64 + placeOf x, none⟩ (.bool true)) sb y n (putB f x) := by
  have hp := place_lt hx
  refine ⟨by simpa [World.setCell] using h.lt, fun z hz => ?_, fun z hz => ?_, fun z hz => ?_, fun i hi => by rw [set_frozen]; exact h.fz i hi⟩
  · have := place_lt hz; rw [set_other _ _ _ _ _ (by omega), h.yes z hz]
  · have := place_lt hz; rw [set_other _ _ _ _ _ (by omega), h.no z hz]
  · by_cases e : z = x
    · subst e; rw [World.cell?_setCell_same _ _ _ (h.fact z hz)]; simp [putB]
    · rw [set_other _ _ _ _ _ (fun h2 => e (place_inj hx hz (by omega)).symm), h.fact z hz]; simp [putB, e]
theorem St.drew (h : St w sb y n f) : St w.drew sb y n f := ⟨h.lt, h.yes, h.no, h.fact, h.fz⟩
theorem St.eq {y' n' f' : Int → Bool} (h : St w sb y n f) (h1 : y = y') (h2 : n = n') (h3 : f = f') : St w sb y' n' f' := by subst h1 h2 h3; exact h
end
theorem fac_more {fs : List Int} {q : Nat} (h : q < fs.length) : putB (facB (fs.take q)) (fs[q]?.getD 0) = facB (fs.take (q + 1)) := by
  funext z
  unfold putB facB
  rw [take_snoc fs q 0 h, List.any_append]; simp
theorem facn_more {fs : List Int} {q : Nat} (h : q < fs.length) : putB (fun z => facB (fs.take q) (-z)) (-(fs[q]?.getD 0)) = fun z => facB (fs.take (q + 1)) (-z) := by
  funext z
  rw [← fac_more h]
  unfold putB
  congr 1
  rw [Bool.eq_iff_iff]; simp only [beq_iff_eq]; omega
theorem wrapI {x : Int} (h : -1000000 ≤ x ∧ x ≤ 1000000) : IntKind.i64.wrap x = x := by
  simp [IntKind.wrap, IntKind.bits, IntKind.signed]; omega
theorem l05Place_st (x : Int) (w : World) (h : wordB x = true) : Calls Try.prog 54 #[.int .i64 x] w fun e w' => e = .returned (.int .i64 (placeOf x : Int)) ∧ w' = w :=
  (l05Place_is x w h).mono fun e w' ⟨h1, h2⟩ => ⟨h1, h2.symm⟩
theorem RsW.on {w w' : World} {m : Nat} {A : Option Addr} {rs : List Ru} (h : RsW w w.heap.size A m rs) (hb : Below w.heap.size w w') : RsW w' w'.heap.size A m rs := ⟨h.rd.on hb, h.n⟩
/-- a state in the making: below the least pair, above the facts -/
structure An (W wr : World) (sb : Nat) (fs : List Int) (ds : List Rl) (y n : Int → Bool) : Prop where
  st : St wr sb y n (facB fs)
  so : Sound fs ds y n
  ly : Le (facB fs) y
  ln : Le (fun x => facB fs (-x)) n
  be : Below W.heap.size W wr
/-- the same within a round: nothing has turned and the words so far want nothing, or more is said than before -/
structure AnP (W wr : World) (sb : Nat) (fs : List Int) (ds : List Rl) (y0 n0 : Int → Bool) (b : Bool) (p : Nat) (y n : Int → Bool) : Prop where
  an : An W wr sb fs ds y n
  f : b = false → y = y0 ∧ n = n0 ∧ StepsTo fs ds y0 n0 p
  t : b = true → cntB y0 + cntB n0 < cntB y + cntB n
section
variable {W wr : World} {sb : Nat} {fs : List Int} {ds : List Rl} {y n y0 n0 : Int → Bool} {b : Bool} {p : Nat} {x : Int}
theorem An.drewN (h : An W wr sb fs ds y n) (j : Nat) : An W (wr.drewN j) sb fs ds y n := ⟨h.st.drewN j, h.so, h.ly, h.ln, below_drewN h.be j⟩
theorem AnP.drewN (h : AnP W wr sb fs ds y0 n0 b p y n) (j : Nat) : AnP W (wr.drewN j) sb fs ds y0 n0 b p y n := ⟨h.an.drewN j, h.f, h.t⟩
theorem AnP.ge (h : AnP W wr sb fs ds y0 n0 b p y n) : cntB y0 + cntB n0 ≤ cntB y + cntB n := by
  cases b
  · obtain ⟨h1, h2, _⟩ := h.f rfl; rw [h1, h2]; exact Nat.le_refl _
  · exact Nat.le_of_lt (h.t rfl)
theorem AnP.skip (h : AnP W wr sb fs ds y0 n0 b p y n) (hx : wordList[p]? = some x) (h1 : stepY fs ds y n x = true → y x = true) (h2 : stepN fs ds y n x = true → n x = true) : AnP W wr sb fs ds y0 n0 b (p + 1) y n :=
  ⟨h.an, fun hb => by obtain ⟨e1, e2, e3⟩ := h.f hb; subst e1 e2; exact ⟨rfl, rfl, steps_more e3 hx h1 h2⟩, h.t⟩
theorem AnP.up {q : Nat} (h : AnP W wr sb fs ds y0 n0 true p y n) : AnP W wr sb fs ds y0 n0 true q y n := ⟨h.an, fun hb => (by cases hb), h.t⟩
theorem AnP.putY (h : AnP W wr sb fs ds y0 n0 b p y n) (hw : wordB x = true) (hf : y x = false) (hs : stepY fs ds y n x = true) (hsb : W.heap.size ≤ sb) : AnP W (wr.setCell ⟨sb, placeOf x, none⟩ (.bool true)) sb fs ds y0 n0 true p (putB y x) n :=
  ⟨⟨h.an.st.setY hw, sound_putY h.an.so (soundY h.an.so hw hs), fun z hz => le_put y x z (h.an.ly z hz), h.an.ln, below_setFar h.an.be _ hsb⟩, fun hb => (by cases hb), fun _ => by have := h.ge; have := cnt_put_eq hw hf; omega⟩
theorem AnP.putN (h : AnP W wr sb fs ds y0 n0 b p y n) (hw : wordB x = true) (hf : n x = false) (hs : stepN fs ds y n x = true) (hsb : W.heap.size ≤ sb) : AnP W (wr.setCell ⟨sb, 32 + placeOf x, none⟩ (.bool true)) sb fs ds y0 n0 true p y (putB n x) :=
  ⟨⟨h.an.st.setN hw, sound_putN h.an.so (soundN h.an.so hw hs), h.an.ly, fun z hz => le_put n x z (h.an.ln z hz), below_setFar h.an.be _ hsb⟩, fun hb => (by cases hb), fun _ => by have := h.ge; have := cnt_put_eq hw hf; omega⟩
end
theorem wordList_pos (a : Nat) (h : a < 16) : wordList[2 * a]? = some ((a + 1 : Nat) : Int) ∧ wordList[2 * a + 1]? = some (-((a + 1 : Nat) : Int)) := by
  have : ∀ a, a < 16 → wordList[2 * a]? = some ((a + 1 : Nat) : Int) ∧ wordList[2 * a + 1]? = some (-((a + 1 : Nat) : Int)) := by decide
  exact this a h
theorem word_side {a s : Nat} (ha : a < 16) (hs : s < 2) : ∃ x : Int, wordList[2 * a + s]? = some x ∧ wordB x = true ∧ (1 - 2 * (s : Int)) * ((a : Int) + 1) = x := by
  have h1 := wordList_pos a ha
  rcases (show s = 0 ∨ s = 1 by omega) with rfl | rfl
  · exact ⟨_, h1.1, wordB_iff.2 (by omega), by simp⟩
  · exact ⟨_, h1.2, wordB_iff.2 (by omega), by omega⟩
set_option maxRecDepth 100000 in
set_option maxHeartbeats 800000 in
theorem l05Answer_is (A : Option Addr) (m c : Nat) (rs : List Ru) (B : Option Addr) (k d : Nat) (fs : List Int) (w : World) (hr : RsW w w.heap.size A m rs) (hm : m ≤ 1048576) (hf : Rd w w.heap.size 1 B k (ints fs)) (hk : k ≤ 1048576) (hw : wordsB fs = true) :
    Calls Try.prog 37 #[.slice A m c, .slice B k d] w fun e w' => ∃ sb, e = .returned (.pointer (some ⟨sb, 0, none⟩)) ∧ w.heap.size ≤ sb ∧ St w' sb (lfpY fs (rs.map Ru.dat)) (lfpN fs (rs.map Ru.dat)) (facB fs) ∧ Below w.heap.size w w' := by
  obtain ⟨ds, hds⟩ : ∃ ds, ds = rs.map Ru.dat := ⟨_, rfl⟩
  rw [← hds]
  have HD := Lib.hid hds
  clear hds
  have HFL := Lib.hid hf.ilen
  have HWD := Lib.hid hw
  have HR := Lib.hid hr
  clear hw hr
  go_enter Try.func37, Try.ntmps37
  go_wp2_with fail
  go_loopw [6, 16] (fun _ i wr => ∃ q : Nat, q ≤ k ∧ i = .int .i64 q ∧ St wr w.heap.size (facB (fs.take q)) (fun x => facB (fs.take q) (-x)) (facB (fs.take q)) ∧ Below w.heap.size w wr) (fun _ i _ => k - (intOf i).toNat)
  case atStart => exact ⟨0, Nat.zero_le _, rfl, state_new _ _, bl_a _⟩
  case round =>
    obtain ⟨q, hq, rfl, hS, hb⟩ := hrel
    by_cases hlt : q < k
    · obtain ⟨ad, rfl, hc⟩ := hf.int hlt
      have hcl : (ad.add q).block < w.heap.size := by
        obtain ⟨ad2, e2, hb2, _⟩ := hf.2 (by omega)
        cases e2
        unfold Addr.add; split <;> exact hb2
      have hwx := wordsTo_word (zs := fs) (k := fs.length) HWD.out (i := q) (by have := HFL.out; omega)
      have HY := Lib.hid (fac_more (fs := fs) (q := q) (by have := HFL.out; omega))
      have HN := Lib.hid (facn_more (fs := fs) (q := q) (by have := HFL.out; omega))
      obtain ⟨x, hx⟩ : ∃ x, x = fs[q]?.getD 0 := ⟨_, rfl⟩
      rw [← hx] at hc hwx HY HN
      clear hx
      have HC := Lib.hid (fun (W : World) (hB : Below w.heap.size w W) => (hB.cell hcl).trans hc)
      have hxb := wordB_iff.1 hwx
      have hwn : wordB (-x) = true := wordB_iff.2 (by omega)
      have p1 : (placeOf x : Int) < 32 := by have := place_lt hwx; omega
      have p2 : (0 : Int) ≤ placeOf x := by omega
      have p3 : (placeOf (-x) : Int) < 32 := by have := place_lt hwn; omega
      have p4 : (0 : Int) ≤ placeOf (-x) := by omega
      have i1 : (0 : Int) ≤ q := by omega
      have i2 : (q : Int) < k := by omega
      have hcx := HC.out _ hb
      have y1 := hS.yes x hwx
      have z1 := hS.fz (placeOf x) (by have := place_lt hwx; omega)
      have HS1 := Lib.hid (hS.setY hwx).drew
      have HB1 := Lib.hid (below_setFar hb (p := ⟨w.heap.size, placeOf x, none⟩) (.bool true) (Nat.le_refl _)).drew
      have HWX := Lib.hid hwx
      have HWN := Lib.hid hwn
      clear hwx hwn hS hb hc hcl
      go_wp2_with fail
      go_still_tail 9, (by kernel_rfl)
      change wpStill _ _ (World.drew _) _ _ _
      refine wpStill_step (fun K hK => ?_)
      go_simp
      refine Exists.intro (.int .i64 (placeOf (x) : Int)) ?_
      refine And.intro (l05Place_st (x) _ HWX.out) ?_
      refine hK _ ?_
      clear hK K
      repeat still_step
      refine wpStill_nil ?_
      change wpList _ _ _ _ _ (World.drew _)
      go_wp2_with fail
      generalize (wr.setCell ⟨w.heap.size, placeOf x, none⟩ (.bool true)).drew = w1 at HS1 HB1 ⊢
      clear hcx y1 z1
      have hcx := HC.out _ HB1.out
      have y1 := HS1.out.fact x HWX.out
      have z1 := HS1.out.fz (64 + placeOf x) (by have := place_lt HWX.out; omega)
      have HS2 := Lib.hid (HS1.out.setF HWX.out).drew
      have HB2 := Lib.hid (below_setFar HB1.out (p := ⟨w.heap.size, 64 + placeOf x, none⟩) (.bool true) (Nat.le_refl _)).drew
      go_still_tail 9, (by kernel_rfl)
      change wpStill _ _ (World.drew _) _ _ _
      refine wpStill_step (fun K hK => ?_)
      go_simp
      refine Exists.intro (.int .i64 (placeOf (x) : Int)) ?_
      refine And.intro (l05Place_st (x) _ HWX.out) ?_
      refine hK _ ?_
      clear hK K
      repeat still_step
      refine wpStill_nil ?_
      change wpList _ _ _ _ _ (World.drew _)
      go_wp2_with fail
      generalize (w1.setCell ⟨w.heap.size, 64 + placeOf x, none⟩ (.bool true)).drew = w2 at HS2 HB2 ⊢
      clear hcx y1 z1
      have hcx := HC.out _ HB2.out
      have y1 := HS2.out.no (-x) HWN.out
      have z1 := HS2.out.fz (32 + placeOf (-x)) (by have := place_lt HWN.out; omega)
      have HS3 := Lib.hid (HS2.out.setN HWN.out).drew
      have HB3 := Lib.hid (below_setFar HB2.out (p := ⟨w.heap.size, 32 + placeOf (-x), none⟩) (.bool true) (Nat.le_refl _)).drew
      have hwrap : IntKind.i64.wrap (-x) = -x := wrapI (by omega)
      go_still_tail 10, (by kernel_rfl)
      change wpStill _ _ (World.drew _) _ _ _
      refine wpStill_step (fun K hK => ?_)
      go_simp
      refine Exists.intro (.int .i64 (placeOf (-x) : Int)) ?_
      refine And.intro (l05Place_st (-x) _ HWN.out) ?_
      refine hK _ ?_
      clear hK K
      repeat still_step
      refine wpStill_nil ?_
      change wpList _ _ _ _ _ (World.drew _)
      go_wp2_with fail
      generalize (w2.setCell ⟨w.heap.size, 32 + placeOf (-x), none⟩ (.bool true)).drew = w3 at HS3 HB3 ⊢
      clear hcx y1 z1
      go_roundw
      case rel => exact ⟨q + 1, by omega, by go_num, HS3.out.eq HY.out HN.out HY.out, HB3.out⟩
      case measure => simp [intOf]; omega
    · obtain rfl : k = q := by omega
      rw [List.take_of_length_le (by have := HFL.out; omega)] at hS
      have HFB := Lib.hid hf
      have HST := Lib.hid (show An w wr w.heap.size fs ds (facB fs) (fun x => facB fs (-x)) from ⟨hS, start_sound HWD.out, fun x h => h, fun x h => h, hb⟩)
      clear hf hS hb
      go_wp2_with fail
      go_loopg [7, 8, 9, 10, 11] (2 * (64 - (cntB (facB fs) + cntB (fun x => facB fs (-x)))) + 1) (fun g v7 _ _ _ _ wx => ∃ (b : Bool) (y n : Int → Bool), v7 = .bool b ∧ An w wx w.heap.size fs ds y n ∧ (b = false → Closed fs ds y n) ∧ 2 * (64 - (cntB y + cntB n)) + b.toNat ≤ g)
      case atStart => exact ⟨true, _, _, rfl, HST.out, fun h => (by cases h), Nat.le_refl _⟩
      case round =>
        clear HST
        obtain ⟨b, y0, n0, rfl, hAn, hcl, hg⟩ := hrel
        cases b
        case false =>
          have hfin := sound_closed hAn.so (hcl rfl)
          have HFIN := Lib.hid (show An w wr w.heap.size fs ds (lfpY fs ds) (lfpN fs ds) by rw [← hfin.1, ← hfin.2]; exact hAn)
          clear hfin hAn hcl hg
          go_wp2_with fail
          go_ret
          exact ⟨_, rfl, Nat.le_refl _, HFIN.out.st, HFIN.out.be⟩
        have HG := Lib.hid hg
        have HA0 := Lib.hid hAn
        clear hAn hcl hg
        go_wp2_with fail
        go_loopw [7, 8, 9, 10, 11] (fun v7 v8 _ _ _ wx => ∃ (a : Nat) (b : Bool) (y n : Int → Bool), a ≤ 16 ∧ v8 = .int .i64 ((a : Int) + 1) ∧ v7 = .bool b ∧ AnP w wx w.heap.size fs ds y0 n0 b (2 * a) y n) (fun _ v8 _ _ _ _ => 18 - (intOf v8).toNat)
        case atStart => exact ⟨0, false, y0, n0, by omega, rfl, rfl, HA0.out, fun _ => ⟨rfl, rfl, steps_zero⟩, fun h => (by cases h)⟩
        case round =>
          obtain ⟨a, b, y, n, ha, rfl, rfl, hP⟩ := hrel
          by_cases hla : a < 16
          · have a1 : (a : Int) + 1 ≤ 16 := by omega
            have a2 : (0 : Int) ≤ a := by omega
            have HP0 := Lib.hid hP
            clear hP
            go_wp2_with fail
            go_loopw [7, 9, 10, 11] (fun v7 v9 _ _ wx => ∃ (s : Nat) (b : Bool) (y n : Int → Bool), s ≤ 2 ∧ v9 = .int .i64 (1 - 2 * (s : Int)) ∧ v7 = .bool b ∧ AnP w wx w.heap.size fs ds y0 n0 b (2 * a + s) y n) (fun _ v9 _ _ _ => (intOf v9 + 3).toNat)
            case atStart => exact ⟨0, b, y, n, by omega, rfl, rfl, HP0.out⟩
            case round =>
              clear HP0
              obtain ⟨s, b, y, n, hs, rfl, rfl, hP⟩ := hrel
              by_cases hls : s < 2
              · obtain ⟨x, hxp, hwx, hmul⟩ := word_side (a := a) (s := s) (by omega) hls
                obtain ⟨sd, hsd⟩ : ∃ sd : Int, sd = 1 - 2 * (s : Int) := ⟨_, rfl⟩
                have sd1 : -1 ≤ sd := by omega
                have sd2 : sd ≤ 1 := by omega
                have sd3 : decide (-1 ≤ sd) = true := by simpa using sd1
                rw [← hsd] at hmul ⊢
                have hxb := wordB_iff.1 hwx
                have hwn : wordB (-x) = true := wordB_iff.2 (by omega)
                have p1 : (placeOf x : Int) < 32 := by have := place_lt hwx; omega
                have p2 : (0 : Int) ≤ placeOf x := by omega
                have p3 : (placeOf (-x) : Int) < 32 := by have := place_lt hwn; omega
                have p4 : (0 : Int) ≤ placeOf (-x) := by omega
                have HWX := Lib.hid hwx
                have HWN := Lib.hid hwn
                have HXP := Lib.hid hxp
                have HSD := Lib.hid hsd
                have f1 := hP.an.st.fact x hwx
                have f2 := hP.an.st.fact (-x) hwn
                have y1 := hP.an.st.yes x hwx
                have n1 := hP.an.st.no x hwx
                have HPA := Lib.hid hP
                clear hP hwx hwn hxp hsd
                go_wp2_with (go_at_call_of 54 x; refine (l05Place_is x _ HWX.out).mono ?_; rintro e w' ⟨rfl, rfl⟩)
                cases h1 : facB fs x
                case true =>
                  have HSK := Lib.hid (step_fac (rs := ds) HWD.out HPA.out.an.ly HPA.out.an.ln (.inl h1))
                  rw [h1] at f1
                  clear h1
                  go_quiet (fail)
                  go_wp2_with fail
                  go_roundw
                  case rel => exact ⟨s + 1, _, _, _, by omega, by have hsd := HSD.out; go_num, rfl, ((HPA.out.skip HXP.out HSK.out.1 HSK.out.2).drewN _)⟩
                  case measure => simp [intOf]; omega
                case false =>
                have HF1 := Lib.hid h1
                rw [h1] at f1
                clear h1
                cases h2 : facB fs (-x)
                case true =>
                  have HSK := Lib.hid (step_fac (rs := ds) HWD.out HPA.out.an.ly HPA.out.an.ln (.inr h2))
                  rw [h2] at f2
                  clear h2
                  go_quiet (first | (go_at_call 54; exact quietL (l05Place_is (-x) _ HWN.out)))
                  go_wp2_with fail
                  go_roundw
                  case rel => exact ⟨s + 1, _, _, _, by omega, by have hsd := HSD.out; go_num, rfl, ((HPA.out.skip HXP.out HSK.out.1 HSK.out.2).drewN _)⟩
                  case measure => simp [intOf]; omega
                case false =>
                have HF2 := Lib.hid h2
                rw [h2] at f2
                clear h2
                go_quiet (first | (go_at_call 54; exact quietL (l05Place_is (-x) _ HWN.out)))
                have HPA2 := Lib.hid (HPA.out.drewN nq)
                clear y1 n1 f1 f2 HPA
                generalize wr.drewN nq = w2 at HPA2 ⊢
                have y1 := HPA2.out.an.st.yes x HWX.out
                cases ty : y x
                case true =>
                  have HY := Lib.hid (show stepY fs ds y n x = true → y x = true from fun _ => ty)
                  rw [ty] at y1
                  clear ty
                  have HPB := HPA2
                  have HNW := Lib.hid (HPB.out.an.st.no x HWX.out)
                  have n1 := HPB.out.an.st.no x HWX.out
                  have n0c := HNW.out
                  cases tn : n x
                  case true =>
                    have HN := Lib.hid (show stepN fs ds (y) n x = true → n x = true from fun _ => tn)
                    rw [tn] at n1 n0c
                    clear tn
                    go_wp2_with fail
                    go_roundw
                    case rel => exact ⟨s + 1, _, _, _, by omega, by have hsd := HSD.out; go_num, rfl, HPB.out.skip HXP.out HY.out HN.out⟩
                    case measure => simp [intOf]; omega
                  case false =>
                  cases tq : disB ds (y) n x
                  case false =>
                    have HN := Lib.hid (show stepN fs ds (y) n x = true → n x = true from fun h => by rw [stepN_of HF1.out HF2.out, tq] at h; cases h)
                    rw [tn] at n1 n0c
                    have HQ := Lib.hid tq
                    clear tn tq
                    go_wp2_with fail
                    refine (l05Disproved_is _ _ _ rs x _ HPB.out.an.st (HR.out.on HPB.out.an.be) hm HWX.out (show disB (rs.map Ru.dat) (y) n x = false by rw [← HD.out]; exact HQ.out)).mono ?_
                    rintro e w' ⟨rfl, j4, rfl⟩
                    go_wp2_with fail
                    go_roundw
                    case rel => exact ⟨s + 1, _, _, _, by omega, by have hsd := HSD.out; go_num, rfl, (HPB.out.skip HXP.out HY.out HN.out).drewN j4⟩
                    case measure => simp [intOf]; omega
                  case true =>
                    have HN := Lib.hid (show n x = false from tn)
                    have HS := Lib.hid (show stepN fs ds (y) n x = true by rw [stepN_of HF1.out HF2.out]; exact tq)
                    rw [tn] at n1 n0c
                    have HQ := Lib.hid tq
                    clear tn tq
                    go_wp2_with fail
                    refine (l05Disproved_is _ _ _ rs x _ HPB.out.an.st (HR.out.on HPB.out.an.be) hm HWX.out (show disB (rs.map Ru.dat) (y) n x = true by rw [← HD.out]; exact HQ.out)).mono ?_
                    rintro e w' ⟨rfl, j4, rfl⟩
                    have HPC := Lib.hid (HPB.out.drewN j4)
                    clear n1 n0c HPB HNW
                    generalize (World.drewN _ j4) = w5 at HPC ⊢
                    have n1 := HPC.out.an.st.no x HWX.out
                    rw [HN.out] at n1
                    have zn := HPC.out.an.st.fz (32 + placeOf x) (by have := place_lt HWX.out; omega)
                    go_wp2_with fail
                    go_roundw
                    case rel => exact ⟨s + 1, _, _, _, by omega, by have hsd := HSD.out; go_num, rfl, (HPC.out.putN HWX.out HN.out HS.out (Nat.le_refl _)).up⟩
                    case measure => simp [intOf]; omega
                case false =>
                cases tp : prvB ds y n x
                case false =>
                  have HY := Lib.hid (show stepY fs ds y n x = true → y x = true from fun h => by rw [stepY_of HF1.out HF2.out, tp] at h; cases h)
                  rw [ty] at y1
                  have HQ := Lib.hid tp
                  clear ty tp
                  go_wp2_with fail
                  refine (l05Proved_is _ _ _ rs x _ HPA2.out.an.st (HR.out.on HPA2.out.an.be) hm HWX.out (show prvB (rs.map Ru.dat) y n x = false by rw [← HD.out]; exact HQ.out)).mono ?_
                  rintro e w' ⟨rfl, j3, rfl⟩
                  have HPB := Lib.hid (HPA2.out.drewN j3)
                  clear y1 HPA2 HQ
                  generalize w2.drewN j3 = w3 at HPB ⊢
                  have HNW := Lib.hid (HPB.out.an.st.no x HWX.out)
                  have n1 := HPB.out.an.st.no x HWX.out
                  have n0c := HNW.out
                  cases tn : n x
                  case true =>
                    have HN := Lib.hid (show stepN fs ds (y) n x = true → n x = true from fun _ => tn)
                    rw [tn] at n1 n0c
                    clear tn
                    go_wp2_with fail
                    go_roundw
                    case rel => exact ⟨s + 1, _, _, _, by omega, by have hsd := HSD.out; go_num, rfl, HPB.out.skip HXP.out HY.out HN.out⟩
                    case measure => simp [intOf]; omega
                  case false =>
                  cases tq : disB ds (y) n x
                  case false =>
                    have HN := Lib.hid (show stepN fs ds (y) n x = true → n x = true from fun h => by rw [stepN_of HF1.out HF2.out, tq] at h; cases h)
                    rw [tn] at n1 n0c
                    have HQ := Lib.hid tq
                    clear tn tq
                    go_wp2_with fail
                    refine (l05Disproved_is _ _ _ rs x _ HPB.out.an.st (HR.out.on HPB.out.an.be) hm HWX.out (show disB (rs.map Ru.dat) (y) n x = false by rw [← HD.out]; exact HQ.out)).mono ?_
                    rintro e w' ⟨rfl, j4, rfl⟩
                    go_wp2_with fail
                    go_roundw
                    case rel => exact ⟨s + 1, _, _, _, by omega, by have hsd := HSD.out; go_num, rfl, (HPB.out.skip HXP.out HY.out HN.out).drewN j4⟩
                    case measure => simp [intOf]; omega
                  case true =>
                    have HN := Lib.hid (show n x = false from tn)
                    have HS := Lib.hid (show stepN fs ds (y) n x = true by rw [stepN_of HF1.out HF2.out]; exact tq)
                    rw [tn] at n1 n0c
                    have HQ := Lib.hid tq
                    clear tn tq
                    go_wp2_with fail
                    refine (l05Disproved_is _ _ _ rs x _ HPB.out.an.st (HR.out.on HPB.out.an.be) hm HWX.out (show disB (rs.map Ru.dat) (y) n x = true by rw [← HD.out]; exact HQ.out)).mono ?_
                    rintro e w' ⟨rfl, j4, rfl⟩
                    have HPC := Lib.hid (HPB.out.drewN j4)
                    clear n1 n0c HPB HNW
                    generalize (World.drewN _ j4) = w5 at HPC ⊢
                    have n1 := HPC.out.an.st.no x HWX.out
                    rw [HN.out] at n1
                    have zn := HPC.out.an.st.fz (32 + placeOf x) (by have := place_lt HWX.out; omega)
                    go_wp2_with fail
                    go_roundw
                    case rel => exact ⟨s + 1, _, _, _, by omega, by have hsd := HSD.out; go_num, rfl, (HPC.out.putN HWX.out HN.out HS.out (Nat.le_refl _)).up⟩
                    case measure => simp [intOf]; omega
                case true =>
                  have HY := Lib.hid (show stepY fs ds y n x = true by rw [stepY_of HF1.out HF2.out]; exact tp)
                  have HYF := Lib.hid ty
                  rw [ty] at y1
                  have HQ := Lib.hid tp
                  clear ty tp
                  go_wp2_with fail
                  refine (l05Proved_is _ _ _ rs x _ HPA2.out.an.st (HR.out.on HPA2.out.an.be) hm HWX.out (show prvB (rs.map Ru.dat) y n x = true by rw [← HD.out]; exact HQ.out)).mono ?_
                  rintro e w' ⟨rfl, j3, rfl⟩
                  have HPC := Lib.hid (HPA2.out.drewN j3)
                  clear y1 HPA2 HQ
                  generalize w2.drewN j3 = w3 at HPC ⊢
                  have y1 := HPC.out.an.st.yes x HWX.out
                  rw [HYF.out] at y1
                  have zy := HPC.out.an.st.fz (placeOf x) (by have := place_lt HWX.out; omega)
                  have HNW := Lib.hid (HPC.out.an.st.no x HWX.out)
                  have HPB := Lib.hid (HPC.out.putY HWX.out HYF.out HY.out (Nat.le_refl _))
                  have n1 := HPB.out.an.st.no x HWX.out
                  have n0c := HNW.out
                  cases tn : n x
                  case true =>
                    have HN := Lib.hid (show stepN fs ds (putB y x) n x = true → n x = true from fun _ => tn)
                    rw [tn] at n1 n0c
                    clear tn
                    go_wp2_with fail
                    go_roundw
                    case rel => exact ⟨s + 1, _, _, _, by omega, by have hsd := HSD.out; go_num, rfl, HPB.out.up⟩
                    case measure => simp [intOf]; omega
                  case false =>
                  cases tq : disB ds (putB y x) n x
                  case false =>
                    have HN := Lib.hid (show stepN fs ds (putB y x) n x = true → n x = true from fun h => by rw [stepN_of HF1.out HF2.out, tq] at h; cases h)
                    rw [tn] at n1 n0c
                    have HQ := Lib.hid tq
                    clear tn tq
                    go_wp2_with fail
                    refine (l05Disproved_is _ _ _ rs x _ HPB.out.an.st (HR.out.on HPB.out.an.be) hm HWX.out (show disB (rs.map Ru.dat) (putB y x) n x = false by rw [← HD.out]; exact HQ.out)).mono ?_
                    rintro e w' ⟨rfl, j4, rfl⟩
                    go_wp2_with fail
                    go_roundw
                    case rel => exact ⟨s + 1, _, _, _, by omega, by have hsd := HSD.out; go_num, rfl, (HPB.out.up).drewN j4⟩
                    case measure => simp [intOf]; omega
                  case true =>
                    have HN := Lib.hid (show n x = false from tn)
                    have HS := Lib.hid (show stepN fs ds (putB y x) n x = true by rw [stepN_of HF1.out HF2.out]; exact tq)
                    rw [tn] at n1 n0c
                    have HQ := Lib.hid tq
                    clear tn tq
                    go_wp2_with fail
                    refine (l05Disproved_is _ _ _ rs x _ HPB.out.an.st (HR.out.on HPB.out.an.be) hm HWX.out (show disB (rs.map Ru.dat) (putB y x) n x = true by rw [← HD.out]; exact HQ.out)).mono ?_
                    rintro e w' ⟨rfl, j4, rfl⟩
                    have HPC := Lib.hid (HPB.out.drewN j4)
                    clear n1 n0c HPB HNW
                    generalize (World.drewN _ j4) = w5 at HPC ⊢
                    have n1 := HPC.out.an.st.no x HWX.out
                    rw [HN.out] at n1
                    have zn := HPC.out.an.st.fz (32 + placeOf x) (by have := place_lt HWX.out; omega)
                    go_wp2_with fail
                    go_roundw
                    case rel => exact ⟨s + 1, _, _, _, by omega, by have hsd := HSD.out; go_num, rfl, (HPC.out.putN HWX.out HN.out HS.out (Nat.le_refl _)).up⟩
                    case measure => simp [intOf]; omega
              · obtain rfl : s = 2 := by omega
                have HPE := Lib.hid hP
                clear hP
                go_wp2_with fail
                go_roundw
                case rel => exact ⟨a + 1, b, y, n, by omega, by go_num, rfl, by rw [show 2 * (a + 1) = 2 * a + 2 by omega]; exact HPE.out⟩
                case measure => simp [intOf]; omega
          · obtain rfl : a = 16 := by omega
            have HPE := Lib.hid hP
            clear hP
            go_wp2_with fail
            go_roundg (2 * (64 - (cntB y + cntB n)) + b.toNat)
            case rel => exact ⟨b, y, n, rfl, HPE.out.an, fun hb => by obtain ⟨e1, e2, e3⟩ := HPE.out.f hb; subst e1 e2; exact steps_all e3, Nat.le_refl _⟩
            case measure =>
              have h1 := HG.out
              have h2 := cnt_le y
              have h3 := cnt_le n
              cases b
              · obtain ⟨e1, e2, _⟩ := HPE.out.f rfl
                subst e1 e2
                simp at h1 ⊢; omega
              · have := HPE.out.t rfl
                simp at h1 ⊢; omega
end Go.Proofs.Ytmfglflahlddbaa

