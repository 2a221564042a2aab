/-
  DaysProved: what the program's and the reference's functions return.
-/
import Derived.Test.YtinocfehjdlohaaDaysP
import Derived.Test.YtinocfehjdlohaaChgI
namespace Go.Proofs.Ytinocfehjdlohaa
open Go.ChangeShapes Go.WideShapes Go.ChangeAt Go.RowKit
set_option linter.unusedVariables false
set_option linter.unusedSimpArgs false

def DpIs (W : World) (r : Int) (ok : Bool) (E : Ending) (w' : World) : Prop := E = .returned (.tuple #[.int .i64 r, .bool ok]) ∧ Below W.heap.size W w'
theorem isWord_is {z : Int} {b : Bool} (h : wordB z = b) (w : World) : Calls Try.prog 41 #[.int .i64 z] w fun e w' => e = .returned (.bool b) ∧ w = w' := by
  subst h; exact isWord_any z w
theorem daysOk_iff {ds : List Rl} {fs : List Int} {x fr tu : Int} : daysOk ds fs x fr tu = true ↔ courtOk ds fs fr = true ∧ wordB x = true ∧ inB tu 0 100000 = true ∧ fr ≤ tu := by simp [daysOk, and_assoc]
set_option maxRecDepth 100000 in
set_option maxHeartbeats 3200000 in
theorem spec_DaysProved (A : Option Addr) (m c : Nat) (ds : List Rl) (B : Option Addr) (k d : Nat) (fs : List Int) (x fr tu : Int) (w : World) (hr : RsRd w w.heap.size A m ds) (hz : szD ds ≤ 1048576) (hb : ∀ d ∈ ds, RlB d) (hf : Rd w w.heap.size 1 B k (ints fs)) (hk : k ≤ 1048576) (hfs : I64s fs)
    (hx : -9223372036854775808 ≤ x ∧ x ≤ 9223372036854775807) (hfr : -9223372036854775808 ≤ fr ∧ fr ≤ 9223372036854775807) (htu0 : -9223372036854775808 ≤ tu ∧ tu ≤ 9223372036854775807) :
    Calls Try.prog 21 #[.slice A m c, .slice B k d, .int .i64 x, .int .i64 fr, .int .i64 tu] w (DpIs w (DaysProved_r0 ds fs x fr tu) (DaysProved_r1 ds fs x fr tu)) := by
  have HR := Lib.hid hr
  have HZ := Lib.hid hz
  have HRB := Lib.hid hb
  have HF := Lib.hid hf
  have HFS := Lib.hid hfs
  have hm := sz_len hz hr.len
  have HACT := Lib.hid (fun day => szD_act (day := day) hr.len)
  clear hr hz hb hf hfs hx
  cases h1 : courtOk ds fs fr
  case false =>
    have hfin := Lib.hid (dp_no (ds := ds) (fs := fs) (x := x) (fr := fr) (tu := tu) (by simp [daysOk, h1]))
    go_enter Try.func21, Try.ntmps21
    go_wp2_with fail
    refine (l05Can_is _ _ _ _ _ _ _ _ _ _ HR.out HZ.out HRB.out HF.out hk HFS.out hfr h1).mono ?_
    rintro e w1 ⟨rfl, hb1⟩
    go_wp2_with fail
    go_ret2
    exact ⟨by rw [hfin.out.1, hfin.out.2]; rfl, hb1⟩
  cases h2 : wordB x
  case false =>
    have hfin := Lib.hid (dp_no (ds := ds) (fs := fs) (x := x) (fr := fr) (tu := tu) (by simp [daysOk, h2]))
    go_enter Try.func21, Try.ntmps21
    go_wp2_with fail
    refine (l05Can_is _ _ _ _ _ _ _ _ _ _ HR.out HZ.out HRB.out HF.out hk HFS.out hfr h1).mono ?_
    rintro e w1 ⟨rfl, hb1⟩
    go_wp2_with (go_at_call 35; refine (l05Word_is h2 _).mono ?_; rintro e w' ⟨rfl, rfl⟩)
    go_ret2
    exact ⟨by rw [hfin.out.1, hfin.out.2]; rfl, hb1⟩
  cases h3 : inB tu 0 100000
  case false =>
    have hfin := Lib.hid (dp_no (ds := ds) (fs := fs) (x := x) (fr := fr) (tu := tu) (by simp [daysOk, h3]))
    go_enter Try.func21, Try.ntmps21
    go_wp2_with fail
    refine (l05Can_is _ _ _ _ _ _ _ _ _ _ HR.out HZ.out HRB.out HF.out hk HFS.out hfr h1).mono ?_
    rintro e w1 ⟨rfl, hb1⟩
    go_wp2_with (first | (go_at_call 35; refine (l05Word_is h2 _).mono ?_; rintro e w' ⟨rfl, rfl⟩) | (go_at_call 34; refine (l05Day_is h3 _).mono ?_; rintro e w' ⟨rfl, rfl⟩))
    go_ret2
    exact ⟨by rw [hfin.out.1, hfin.out.2]; rfl, hb1⟩
  cases h4 : decide (fr ≤ tu)
  case false =>
    have hfin := Lib.hid (dp_no (ds := ds) (fs := fs) (x := x) (fr := fr) (tu := tu) (by unfold daysOk; rw [h4]; simp))
    have h4' : decide (tu < fr) = true := by have := of_decide_eq_false h4; exact decide_eq_true (by omega)
    clear h4
    go_enter Try.func21, Try.ntmps21
    go_wp2_with fail
    refine (l05Can_is _ _ _ _ _ _ _ _ _ _ HR.out HZ.out HRB.out HF.out hk HFS.out hfr h1).mono ?_
    rintro e w1 ⟨rfl, hb1⟩
    go_wp2_with (first | (go_at_call 35; refine (l05Word_is h2 _).mono ?_; rintro e w' ⟨rfl, rfl⟩) | (go_at_call 34; refine (l05Day_is h3 _).mono ?_; rintro e w' ⟨rfl, rfl⟩))
    go_ret2
    exact ⟨by rw [hfin.out.1, hfin.out.2]; rfl, hb1⟩
  have hle := of_decide_eq_true h4
  have hfin := Lib.hid (dp_yes (ds := ds) (fs := fs) (x := x) (fr := fr) (tu := tu) (daysOk_iff.2 ⟨h1, h2, h3, hle⟩))
  have htu : 0 ≤ tu ∧ tu ≤ 100000 := by simpa [inB] using h3
  have hf0 : 0 ≤ fr ∧ fr ≤ 100000 := by simpa [inB] using (courtOk_iff.1 h1).2.2
  have H0 := Lib.hid (show 0 ≤ fr ∧ fr ≤ tu ∧ tu ≤ 100000 from ⟨hf0.1, hle, htu.2⟩)
  have h4' : decide (tu < fr) = false := decide_eq_false (by omega)
  have t1 := htu.1
  have t2 := htu.2
  have f1 := hf0.1
  have f2 := hf0.2
  have HOK := Lib.hid h1
  have HX := Lib.hid h2
  have H3 := Lib.hid h3
  clear h1 h2 h3 h4 hle htu hf0
  go_enter Try.func21, Try.ntmps21
  go_wp2_with fail
  refine (l05Can_is _ _ _ _ _ _ _ _ _ _ HR.out HZ.out HRB.out HF.out hk HFS.out hfr HOK.out).mono ?_
  rintro e w1 ⟨rfl, hb1⟩
  have HB1 := Lib.hid hb1
  clear hb1
  go_wp2_with (first | (go_at_call 35; refine (l05Word_is HX.out _).mono ?_; rintro e w' ⟨rfl, rfl⟩) | (go_at_call 34; refine (l05Day_is H3.out _).mono ?_; rintro e w' ⟨rfl, rfl⟩))
  refine (l05Changes_is _ _ _ ds _ (HR.out.on HB1.out) (courtOk_iff.1 HOK.out).1).mono ?_
  rintro e w2 ⟨v, rfl, ho, hb2⟩
  have HO := Lib.hid (own_base ho HB1.out.size)
  have HB2 := Lib.hid (below_step HB1.out hb2)
  have hcl : (chg ds).length ≤ 48 := chg_len (rules_len (courtOk_iff.1 HOK.out).1)
  clear ho hb2
  go_wp2_with (at_builtin; refine append_int rfl (.tmp 39) (.tmp 42) rfl w _ _ _ rfl (World.ownsRow.alloc HO.out _) (Below.alloc HB2.out (Below.size HB2.out) _) _ _ (tu + 1) rfl (cell_new _ _ _) (by omega) ?_; intro v' w' ho2 hb2; obtain ⟨A3, c3, rfl, _⟩ := own_form ho2)
  have HD := Lib.hid (Rd.of_own ho2)
  have HB3 := Lib.hid hb2
  clear ho2 hb2 HO HB2
  go_loopw [13, 14, 15, 16, 17, 47] (fun cnt at_ _ _ _ i wr => ∃ (j : Nat) (a q : Int), j ≤ (chg ds).length + 1 ∧ i = .int .i64 j ∧ at_ = .int .i64 a ∧ cnt = .int .i64 q ∧ Below w'.heap.size w' wr ∧ ((j ≤ (chg ds).length ∧ SpSt ds fr tu (fun day => yesB ds fs day x) j a q) ∨ (j = (chg ds).length + 1 ∧ q = totTo (startsOf ds fr tu) (tu + 1) (fun day => yesB ds fs day x) (startsOf ds fr tu).length))) (fun _ _ _ _ _ i _ => (chg ds).length + 1 - (intOf i).toNat)
  case atStart => exact ⟨0, fr, 0, by omega, rfl, rfl, rfl, Below.refl _ _, .inl ⟨by omega, sp_start _ _ _ _⟩⟩
  case round =>
    obtain ⟨j, a, q, hj, rfl, rfl, rfl, hbr, hst⟩ := hrel
    by_cases hlj : j < (chg ds).length + 1
    · have hS : SpSt ds fr tu (fun day => yesB ds fs day x) j a q := by
        rcases hst with h | h
        · exact h.2
        · omega
      have HS := Lib.hid hS
      have HBR := Lib.hid hbr
      have hab := at_bounds H0.out hS
      have hqb := cnt_bounds (courtOk_iff.1 HOK.out).1 H0.out hS
      clear hst hS hbr
      obtain ⟨ad, hA, hc⟩ := (HD.out.below HBR.out).int hlj
      subst hA
      obtain ⟨y, hy⟩ : ∃ y, y = (chg ds ++ [tu + 1])[j]?.getD 0 := ⟨_, rfl⟩
      rw [← hy] at hc
      have HY := Lib.hid hy
      have hyb : 0 ≤ y ∧ y ≤ 100001 := by
        have hm := getD_mem (zs := chg ds ++ [tu + 1]) (k := j) (by simpa using hlj)
        rw [← hy, List.mem_append, List.mem_singleton] at hm
        rcases hm with h | h
        · have := chg_mem h; omega
        · omega
      clear hy
      have i1 : (0 : Int) ≤ j := by omega
      have i2 : (j : Int) < ((chg ds).length + 1 : Nat) := by omega
      have hwx := wordB_iff.1 HX.out
      have p1 : (placeOf x : Int) < 32 := by have := place_lt HX.out; omega
      have p2 : (0 : Int) ≤ placeOf x := by omega
      obtain ⟨z, hz⟩ : ∃ z, z = min y (tu + 1) := ⟨_, rfl⟩
      have HZ2 := Lib.hid hz.symm
      have hzb : 0 ≤ z ∧ z ≤ 100001 := by omega
      have HYJ := Lib.hid (show (j < (chg ds).length ∧ (chg ds)[j]? = some y) ∨ (j = (chg ds).length ∧ y = tu + 1) by
        have h := HY.out
        by_cases hj2 : j < (chg ds).length
        · left
          rw [List.getElem?_append_left hj2, List.getElem?_eq_getElem hj2] at h
          exact ⟨hj2, by rw [List.getElem?_eq_getElem hj2, h]; rfl⟩
        · right
          have hj3 : j = (chg ds).length := by omega
          subst hj3
          rw [List.getElem?_append_right (Nat.le_refl _)] at h
          simp at h
          exact ⟨rfl, h⟩)
      have z1 := hzb.1
      have z2 := hzb.2
      clear hz hzb
      by_cases hle : z ≤ a
      · have hnext := Lib.hid (show ((j + 1 ≤ (chg ds).length ∧ SpSt ds fr tu (fun day => yesB ds fs day x) (j + 1) a q) ∨ (j + 1 = (chg ds).length + 1 ∧ q = totTo (startsOf ds fr tu) (tu + 1) (fun day => yesB ds fs day x) (startsOf ds fr tu).length)) by
          rcases HYJ.out with ⟨h1, h2⟩ | ⟨h1, h2⟩
          · exact .inl ⟨h1, sp_skip H0.out HS.out h2 (by rw [HZ2.out]; exact hle)⟩
          · right
            have hS := HS.out
            rw [h1] at hS
            rcases sp_end H0.out hS with ⟨_, h4⟩ | ⟨h3, _⟩
            · exact ⟨by omega, h4⟩
            · have := HZ2.out; omega)
        go_wp2_with (go_at_call 50; refine (l00Min_any _ _ _).mono ?_; rintro e w9 ⟨rfl, rfl⟩; rw [HZ2.out])
        go_roundw
        case rel => exact ⟨j + 1, a, q, by omega, by go_num, rfl, rfl, HBR.out, hnext.out⟩
        case measure => simp [intOf]; omega
      · have hat : a ≤ tu := by
          rcases HYJ.out with ⟨h1, h2⟩ | ⟨h1, h2⟩
          · exact (sp_step H0.out HS.out h2 (by rw [HZ2.out]; omega)).1
          · have hS := HS.out
            rw [h1] at hS
            rcases sp_end H0.out hS with ⟨h3, _⟩ | ⟨h3, _⟩
            · have := HZ2.out; omega
            · exact h3
        have hnext := Lib.hid (show ((j + 1 ≤ (chg ds).length ∧ SpSt ds fr tu (fun day => yesB ds fs day x) (j + 1) z (q + (if yesB ds fs a x then z - a else 0))) ∨ (j + 1 = (chg ds).length + 1 ∧ q + (if yesB ds fs a x then z - a else 0) = totTo (startsOf ds fr tu) (tu + 1) (fun day => yesB ds fs day x) (startsOf ds fr tu).length)) by
          rcases HYJ.out with ⟨h1, h2⟩ | ⟨h1, h2⟩
          · have := (sp_step H0.out HS.out h2 (by rw [HZ2.out]; omega)).2
            rw [HZ2.out] at this
            exact .inl ⟨h1, this⟩
          · right
            have hS := HS.out
            rw [h1] at hS
            have hzt : z = tu + 1 := by have := HZ2.out; omega
            rcases sp_end H0.out hS with ⟨h3, _⟩ | ⟨_, h4⟩
            · omega
            · exact ⟨by omega, by rw [hzt]; exact h4⟩)
        have HOKA := Lib.hid (courtOk_day HOK.out (show 0 ≤ a ∧ a ≤ 100000 by omega))
        have HBW := Lib.hid (below_step HB3.out HBR.out)
        go_wp2_with (go_at_call 50; refine (l00Min_any _ _ _).mono ?_; rintro e w9 ⟨rfl, rfl⟩; rw [HZ2.out])
        refine (l05Of_any _ _ _ ds a _ (HR.out.on HBW.out) hm).mono ?_
        rintro e w4 ⟨A4, n4, c4, rfl, hrd, hb4⟩
        rw [HACT.out a] at hrd
        have HB4 := Lib.hid hb4
        have HR4 := Lib.hid hrd
        clear hrd hb4 hc
        go_wp2_with fail
        refine (answer_rs _ _ _ ds _ _ _ fs a _ HR4.out (actF_small (courtOk_iff.1 HOK.out).1) HRB.out (HF.out.on (below_step HBW.out HB4.out)) hk HOKA.out).mono ?_
        rintro e w5 ⟨sb, rfl, hsb, hS5, hb5⟩
        have HB5 := Lib.hid (below_step HB4.out hb5)
        have y5 := hS5.yes x HX.out
        clear hS5 hb5 hsb HB4 HR4
        rcases Bool.eq_false_or_eq_true (yesB ds fs a x) with ty | ty
        · have hnx := Lib.hid (show q + (if yesB ds fs a x then z - a else 0) = q + (z - a) by rw [ty]; rfl)
          rw [ty] at y5
          clear ty
          go_wp2_with fail
          go_quiet (first | (go_at_call 53; exact quietL (l05Place_is x _ HX.out)))
          go_wp2_with fail
          go_roundw
          case rel => exact ⟨j + 1, z, _, by omega, by go_num, rfl, by rw [hnx.out], below_drewN (below_step HBR.out HB5.out) _, hnext.out⟩
          case measure => simp [intOf]; omega
        · have hnx := Lib.hid (show q + (if yesB ds fs a x then z - a else 0) = q by rw [ty]; simp)
          rw [ty] at y5
          clear ty
          go_wp2_with fail
          go_quiet (first | (go_at_call 53; exact quietL (l05Place_is x _ HX.out)))
          go_wp2_with fail
          go_roundw
          case rel => exact ⟨j + 1, z, _, by omega, by go_num, rfl, by rw [hnx.out], below_drewN (below_step HBR.out HB5.out) _, hnext.out⟩
          case measure => simp [intOf]; omega
    · have HQ := Lib.hid (show q = totTo (startsOf ds fr tu) (tu + 1) (fun day => yesB ds fs day x) (startsOf ds fr tu).length by
        rcases hst with h | h
        · omega
        · exact h.2)
      have hje : j = (chg ds).length + 1 := by omega
      subst hje
      have HBR := Lib.hid hbr
      clear hst hbr
      go_wp2_with fail
      go_ret2
      exact ⟨by rw [hfin.out.1, hfin.out.2, ← HQ.out]; rfl, below_step HB3.out HBR.out⟩
/-! ### the program -/
structure D2 (W w : World) (D : Option Addr) (n cD : Nat) (u : Value) (l1 zs : List Int) : Prop where
  o1 : w.ownsRow W.heap.size tI 1 u l1.length (ints l1)
  od : w.ownsRow W.heap.size tI 1 (.slice D n cD) n (ints zs)
  n1d : ∀ g, u.ownBlock = some g → (Value.slice D n cD).ownBlock ≠ some g
  be : Below W.heap.size W w
section
variable {W w w' : World} {D : Option Addr} {n cD : Nat} {u v' : Value} {l1 l' zs : List Int}
theorem D2.alloc (h : D2 W w D n cD u l1 zs) (o : Go.Obj) : D2 W (w.alloc o) D n cD u l1 zs := ⟨h.o1.alloc o, h.od.alloc o, h.n1d, h.be.alloc h.be.size o⟩
theorem D2.app1 (h : D2 W w D n cD u l1 zs) (ho : w'.ownsRow W.heap.size tI 1 v' l'.length (ints l')) (hb : Below W.heap.size W w') (hn : v'.ownBlock = u.ownBlock ∨ v'.ownBlock = some w.heap.size) (hg : w.grownBy w' u.ownBlock) : D2 W w' D n cD v' l' zs := by
  refine ⟨ho, World.ownsRow.kept h.od hg (ne_of_ap h.n1d), fun g hg' => ?_, hb⟩
  rcases hn with e | e
  · exact h.n1d g (e ▸ hg')
  · intro h2; have := (h.od.lt _ h2).2; rw [hg'] at e; injection e with e; omega
end
theorem own_one (w : World) (x : Int) : (w.alloc (.cells #[.int .i64 x] tI)).ownsRow w.heap.size tI 1 (.slice (some ⟨w.heap.size, 0, none⟩) 1 1) 1 (ints [x]) := by
  exact World.ownsRow_lit w #[.int .i64 x] 1 (Nat.le_refl _) (by decide) (by simp)
set_option maxRecDepth 100000 in
set_option maxHeartbeats 3200000 in
theorem impl_DaysProved (A : Option Addr) (m c : Nat) (ds : List Rl) (B : Option Addr) (k d : Nat) (fs : List Int) (x fr tu : Int) (w : World) (hr : RsRd w w.heap.size A m ds) (hz : szD ds ≤ 1048576) (hb : ∀ d ∈ ds, RlB d) (hf : Rd w w.heap.size 1 B k (ints fs)) (hk : k ≤ 1048576) (hfs : I64s fs)
    (hx : -9223372036854775808 ≤ x ∧ x ≤ 9223372036854775807) (hfr : -9223372036854775808 ≤ fr ∧ fr ≤ 9223372036854775807) (htu0 : -9223372036854775808 ≤ tu ∧ tu ≤ 9223372036854775807) :
    Calls Try.prog 23 #[.slice A m c, .slice B k d, .int .i64 x, .int .i64 fr, .int .i64 tu] w (DpIs w (DaysProved_r0 ds fs x fr tu) (DaysProved_r1 ds fs x fr tu)) := by
  have HR := Lib.hid hr
  have HZ := Lib.hid hz
  have HRB := Lib.hid hb
  have HF := Lib.hid hf
  have HFS := Lib.hid hfs
  have hm := sz_len hz hr.len
  have HACT := Lib.hid (fun day => szD_act (day := day) hr.len)
  clear hr hz hb hf hfs hx
  cases h1 : courtOk ds fs fr
  case false =>
    have hfin := Lib.hid (dp_no (ds := ds) (fs := fs) (x := x) (fr := fr) (tu := tu) (by simp [daysOk, h1]))
    go_enter Try.func23, Try.ntmps23
    go_wp2_with fail
    refine (areFacts_is _ _ _ _ _ _ _ _ _ _ HR.out HZ.out HRB.out HF.out hk HFS.out hfr h1).mono ?_
    rintro e w1 ⟨rfl, hb1⟩
    go_wp2_with fail
    go_ret2
    exact ⟨by rw [hfin.out.1, hfin.out.2]; rfl, hb1⟩
  cases h2 : wordB x
  case false =>
    have hfin := Lib.hid (dp_no (ds := ds) (fs := fs) (x := x) (fr := fr) (tu := tu) (by simp [daysOk, h2]))
    go_enter Try.func23, Try.ntmps23
    go_wp2_with fail
    refine (areFacts_is _ _ _ _ _ _ _ _ _ _ HR.out HZ.out HRB.out HF.out hk HFS.out hfr h1).mono ?_
    rintro e w1 ⟨rfl, hb1⟩
    go_wp2_with (go_at_call 41; refine (isWord_is h2 _).mono ?_; rintro e w' ⟨rfl, rfl⟩)
    go_ret2
    exact ⟨by rw [hfin.out.1, hfin.out.2]; rfl, hb1⟩
  cases h3 : inB tu 0 100000
  case false =>
    have hfin := Lib.hid (dp_no (ds := ds) (fs := fs) (x := x) (fr := fr) (tu := tu) (by simp [daysOk, h3]))
    go_enter Try.func23, Try.ntmps23
    go_wp2_with fail
    refine (areFacts_is _ _ _ _ _ _ _ _ _ _ HR.out HZ.out HRB.out HF.out hk HFS.out hfr h1).mono ?_
    rintro e w1 ⟨rfl, hb1⟩
    go_wp2_with (first | (go_at_call 41; refine (isWord_is h2 _).mono ?_; rintro e w' ⟨rfl, rfl⟩) | (go_at_call 40; refine (isDate_is _ h3).mono ?_; rintro e w' ⟨rfl, rfl⟩))
    go_ret2
    exact ⟨by rw [hfin.out.1, hfin.out.2]; rfl, hb1⟩
  cases h4 : decide (fr ≤ tu)
  case false =>
    have hfin := Lib.hid (dp_no (ds := ds) (fs := fs) (x := x) (fr := fr) (tu := tu) (by unfold daysOk; rw [h4]; simp))
    have h4' : decide (tu < fr) = true := by have := of_decide_eq_false h4; exact decide_eq_true (by omega)
    clear h4
    go_enter Try.func23, Try.ntmps23
    go_wp2_with fail
    refine (areFacts_is _ _ _ _ _ _ _ _ _ _ HR.out HZ.out HRB.out HF.out hk HFS.out hfr h1).mono ?_
    rintro e w1 ⟨rfl, hb1⟩
    go_wp2_with (first | (go_at_call 41; refine (isWord_is h2 _).mono ?_; rintro e w' ⟨rfl, rfl⟩) | (go_at_call 40; refine (isDate_is _ h3).mono ?_; rintro e w' ⟨rfl, rfl⟩))
    go_ret2
    exact ⟨by rw [hfin.out.1, hfin.out.2]; rfl, hb1⟩
  have hle := of_decide_eq_true h4
  have hfin := Lib.hid (dp_yes (ds := ds) (fs := fs) (x := x) (fr := fr) (tu := tu) (daysOk_iff.2 ⟨h1, h2, h3, hle⟩))
  have htu : 0 ≤ tu ∧ tu ≤ 100000 := by simpa [inB] using h3
  have hf0 : 0 ≤ fr ∧ fr ≤ 100000 := by simpa [inB] using (courtOk_iff.1 h1).2.2
  have H0 := Lib.hid (show 0 ≤ fr ∧ fr ≤ tu ∧ tu ≤ 100000 from ⟨hf0.1, hle, htu.2⟩)
  have h4' : decide (tu < fr) = false := decide_eq_false (by omega)
  have t1 := htu.1
  have t2 := htu.2
  have f1 := hf0.1
  have f2 := hf0.2
  have HOK := Lib.hid h1
  have HX := Lib.hid h2
  have H3 := Lib.hid h3
  clear h1 h2 h3 h4 hle htu hf0
  go_enter Try.func23, Try.ntmps23
  go_wp2_with fail
  refine (areFacts_is _ _ _ _ _ _ _ _ _ _ HR.out HZ.out HRB.out HF.out hk HFS.out hfr HOK.out).mono ?_
  rintro e w1 ⟨rfl, hb1⟩
  have HB1 := Lib.hid hb1
  clear hb1
  have HE := Lib.hid (own_one w1 fr)
  go_wp2_with (first | (go_at_call 41; refine (isWord_is HX.out _).mono ?_; rintro e w' ⟨rfl, rfl⟩) | (go_at_call 40; refine (isDate_is _ H3.out).mono ?_; rintro e w' ⟨rfl, rfl⟩))
  refine (changes_is _ _ _ ds _ ((HR.out.on HB1.out).on (bl_a _)) (courtOk_iff.1 HOK.out).1).mono ?_
  rintro e w2 ⟨v, rfl, ho, hb2⟩
  obtain ⟨D, cD, rfl, _⟩ := own_form ho
  have hcl : (chg ds).length ≤ 48 := chg_len (rules_len (courtOk_iff.1 HOK.out).1)
  have HA0 := Lib.hid (show D2 w1 w2 D (chg ds).length cD (.slice (some ⟨w1.heap.size, 0, none⟩) 1 1) (fr :: ((chg ds).take 0).filter (inSpan fr tu)) (chg ds) from
    ⟨own_on HE.out hb2, own_base ho (by simp), fun g h1 h2 => by have := (ho.lt _ h2).1; simp [Value.ownBlock] at h1 this; omega, (bl_a _).trans (hb2.mono (by simp))⟩)
  clear ho hb2 HE
  go_wp2_with fail
  go_loopw [12, 15, 44] (fun u _ i wr => ∃ p : Nat, p ≤ (chg ds).length ∧ i = .int .i64 p ∧ D2 w1 wr D (chg ds).length cD u (fr :: ((chg ds).take p).filter (inSpan fr tu)) (chg ds)) (fun _ _ i _ => (chg ds).length - (intOf i).toNat)
  case atStart => exact ⟨0, by omega, rfl, HA0.out⟩
  case round =>
    clear HA0
    obtain ⟨p, hp, rfl, hA⟩ := hrel
    by_cases hlp : p < (chg ds).length
    · obtain ⟨ad, hD, hc⟩ := (Rd.of_own hA.od).int hlp
      subst hD
      obtain ⟨y, hy⟩ : ∃ y, y = (chg ds)[p]?.getD 0 := ⟨_, rfl⟩
      rw [← hy] at hc
      have hyb : 1 ≤ y ∧ y ≤ 100000 := by
        have hm := getD_mem (zs := chg ds) (k := p) hlp
        rw [← hy] at hm
        exact (chg_mem hm).2
      have HTK := Lib.hid (show ((chg ds).take (p + 1)).filter (inSpan fr tu) = ((chg ds).take p).filter (inSpan fr tu) ++ [y].filter (inSpan fr tu) by
        rw [take_snoc (chg ds) p 0 hlp, List.filter_append, ← hy])
      have hfl : (fr :: ((chg ds).take p).filter (inSpan fr tu)).length ≤ 50 := by
        have h1 := List.length_filter_le (inSpan fr tu) ((chg ds).take p)
        rw [List.length_take] at h1
        simp; omega
      obtain ⟨l1, hl1⟩ : ∃ l1, l1 = fr :: ((chg ds).take p).filter (inSpan fr tu) := ⟨_, rfl⟩
      have HL1 := Lib.hid hl1
      rw [← hl1] at hA hfl
      have HA := Lib.hid hA
      have i1 : (0 : Int) ≤ p := by omega
      have i2 : (p : Int) < (chg ds).length := by omega
      clear hA hl1 hy
      cases h5 : decide (fr < y)
      · have hno := Lib.hid (show fr :: ((chg ds).take (p + 1)).filter (inSpan fr tu) = l1 by
          have hi : inSpan fr tu y = false := by unfold inSpan; rw [h5]; rfl
          rw [HTK.out]
          simp [hi, HL1.out])
        go_wp2_with fail
        go_roundw
        case rel => exact ⟨p + 1, by omega, by go_num, by rw [hno.out]; exact HA.out⟩
        case measure => simp [intOf]; omega
      cases h6 : decide (y ≤ tu)
      · have hno := Lib.hid (show fr :: ((chg ds).take (p + 1)).filter (inSpan fr tu) = l1 by
          have hi : inSpan fr tu y = false := by unfold inSpan; rw [h6, Bool.and_false]
          rw [HTK.out]
          simp [hi, HL1.out])
        go_wp2_with fail
        go_roundw
        case rel => exact ⟨p + 1, by omega, by go_num, by rw [hno.out]; exact HA.out⟩
        case measure => simp [intOf]; omega
      · have hyes := Lib.hid (show fr :: ((chg ds).take (p + 1)).filter (inSpan fr tu) = l1 ++ [y] by
          have hi : inSpan fr tu y = true := by unfold inSpan; rw [h5, h6]; rfl
          rw [HTK.out]
          simp [hi, HL1.out])
        go_wp2_with (at_builtin; refine append_ints_g rfl (.tmp 56) (.tmp 58) rfl w1 _ _ _ rfl (World.ownsRow.alloc HA.out.o1 _) (Below.alloc HA.out.be (Below.size HA.out.be) _) _ 1 1 [y] rfl (one_rd _ _ _) (by omega) ?_; intro v' w' ho2 hb2 hn2 hg2)
        have HA2 := Lib.hid ((HA.out.alloc (.cells #[.int .i64 y] tI)).app1 (l' := l1 ++ [y]) (by rw [List.length_append]; exact ho2) hb2 hn2 hg2)
        clear ho2 hb2 hn2 hg2
        go_roundw
        case rel => exact ⟨p + 1, by omega, by go_num, by rw [hyes.out]; exact HA2.out⟩
        case measure => simp [intOf]; omega
    · obtain rfl : p = (chg ds).length := by omega
      rw [List.take_length] at hA
      have hA1 := hA.o1
      have hAb := hA.be
      obtain ⟨L, hL⟩ : ∃ L, L = startsOf ds fr tu := ⟨_, rfl⟩
      have hL' : fr :: (chg ds).filter (inSpan fr tu) = L := by rw [hL]; rfl
      rw [hL'] at hA1 hA
      obtain ⟨A3, c3, rfl, _⟩ := own_form hA1
      have HD := Lib.hid (Rd.of_own hA1)
      have HB3 := Lib.hid (below_step HB1.out hAb)
      have HL := Lib.hid hL
      have h49 : L.length ≤ 49 := by rw [hL]; exact starts_len (courtOk_iff.1 HOK.out).1
      clear hA hA1 hAb hL hL'
      obtain ⟨wr0, hwr0⟩ : ∃ wr0, wr0 = wr := ⟨_, rfl⟩
      rw [← hwr0] at HD HB3 ⊢
      clear hwr0
      have hwx := wordB_iff.1 HX.out
      have HX6 := Lib.hid (show I64b x from ⟨by omega, by omega⟩)
      have hml := HR.out.len
      have HMEM := Lib.hid (fun (y : Int) (hy : y ∈ L) => starts_mem H0.out (show y ∈ startsOf ds fr tu by rw [← HL.out]; exact hy))
      have HTB := Lib.hid (fun (q : Nat) (hq : q ≤ L.length) => show -(100001 * (q : Int)) ≤ totTo L (tu + 1) (fun day => yesB ds fs day x) q ∧ totTo L (tu + 1) (fun day => yesB ds fs day x) q ≤ 100001 * (q : Int) by
        have := tot_small (ds := ds) H0.out (fun day => yesB ds fs day x) q (by rw [← HL.out]; exact hq)
        rw [← HL.out] at this; exact this)
      clear hml
      go_wp2_with fail
      go_loopw [13, 16, 17, 18, 63] (fun cnt _ _ _ i wr => ∃ q : Nat, q ≤ L.length ∧ i = .int .i64 q ∧ cnt = .int .i64 (totTo L (tu + 1) (fun day => yesB ds fs day x) q) ∧ Below wr0.heap.size wr0 wr) (fun _ _ _ _ i _ => L.length - (intOf i).toNat)
      case atStart => exact ⟨0, by omega, rfl, rfl, Below.refl _ _⟩
      case round =>
        obtain ⟨q, hq, rfl, rfl, hbr⟩ := hrel
        have hqb := HTB.out q hq
        by_cases hlq : q < L.length
        · obtain ⟨ad, hA, hc⟩ := (HD.out.below hbr).int hlq
          subst hA
          obtain ⟨y, hy⟩ : ∃ y, y = L[q]?.getD 0 := ⟨_, rfl⟩
          rw [← hy] at hc
          have hyb := HMEM.out y (by rw [hy]; exact getD_mem hlq)
          have HST := Lib.hid (show totTo L (tu + 1) (fun day => yesB ds fs day x) (q + 1) = totTo L (tu + 1) (fun day => yesB ds fs day x) q + (if yesB ds fs y x then nxtAt L (tu + 1) q - y else 0) by rw [totTo]; unfold stpAt; rw [← hy])
          have HBR := Lib.hid hbr
          have HBW := Lib.hid (below_step HB3.out hbr)
          have HOKA := Lib.hid (courtOk_day HOK.out (show 0 ≤ y ∧ y ≤ 100000 by omega))
          obtain ⟨tq, htq⟩ : ∃ tq, tq = totTo L (tu + 1) (fun day => yesB ds fs day x) q := ⟨_, rfl⟩
          rw [← htq] at HST hqb ⊢
          have i1 : (0 : Int) ≤ q := by omega
          have i2 : (q : Int) < L.length := by omega
          have hq49 : (q : Int) ≤ 49 := by omega
          have b1 := hqb.1
          have b2 := hqb.2
          clear hy hbr htq hqb
          by_cases hlq2 : q + 1 < L.length
          · obtain ⟨ad2, hA2, hc2⟩ := (HD.out.below HBR.out).int hlq2
            cases hA2
            obtain ⟨z, hz⟩ : ∃ z, z = L[q + 1]?.getD 0 := ⟨_, rfl⟩
            rw [← hz] at hc2
            have hzb := HMEM.out z (by rw [hz]; exact getD_mem hlq2)
            have HNX := Lib.hid (show nxtAt L (tu + 1) q = z by unfold nxtAt; rw [hz, List.getElem?_eq_getElem hlq2]; rfl)
            have j2 : (q : Int) + 1 < L.length := by omega
            have j3 : ((q : Int) + 1).toNat = q + 1 := by omega
            have j4 : (0 : Int) ≤ (q : Int) + 1 := by omega
            have hc3 : wr.cell? { block := ad.block, off := ad.off + (q + 1) } = some (.int .i64 z) := by simpa [Addr.add] using hc2
            clear hz
            go_wp2_with fail
            refine (judged_rs _ _ _ ds _ _ _ fs y _ (HR.out.on HBW.out) HZ.out HRB.out (HF.out.on HBW.out) hk HOKA.out).mono ?_
            rintro e WJ ⟨cb, A9, m9, c9, bp, bn, rs9, I9, ci9, rfl, hC, _, hcb, hb2, _, _⟩
            have HBJ := Lib.hid (below_step HBR.out hb2)
            have k3 := hC.c3
            have ly := hC.my.look HX6.out
            clear hC hb2 hcb
            rcases Bool.eq_false_or_eq_true (yesB ds fs y x) with ty | ty
            · have hnx := Lib.hid (show totTo L (tu + 1) (fun day => yesB ds fs day x) (q + 1) = tq + (z - y) by rw [HST.out, ty, HNX.out]; rfl)
              rw [ty] at ly
              clear ty
              go_wp2_with fail
              go_roundw
              case rel => exact ⟨q + 1, by omega, by go_num, by rw [hnx.out], HBJ.out⟩
              case measure => simp [intOf]; omega
            · have hnx := Lib.hid (show totTo L (tu + 1) (fun day => yesB ds fs day x) (q + 1) = tq by rw [HST.out, ty]; simp)
              rw [ty] at ly
              clear ty
              go_wp2_with fail
              go_roundw
              case rel => exact ⟨q + 1, by omega, by go_num, by rw [hnx.out], HBJ.out⟩
              case measure => simp [intOf]; omega
          · have HNX := Lib.hid (show nxtAt L (tu + 1) q = tu + 1 by unfold nxtAt; rw [List.getElem?_eq_none (by omega)]; rfl)
            have j2 : decide ((q : Int) + 1 < (L.length : Int)) = false := decide_eq_false (by omega)
            go_wp2_with fail
            refine (judged_rs _ _ _ ds _ _ _ fs y _ (HR.out.on HBW.out) HZ.out HRB.out (HF.out.on HBW.out) hk HOKA.out).mono ?_
            rintro e WJ ⟨cb, A9, m9, c9, bp, bn, rs9, I9, ci9, rfl, hC, _, hcb, hb2, _, _⟩
            have HBJ := Lib.hid (below_step HBR.out hb2)
            have k3 := hC.c3
            have ly := hC.my.look HX6.out
            clear hC hb2 hcb
            rcases Bool.eq_false_or_eq_true (yesB ds fs y x) with ty | ty
            · have hnx := Lib.hid (show totTo L (tu + 1) (fun day => yesB ds fs day x) (q + 1) = tq + (tu + 1 - y) by rw [HST.out, ty, HNX.out]; rfl)
              rw [ty] at ly
              clear ty
              go_wp2_with fail
              go_roundw
              case rel => exact ⟨q + 1, by omega, by go_num, by rw [hnx.out], HBJ.out⟩
              case measure => simp [intOf]; omega
            · have hnx := Lib.hid (show totTo L (tu + 1) (fun day => yesB ds fs day x) (q + 1) = tq by rw [HST.out, ty]; simp)
              rw [ty] at ly
              clear ty
              go_wp2_with fail
              go_roundw
              case rel => exact ⟨q + 1, by omega, by go_num, by rw [hnx.out], HBJ.out⟩
              case measure => simp [intOf]; omega
        · obtain rfl : q = L.length := by omega
          have HBR := Lib.hid hbr
          clear hbr
          go_wp2_with fail
          go_ret2
          exact ⟨by rw [hfin.out.1, hfin.out.2, ← HL.out]; rfl, below_step HB3.out HBR.out⟩
end Go.Proofs.Ytinocfehjdlohaa
