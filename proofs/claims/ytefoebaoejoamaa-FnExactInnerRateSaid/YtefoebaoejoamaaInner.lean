/-
  InnerRate: what the program's and the reference's function return.
-/
import Derived.Test.YtefoebaoejoamaaFlowV
namespace Go.Proofs.Ytefoebaoejoamaa
open Fl
open Go.ChangeShapes Go.WideShapes Go.ChangeAt Go.RowKit
set_option linter.unusedVariables false

def negB (b : Nat) : Bool := Ieee.single.order b 0 == some .lt
theorem negB_is {b : Nat} {x : Bool} (h : negB b = x) : (FloatKind.f32.format.order b 0 == some Ordering.lt) = x := h
theorem fadd_comm (x y : Nat) : fadd x y = fadd y x := by
  unfold fadd
  have : Ieee.single.add x y = Ieee.single.add y x := by
    unfold Ieee.Format.add
    congr 1
    generalize Ieee.single.read x = a
    generalize Ieee.single.read y = b
    cases a <;> cases b <;> simp [Ieee.Datum.sum]
    case number.number s m i t n j =>
      rw [Int.min_comm j i, Int.add_comm (Ieee.signed t n _), Bool.and_comm t s]
      exact ⟨rfl, rfl, rfl⟩
    case infinity.infinity s t => cases s <;> cases t <;> rfl
  rw [this]
def midOf (x y : Nat) : Nat := fdiv (fadd x y) 1073741824
theorem midOf_comm (x y : Nat) : midOf x y = midOf y x := by unfold midOf; rw [fadd_comm]
def startOf (zs : List Int) (n : Nat) : Nat × Nat := if negB (valAt zs 1065353216 n) then (1065353216, 3204448256) else (3204448256, 1065353216)
def itAt (zs : List Int) (n : Nat) : Nat → Nat × Nat
  | 0 => startOf zs n
  | k + 1 => if negB (valAt zs (midOf (itAt zs n k).1 (itAt zs n k).2) n) then (midOf (itAt zs n k).1 (itAt zs n k).2, (itAt zs n k).2) else ((itAt zs n k).1, midOf (itAt zs n k).1 (itAt zs n k).2)
theorem it_half (zs : List Int) (n : Nat) : ∀ k, Half1 (itAt zs n k).1 ∧ Half1 (itAt zs n k).2
  | 0 => by
    show Half1 (startOf zs n).1 ∧ Half1 (startOf zs n).2
    unfold startOf
    cases negB (valAt zs 1065353216 n)
    · exact ⟨Half1_low, Half1_high⟩
    · exact ⟨Half1_high, Half1_low⟩
  | k + 1 => by
    obtain ⟨h1, h2⟩ := it_half zs n k
    have h3 := (mid_ok h1 h2).2.2
    show Half1 (ite _ _ _ : Nat × Nat).1 ∧ Half1 (ite _ _ _ : Nat × Nat).2
    cases negB (valAt zs (midOf (itAt zs n k).1 (itAt zs n k).2) n)
    · exact ⟨h1, h3⟩
    · exact ⟨h3, h2⟩
def innerOk (zs : List Int) (c : Int) : Bool := flowOk zs && (inB c 1 32 && (negB (valAt zs 3204448256 zs.length) != negB (valAt zs 1065353216 zs.length)))
def InnerRate_r0 (zs : List Int) (c : Int) : Nat := if innerOk zs c then midOf (itAt zs zs.length c.toNat).1 (itAt zs zs.length c.toNat).2 else 0
def InnerRate_r1 (zs : List Int) (c : Int) : Bool := innerOk zs c
theorem InnerRate_fin (zs : List Int) (c : Int) : nan32 (InnerRate_r0 zs c) = false := by
  unfold InnerRate_r0
  cases h : innerOk zs c
  · rw [if_neg (by decide)]; exact F_nan F_zero
  · rw [if_pos rfl]
    obtain ⟨h1, h2⟩ := it_half zs zs.length c.toNat
    exact F_nan (mid_ok h1 h2).2.2.fin
def InnerIs (W : World) (zs : List Int) (c : Int) (E : Ending) (w' : World) : Prop := E = .returned (.tuple #[.float .f32 (InnerRate_r0 zs c), .bool (InnerRate_r1 zs c)]) ∧ Below W.heap.size W w'
theorem inner_no {W w' : World} {zs : List Int} {c : Int} (h : innerOk zs c = false) (hb : Below W.heap.size W w') : InnerIs W zs c (.returned (.tuple #[.float .f32 0, .bool false])) w' := by
  unfold InnerIs InnerRate_r0 InnerRate_r1; rw [h]; exact ⟨rfl, hb⟩
theorem inner_yes {W w' : World} {zs : List Int} {c : Int} {v : Nat} (h : innerOk zs c = true) (hv : v = midOf (itAt zs zs.length c.toNat).1 (itAt zs zs.length c.toNat).2) (hb : Below W.heap.size W w') : InnerIs W zs c (.returned (.tuple #[.float .f32 v, .bool true])) w' := by
  unfold InnerIs InnerRate_r0 InnerRate_r1; rw [h, hv]; exact ⟨rfl, hb⟩
set_option maxHeartbeats 3200000 in
theorem impl_inner_true (A : Option Addr) (n c : Nat) (zs : List Int) (R : Nat) (w : World) (hr : Rd w w.heap.size 1 A n (ints zs)) (hn : n ≤ 60) (hz : I64s zs) (h : flowOk zs = true) (hR : 1 ≤ R ∧ R ≤ 32)
    (ha : negB (valAt zs 3204448256 n) = true) (hb' : negB (valAt zs 1065353216 n) = false) :
    Calls Try.prog 37 #[.slice A n c, .int .i64 R] w (InnerIs w zs R) := by
  have HL := Lib.hid hr.ilen
  have hn2 : n ≤ 2097152 := by omega
  have h' : cntIn zs 2 60 (-1000000000) 1000000000 = true := h
  have hin : inB (R : Int) 1 32 = true := inB_iff.2 (by omega)
  have hok : innerOk zs R = true := by
    have e := HL.out
    unfold innerOk
    rw [h, hin, e, ha, hb']; rfl
  have hfin := Lib.hid (fun v w' => inner_yes (W := w) (w' := w') (v := v) hok)
  rw [HL.out, Int.toNat_natCast] at hfin
  have HZ := Lib.hid (flow_is h)
  have HS0 := Lib.hid (show startOf zs n = (3204448256, 1065353216) by unfold startOf; rw [hb']; rfl)
  have f0 := negB_is ha
  have f1 := negB_is hb'
  clear hok hz h ha hb'
  go_enter Try.func37, Try.ntmps37
  go_wp2_with (first | (go_at_call 55; refine (areFlows_any _ _ _ zs _ hr hn2).mono ?_; rintro e w1 ⟨rfl, hb⟩; have hr1 := hr.on hb) | (go_at_call 59; refine (within_any _ _ _ _).mono ?_; rintro e w' ⟨rfl, rfl⟩) | (go_at_call 56; refine (worthF_any _ _ _ zs _ _ hr1 hn HZ.out (by first | exact Half1_low | exact Half1_high)).mono ?_; rintro e w2 ⟨rfl, rfl⟩) | (first | fail | (go_at_call 56; refine (l01Finite_yes _ _ (by first | exact FA.out | exact FB.out)).mono ?_; rintro e w2 ⟨rfl, rfl⟩)))
  clear h' hin
  go_loop [6, 7, 8, 33] (fun x y _ i => ∃ (k : Nat) (p : Nat × Nat), k ≤ R ∧ i = .int .i64 k ∧ p = itAt zs n k ∧ x = .float .f32 p.1 ∧ y = .float .f32 p.2) (fun _ _ _ i => R - (intOf i).toNat)
  case atStart => exact ⟨0, (3204448256, 1065353216), Nat.zero_le _, rfl, HS0.out.symm, rfl, rfl⟩
  case round =>
    obtain ⟨k, p, hk, rfl, hp, rfl, rfl⟩ := hrel
    have HP := Lib.hid hp
    have hh := it_half zs n k
    rw [← hp] at hh
    have hv := Lib.hid (show itAt zs n (k + 1) = if negB (valAt zs (midOf (itAt zs n k).1 (itAt zs n k).2) n) then (midOf (itAt zs n k).1 (itAt zs n k).2, (itAt zs n k).2) else ((itAt zs n k).1, midOf (itAt zs n k).1 (itAt zs n k).2) from rfl)
    rw [← hp] at hv
    clear hp
    obtain ⟨p1, p2⟩ := p
    dsimp only at hh hv ⊢
    obtain ⟨o1, o2, hm⟩ := mid_ok (x := p1) (y := p2) (by first | exact hh.1 | exact hh.2) (by first | exact hh.1 | exact hh.2)
    have em : fdiv (fadd (p1) (p2)) 1073741824 = midOf p1 p2 := by first | rfl | exact midOf_comm _ _
    rw [em] at hm
    have HM := Lib.hid hm
    have q1 := fun (t : TypeId) (w : World) => run_fadd (P := Try.prog) t o1 w
    have q2 := fun (t : TypeId) (w : World) => run_fdiv (P := Try.prog) t o2 w
    rw [em] at q2
    obtain ⟨mm, hmm⟩ : ∃ mm, mm = midOf p1 p2 := ⟨_, rfl⟩
    rw [← hmm] at hv q2 HM
    have HMM := Lib.hid hmm
    clear o1 o2 hm em hmm hh
    by_cases hlt : k < R
    · cases hx : negB (valAt zs mm n)
      all_goals
        have fx := negB_is hx
        rw [hx] at hv
        clear hx
        go_wp2_with (go_at_call 56; refine (worthF_any _ _ _ zs _ _ hr1 hn HZ.out HM.out).mono ?_; rintro e w2 ⟨rfl, rfl⟩)
        go_round
        case rel => exact ⟨k + 1, _, by omega, by go_num, hv.out.symm, rfl, rfl⟩
        case measure => simp [intOf]; omega
    · clear hr hr1 hv
      obtain rfl : R = k := by omega
      have HF := Lib.hid HM.out.fin
      go_wp2_with (first | fail | (go_at_call 51; refine (finite_yes _ _ HF.out).mono ?_; rintro e w2 ⟨rfl, rfl⟩))
      go_ret2
      exact hfin.out _ _ (by rw [← HP.out]; exact HMM.out) hb
set_option maxHeartbeats 3200000 in
theorem impl_inner_false (A : Option Addr) (n c : Nat) (zs : List Int) (R : Nat) (w : World) (hr : Rd w w.heap.size 1 A n (ints zs)) (hn : n ≤ 60) (hz : I64s zs) (h : flowOk zs = true) (hR : 1 ≤ R ∧ R ≤ 32)
    (ha : negB (valAt zs 3204448256 n) = false) (hb' : negB (valAt zs 1065353216 n) = true) :
    Calls Try.prog 37 #[.slice A n c, .int .i64 R] w (InnerIs w zs R) := by
  have HL := Lib.hid hr.ilen
  have hn2 : n ≤ 2097152 := by omega
  have h' : cntIn zs 2 60 (-1000000000) 1000000000 = true := h
  have hin : inB (R : Int) 1 32 = true := inB_iff.2 (by omega)
  have hok : innerOk zs R = true := by
    have e := HL.out
    unfold innerOk
    rw [h, hin, e, ha, hb']; rfl
  have hfin := Lib.hid (fun v w' => inner_yes (W := w) (w' := w') (v := v) hok)
  rw [HL.out, Int.toNat_natCast] at hfin
  have HZ := Lib.hid (flow_is h)
  have HS0 := Lib.hid (show startOf zs n = (1065353216, 3204448256) by unfold startOf; rw [hb']; rfl)
  have f0 := negB_is ha
  have f1 := negB_is hb'
  clear hok hz h ha hb'
  go_enter Try.func37, Try.ntmps37
  go_wp2_with (first | (go_at_call 55; refine (areFlows_any _ _ _ zs _ hr hn2).mono ?_; rintro e w1 ⟨rfl, hb⟩; have hr1 := hr.on hb) | (go_at_call 59; refine (within_any _ _ _ _).mono ?_; rintro e w' ⟨rfl, rfl⟩) | (go_at_call 56; refine (worthF_any _ _ _ zs _ _ hr1 hn HZ.out (by first | exact Half1_low | exact Half1_high)).mono ?_; rintro e w2 ⟨rfl, rfl⟩) | (first | fail | (go_at_call 56; refine (l01Finite_yes _ _ (by first | exact FA.out | exact FB.out)).mono ?_; rintro e w2 ⟨rfl, rfl⟩)))
  clear h' hin
  go_loop [6, 7, 8, 33] (fun x y _ i => ∃ (k : Nat) (p : Nat × Nat), k ≤ R ∧ i = .int .i64 k ∧ p = itAt zs n k ∧ x = .float .f32 p.1 ∧ y = .float .f32 p.2) (fun _ _ _ i => R - (intOf i).toNat)
  case atStart => exact ⟨0, (1065353216, 3204448256), Nat.zero_le _, rfl, HS0.out.symm, rfl, rfl⟩
  case round =>
    obtain ⟨k, p, hk, rfl, hp, rfl, rfl⟩ := hrel
    have HP := Lib.hid hp
    have hh := it_half zs n k
    rw [← hp] at hh
    have hv := Lib.hid (show itAt zs n (k + 1) = if negB (valAt zs (midOf (itAt zs n k).1 (itAt zs n k).2) n) then (midOf (itAt zs n k).1 (itAt zs n k).2, (itAt zs n k).2) else ((itAt zs n k).1, midOf (itAt zs n k).1 (itAt zs n k).2) from rfl)
    rw [← hp] at hv
    clear hp
    obtain ⟨p1, p2⟩ := p
    dsimp only at hh hv ⊢
    obtain ⟨o1, o2, hm⟩ := mid_ok (x := p1) (y := p2) (by first | exact hh.1 | exact hh.2) (by first | exact hh.1 | exact hh.2)
    have em : fdiv (fadd (p1) (p2)) 1073741824 = midOf p1 p2 := by first | rfl | exact midOf_comm _ _
    rw [em] at hm
    have HM := Lib.hid hm
    have q1 := fun (t : TypeId) (w : World) => run_fadd (P := Try.prog) t o1 w
    have q2 := fun (t : TypeId) (w : World) => run_fdiv (P := Try.prog) t o2 w
    rw [em] at q2
    obtain ⟨mm, hmm⟩ : ∃ mm, mm = midOf p1 p2 := ⟨_, rfl⟩
    rw [← hmm] at hv q2 HM
    have HMM := Lib.hid hmm
    clear o1 o2 hm em hmm hh
    by_cases hlt : k < R
    · cases hx : negB (valAt zs mm n)
      all_goals
        have fx := negB_is hx
        rw [hx] at hv
        clear hx
        go_wp2_with (go_at_call 56; refine (worthF_any _ _ _ zs _ _ hr1 hn HZ.out HM.out).mono ?_; rintro e w2 ⟨rfl, rfl⟩)
        go_round
        case rel => exact ⟨k + 1, _, by omega, by go_num, hv.out.symm, rfl, rfl⟩
        case measure => simp [intOf]; omega
    · clear hr hr1 hv
      obtain rfl : R = k := by omega
      have HF := Lib.hid HM.out.fin
      go_wp2_with (first | fail | (go_at_call 51; refine (finite_yes _ _ HF.out).mono ?_; rintro e w2 ⟨rfl, rfl⟩))
      go_ret2
      exact hfin.out _ _ (by rw [← HP.out]; exact HMM.out) hb
set_option maxHeartbeats 3200000 in
theorem spec_inner_true (A : Option Addr) (n c : Nat) (zs : List Int) (R : Nat) (w : World) (hr : Rd w w.heap.size 1 A n (ints zs)) (hn : n ≤ 60) (hz : I64s zs) (h : flowOk zs = true) (hR : 1 ≤ R ∧ R ≤ 32)
    (ha : negB (valAt zs 3204448256 n) = true) (hb' : negB (valAt zs 1065353216 n) = false) :
    Calls Try.prog 36 #[.slice A n c, .int .i64 R] w (InnerIs w zs R) := by
  have HL := Lib.hid hr.ilen
  have hn2 : n ≤ 2097152 := by omega
  have h' : cntIn zs 2 60 (-1000000000) 1000000000 = true := h
  have hin : inB (R : Int) 1 32 = true := inB_iff.2 (by omega)
  have hok : innerOk zs R = true := by
    have e := HL.out
    unfold innerOk
    rw [h, hin, e, ha, hb']; rfl
  have hfin := Lib.hid (fun v w' => inner_yes (W := w) (w' := w') (v := v) hok)
  rw [HL.out, Int.toNat_natCast] at hfin
  have HZ := Lib.hid (flow_is h)
  have HS0 := Lib.hid (show startOf zs n = (3204448256, 1065353216) by unfold startOf; rw [hb']; rfl)
  have f0 := negB_is ha
  have f1 := negB_is hb'
  have FA := Lib.hid (val_fin HZ.out Half1_low n (by have := HL.out; omega) hn)
  have FB := Lib.hid (val_fin HZ.out Half1_high n (by have := HL.out; omega) hn)
  clear hok hz h ha hb'
  go_enter Try.func36, Try.ntmps36
  go_wp2_with (first | (go_at_call 52; refine (l06Flows_any _ _ _ zs _ hr hn2).mono ?_; rintro e w' ⟨rfl, rfl⟩; have hb := Below.refl w.heap.size w; have hr1 := hr) | (go_at_call 58; refine (l00In_any _ _ _ _).mono ?_; rintro e w' ⟨rfl, rfl⟩) | (go_at_call 54; refine (l06Value_any _ _ _ zs _ _ hr1 hn HZ.out (by first | exact Half1_low | exact Half1_high)).mono ?_; rintro e w2 ⟨rfl, rfl⟩) | (first | fail | (go_at_call 61; refine (l01Finite_yes _ _ (by first | exact FA.out | exact FB.out)).mono ?_; rintro e w2 ⟨rfl, rfl⟩)))
  clear h' hin
  go_loop [1, 6, 7, 10, 11] (fun i x y _ _ => ∃ (j : Nat) (p : Nat × Nat), j ≤ R ∧ i = .int .i64 j ∧ p = itAt zs n (R - j) ∧ x = .float .f32 p.1 ∧ y = .float .f32 p.2) (fun i _ _ _ _ => (intOf i).toNat)
  case atStart => exact ⟨R, (3204448256, 1065353216), Nat.le_refl _, rfl, by rw [Nat.sub_self]; exact HS0.out.symm, rfl, rfl⟩
  case round =>
    obtain ⟨j, p, hj, rfl, hp, rfl, rfl⟩ := hrel
    obtain ⟨k, hk⟩ : ∃ k, k = R - j := ⟨_, rfl⟩
    rw [← hk] at hp
    have HK := Lib.hid hk
    clear hk
    have HP := Lib.hid hp
    have hh := it_half zs n k
    rw [← hp] at hh
    have hv := Lib.hid (show itAt zs n (k + 1) = if negB (valAt zs (midOf (itAt zs n k).1 (itAt zs n k).2) n) then (midOf (itAt zs n k).1 (itAt zs n k).2, (itAt zs n k).2) else ((itAt zs n k).1, midOf (itAt zs n k).1 (itAt zs n k).2) from rfl)
    rw [← hp] at hv
    clear hp
    obtain ⟨p1, p2⟩ := p
    dsimp only at hh hv ⊢
    obtain ⟨o1, o2, hm⟩ := mid_ok (x := p1) (y := p2) (by first | exact hh.1 | exact hh.2) (by first | exact hh.1 | exact hh.2)
    have em : fdiv (fadd (p1) (p2)) 1073741824 = midOf p1 p2 := by first | rfl | exact midOf_comm _ _
    rw [em] at hm
    have HM := Lib.hid hm
    have q1 := fun (t : TypeId) (w : World) => run_fadd (P := Try.prog) t o1 w
    have q2 := fun (t : TypeId) (w : World) => run_fdiv (P := Try.prog) t o2 w
    rw [em] at q2
    obtain ⟨mm, hmm⟩ : ∃ mm, mm = midOf p1 p2 := ⟨_, rfl⟩
    rw [← hmm] at hv q2 HM
    have HMM := Lib.hid hmm
    clear o1 o2 hm em hmm hh
    by_cases hlt : 0 < j
    · cases hx : negB (valAt zs mm n)
      all_goals
        have fx := negB_is hx
        rw [hx] at hv
        clear hx
        go_wp2_with (go_at_call 54; refine (l06Value_any _ _ _ zs _ _ hr1 hn HZ.out HM.out).mono ?_; rintro e w2 ⟨rfl, rfl⟩)
        go_round
        case rel => exact ⟨j - 1, _, by omega, by go_num, hv.out.symm.trans (by rw [show R - (j - 1) = k + 1 by have := HK.out; omega]), rfl, rfl⟩
        case measure => simp [intOf]; omega
    · clear hr hr1 hv
      obtain rfl : j = 0 := by omega
      obtain rfl : R = k := by have := HK.out; omega
      have HF := Lib.hid HM.out.fin
      go_wp2_with (first | fail | (go_at_call 51; refine (finite_yes _ _ HF.out).mono ?_; rintro e w2 ⟨rfl, rfl⟩))
      go_ret2
      exact hfin.out _ _ (by rw [← HP.out]; exact HMM.out) hb
set_option maxHeartbeats 3200000 in
theorem spec_inner_false (A : Option Addr) (n c : Nat) (zs : List Int) (R : Nat) (w : World) (hr : Rd w w.heap.size 1 A n (ints zs)) (hn : n ≤ 60) (hz : I64s zs) (h : flowOk zs = true) (hR : 1 ≤ R ∧ R ≤ 32)
    (ha : negB (valAt zs 3204448256 n) = false) (hb' : negB (valAt zs 1065353216 n) = true) :
    Calls Try.prog 36 #[.slice A n c, .int .i64 R] w (InnerIs w zs R) := by
  have HL := Lib.hid hr.ilen
  have hn2 : n ≤ 2097152 := by omega
  have h' : cntIn zs 2 60 (-1000000000) 1000000000 = true := h
  have hin : inB (R : Int) 1 32 = true := inB_iff.2 (by omega)
  have hok : innerOk zs R = true := by
    have e := HL.out
    unfold innerOk
    rw [h, hin, e, ha, hb']; rfl
  have hfin := Lib.hid (fun v w' => inner_yes (W := w) (w' := w') (v := v) hok)
  rw [HL.out, Int.toNat_natCast] at hfin
  have HZ := Lib.hid (flow_is h)
  have HS0 := Lib.hid (show startOf zs n = (1065353216, 3204448256) by unfold startOf; rw [hb']; rfl)
  have f0 := negB_is ha
  have f1 := negB_is hb'
  have FA := Lib.hid (val_fin HZ.out Half1_low n (by have := HL.out; omega) hn)
  have FB := Lib.hid (val_fin HZ.out Half1_high n (by have := HL.out; omega) hn)
  clear hok hz h ha hb'
  go_enter Try.func36, Try.ntmps36
  go_wp2_with (first | (go_at_call 52; refine (l06Flows_any _ _ _ zs _ hr hn2).mono ?_; rintro e w' ⟨rfl, rfl⟩; have hb := Below.refl w.heap.size w; have hr1 := hr) | (go_at_call 58; refine (l00In_any _ _ _ _).mono ?_; rintro e w' ⟨rfl, rfl⟩) | (go_at_call 54; refine (l06Value_any _ _ _ zs _ _ hr1 hn HZ.out (by first | exact Half1_low | exact Half1_high)).mono ?_; rintro e w2 ⟨rfl, rfl⟩) | (first | fail | (go_at_call 61; refine (l01Finite_yes _ _ (by first | exact FA.out | exact FB.out)).mono ?_; rintro e w2 ⟨rfl, rfl⟩)))
  clear h' hin
  go_loop [1, 6, 7, 10, 11] (fun i x y _ _ => ∃ (j : Nat) (p : Nat × Nat), j ≤ R ∧ i = .int .i64 j ∧ p = itAt zs n (R - j) ∧ x = .float .f32 p.2 ∧ y = .float .f32 p.1) (fun i _ _ _ _ => (intOf i).toNat)
  case atStart => exact ⟨R, (1065353216, 3204448256), Nat.le_refl _, rfl, by rw [Nat.sub_self]; exact HS0.out.symm, rfl, rfl⟩
  case round =>
    obtain ⟨j, p, hj, rfl, hp, rfl, rfl⟩ := hrel
    obtain ⟨k, hk⟩ : ∃ k, k = R - j := ⟨_, rfl⟩
    rw [← hk] at hp
    have HK := Lib.hid hk
    clear hk
    have HP := Lib.hid hp
    have hh := it_half zs n k
    rw [← hp] at hh
    have hv := Lib.hid (show itAt zs n (k + 1) = if negB (valAt zs (midOf (itAt zs n k).1 (itAt zs n k).2) n) then (midOf (itAt zs n k).1 (itAt zs n k).2, (itAt zs n k).2) else ((itAt zs n k).1, midOf (itAt zs n k).1 (itAt zs n k).2) from rfl)
    rw [← hp] at hv
    clear hp
    obtain ⟨p1, p2⟩ := p
    dsimp only at hh hv ⊢
    obtain ⟨o1, o2, hm⟩ := mid_ok (x := p2) (y := p1) (by first | exact hh.1 | exact hh.2) (by first | exact hh.1 | exact hh.2)
    have em : fdiv (fadd (p2) (p1)) 1073741824 = midOf p1 p2 := by first | rfl | exact midOf_comm _ _
    rw [em] at hm
    have HM := Lib.hid hm
    have q1 := fun (t : TypeId) (w : World) => run_fadd (P := Try.prog) t o1 w
    have q2 := fun (t : TypeId) (w : World) => run_fdiv (P := Try.prog) t o2 w
    rw [em] at q2
    obtain ⟨mm, hmm⟩ : ∃ mm, mm = midOf p1 p2 := ⟨_, rfl⟩
    rw [← hmm] at hv q2 HM
    have HMM := Lib.hid hmm
    clear o1 o2 hm em hmm hh
    by_cases hlt : 0 < j
    · cases hx : negB (valAt zs mm n)
      all_goals
        have fx := negB_is hx
        rw [hx] at hv
        clear hx
        go_wp2_with (go_at_call 54; refine (l06Value_any _ _ _ zs _ _ hr1 hn HZ.out HM.out).mono ?_; rintro e w2 ⟨rfl, rfl⟩)
        go_round
        case rel => exact ⟨j - 1, _, by omega, by go_num, hv.out.symm.trans (by rw [show R - (j - 1) = k + 1 by have := HK.out; omega]), rfl, rfl⟩
        case measure => simp [intOf]; omega
    · clear hr hr1 hv
      obtain rfl : j = 0 := by omega
      obtain rfl : R = k := by have := HK.out; omega
      have HF := Lib.hid HM.out.fin
      go_wp2_with (first | fail | (go_at_call 51; refine (finite_yes _ _ HF.out).mono ?_; rintro e w2 ⟨rfl, rfl⟩))
      go_ret2
      exact hfin.out _ _ (by rw [← HP.out]; exact HMM.out) hb
set_option maxHeartbeats 1600000 in
theorem impl_InnerRate (A : Option Addr) (n c : Nat) (zs : List Int) (z : Int) (w : World) (hr : Rd w w.heap.size 1 A n (ints zs)) (hn : n ≤ 1048576) (hz : I64s zs) (hq : -9223372036854775808 ≤ z ∧ z ≤ 9223372036854775807) :
    Calls Try.prog 37 #[.slice A n c, .int .i64 z] w (InnerIs w zs z) := by
  have HL := Lib.hid hr.ilen
  have hn2 : n ≤ 2097152 := by omega
  cases h : flowOk zs
  · have hfin := Lib.hid (fun w' => inner_no (W := w) (w' := w') (zs := zs) (c := z) (by simp [innerOk, h]))
    have h' : cntIn zs 2 60 (-1000000000) 1000000000 = false := h
    go_enter Try.func37, Try.ntmps37
    go_wp2_with (go_at_call 55; refine (areFlows_any _ _ _ zs _ hr hn2).mono ?_; rintro e w1 ⟨rfl, hb⟩; have hr1 := hr.on hb)
    go_ret2
    exact hfin.out _ hb
  have h' : cntIn zs 2 60 (-1000000000) 1000000000 = true := h
  cases h2 : inB z 1 32
  · have hfin := Lib.hid (fun w' => inner_no (W := w) (w' := w') (zs := zs) (c := z) (by simp [innerOk, h2]))
    go_enter Try.func37, Try.ntmps37
    go_wp2_with (first | (go_at_call 55; refine (areFlows_any _ _ _ zs _ hr hn2).mono ?_; rintro e w1 ⟨rfl, hb⟩; have hr1 := hr.on hb) | (go_at_call 59; refine (within_any _ _ _ _).mono ?_; rintro e w' ⟨rfl, rfl⟩))
    go_ret2
    exact hfin.out _ hb
  have hl := flow_len h
  have hn' : n ≤ 60 := by have := HL.out; omega
  have b2 := inB_iff.1 h2
  obtain ⟨R, rfl⟩ := Int.eq_ofNat_of_zero_le (show 0 ≤ z by omega)
  have hR : 1 ≤ R ∧ R ≤ 32 := by omega
  cases ha : negB (valAt zs 3204448256 n)
  · cases hb' : negB (valAt zs 1065353216 n)
    · have hfin := Lib.hid (fun w' => inner_no (W := w) (w' := w') (zs := zs) (c := (R : Int)) (by have e := HL.out; unfold innerOk; rw [e, ha, hb']; simp))
      have HZ := Lib.hid (flow_is h)
      have f0 := negB_is ha
      have f1 := negB_is hb'
      have FA := Lib.hid (val_fin HZ.out Half1_low n (by have := HL.out; omega) hn')
      have FB := Lib.hid (val_fin HZ.out Half1_high n (by have := HL.out; omega) hn')
      clear ha hb' hl hz h b2
      go_enter Try.func37, Try.ntmps37
      go_wp2_with (first | (go_at_call 55; refine (areFlows_any _ _ _ zs _ hr hn2).mono ?_; rintro e w1 ⟨rfl, hb⟩; have hr1 := hr.on hb) | (go_at_call 59; refine (within_any _ _ _ _).mono ?_; rintro e w' ⟨rfl, rfl⟩) | (go_at_call 56; refine (worthF_any _ _ _ zs _ _ hr1 hn' HZ.out (by first | exact Half1_low | exact Half1_high)).mono ?_; rintro e w2 ⟨rfl, rfl⟩) | (first | fail | (go_at_call 56; refine (l01Finite_yes _ _ (by first | exact FA.out | exact FB.out)).mono ?_; rintro e w2 ⟨rfl, rfl⟩)))
      go_ret2
      exact hfin.out _ hb
    · exact impl_inner_false A n c zs R w hr hn' hz h hR ha hb'
  · cases hb' : negB (valAt zs 1065353216 n)
    · exact impl_inner_true A n c zs R w hr hn' hz h hR ha hb'
    · have hfin := Lib.hid (fun w' => inner_no (W := w) (w' := w') (zs := zs) (c := (R : Int)) (by have e := HL.out; unfold innerOk; rw [e, ha, hb']; simp))
      have HZ := Lib.hid (flow_is h)
      have f0 := negB_is ha
      have f1 := negB_is hb'
      have FA := Lib.hid (val_fin HZ.out Half1_low n (by have := HL.out; omega) hn')
      have FB := Lib.hid (val_fin HZ.out Half1_high n (by have := HL.out; omega) hn')
      clear ha hb' hl hz h b2
      go_enter Try.func37, Try.ntmps37
      go_wp2_with (first | (go_at_call 55; refine (areFlows_any _ _ _ zs _ hr hn2).mono ?_; rintro e w1 ⟨rfl, hb⟩; have hr1 := hr.on hb) | (go_at_call 59; refine (within_any _ _ _ _).mono ?_; rintro e w' ⟨rfl, rfl⟩) | (go_at_call 56; refine (worthF_any _ _ _ zs _ _ hr1 hn' HZ.out (by first | exact Half1_low | exact Half1_high)).mono ?_; rintro e w2 ⟨rfl, rfl⟩) | (first | fail | (go_at_call 56; refine (l01Finite_yes _ _ (by first | exact FA.out | exact FB.out)).mono ?_; rintro e w2 ⟨rfl, rfl⟩)))
      go_ret2
      exact hfin.out _ hb
set_option maxHeartbeats 1600000 in
theorem spec_InnerRate (A : Option Addr) (n c : Nat) (zs : List Int) (z : Int) (w : World) (hr : Rd w w.heap.size 1 A n (ints zs)) (hn : n ≤ 1048576) (hz : I64s zs) (hq : -9223372036854775808 ≤ z ∧ z ≤ 9223372036854775807) :
    Calls Try.prog 36 #[.slice A n c, .int .i64 z] w (InnerIs w zs z) := by
  have HL := Lib.hid hr.ilen
  have hn2 : n ≤ 2097152 := by omega
  cases h : flowOk zs
  · have hfin := Lib.hid (fun w' => inner_no (W := w) (w' := w') (zs := zs) (c := z) (by simp [innerOk, h]))
    have h' : cntIn zs 2 60 (-1000000000) 1000000000 = false := h
    go_enter Try.func36, Try.ntmps36
    go_wp2_with (go_at_call 52; refine (l06Flows_any _ _ _ zs _ hr hn2).mono ?_; rintro e w' ⟨rfl, rfl⟩; have hb := Below.refl w.heap.size w; have hr1 := hr)
    go_ret2
    exact hfin.out _ hb
  have h' : cntIn zs 2 60 (-1000000000) 1000000000 = true := h
  cases h2 : inB z 1 32
  · have hfin := Lib.hid (fun w' => inner_no (W := w) (w' := w') (zs := zs) (c := z) (by simp [innerOk, h2]))
    go_enter Try.func36, Try.ntmps36
    go_wp2_with (first | (go_at_call 52; refine (l06Flows_any _ _ _ zs _ hr hn2).mono ?_; rintro e w' ⟨rfl, rfl⟩; have hb := Below.refl w.heap.size w; have hr1 := hr) | (go_at_call 58; refine (l00In_any _ _ _ _).mono ?_; rintro e w' ⟨rfl, rfl⟩))
    go_ret2
    exact hfin.out _ hb
  have hl := flow_len h
  have hn' : n ≤ 60 := by have := HL.out; omega
  have b2 := inB_iff.1 h2
  obtain ⟨R, rfl⟩ := Int.eq_ofNat_of_zero_le (show 0 ≤ z by omega)
  have hR : 1 ≤ R ∧ R ≤ 32 := by omega
  cases ha : negB (valAt zs 3204448256 n)
  · cases hb' : negB (valAt zs 1065353216 n)
    · have hfin := Lib.hid (fun w' => inner_no (W := w) (w' := w') (zs := zs) (c := (R : Int)) (by have e := HL.out; unfold innerOk; rw [e, ha, hb']; simp))
      have HZ := Lib.hid (flow_is h)
      have f0 := negB_is ha
      have f1 := negB_is hb'
      have FA := Lib.hid (val_fin HZ.out Half1_low n (by have := HL.out; omega) hn')
      have FB := Lib.hid (val_fin HZ.out Half1_high n (by have := HL.out; omega) hn')
      clear ha hb' hl hz h b2
      go_enter Try.func36, Try.ntmps36
      go_wp2_with (first | (go_at_call 52; refine (l06Flows_any _ _ _ zs _ hr hn2).mono ?_; rintro e w' ⟨rfl, rfl⟩; have hb := Below.refl w.heap.size w; have hr1 := hr) | (go_at_call 58; refine (l00In_any _ _ _ _).mono ?_; rintro e w' ⟨rfl, rfl⟩) | (go_at_call 54; refine (l06Value_any _ _ _ zs _ _ hr1 hn' HZ.out (by first | exact Half1_low | exact Half1_high)).mono ?_; rintro e w2 ⟨rfl, rfl⟩) | (first | fail | (go_at_call 61; refine (l01Finite_yes _ _ (by first | exact FA.out | exact FB.out)).mono ?_; rintro e w2 ⟨rfl, rfl⟩)))
      go_ret2
      exact hfin.out _ hb
    · exact spec_inner_false A n c zs R w hr hn' hz h hR ha hb'
  · cases hb' : negB (valAt zs 1065353216 n)
    · exact spec_inner_true A n c zs R w hr hn' hz h hR ha hb'
    · have hfin := Lib.hid (fun w' => inner_no (W := w) (w' := w') (zs := zs) (c := (R : Int)) (by have e := HL.out; unfold innerOk; rw [e, ha, hb']; simp))
      have HZ := Lib.hid (flow_is h)
      have f0 := negB_is ha
      have f1 := negB_is hb'
      have FA := Lib.hid (val_fin HZ.out Half1_low n (by have := HL.out; omega) hn')
      have FB := Lib.hid (val_fin HZ.out Half1_high n (by have := HL.out; omega) hn')
      clear ha hb' hl hz h b2
      go_enter Try.func36, Try.ntmps36
      go_wp2_with (first | (go_at_call 52; refine (l06Flows_any _ _ _ zs _ hr hn2).mono ?_; rintro e w' ⟨rfl, rfl⟩; have hb := Below.refl w.heap.size w; have hr1 := hr) | (go_at_call 58; refine (l00In_any _ _ _ _).mono ?_; rintro e w' ⟨rfl, rfl⟩) | (go_at_call 54; refine (l06Value_any _ _ _ zs _ _ hr1 hn' HZ.out (by first | exact Half1_low | exact Half1_high)).mono ?_; rintro e w2 ⟨rfl, rfl⟩) | (first | fail | (go_at_call 61; refine (l01Finite_yes _ _ (by first | exact FA.out | exact FB.out)).mono ?_; rintro e w2 ⟨rfl, rfl⟩)))
      go_ret2
      exact hfin.out _ hb
end Go.Proofs.Ytefoebaoejoamaa
