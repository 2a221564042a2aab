/-
  ValueOfFlows: what the program's and the reference's function return.
-/
import Derived.Test.YtefoebaoejoamaaFlows
namespace Go.Proofs.Ytefoebaoejoamaa
open Fl
open Go.ChangeShapes Go.WideShapes Go.ChangeAt Go.RowKit
set_option linter.unusedVariables false

def geH (b : Nat) : Bool := Ieee.single.order b 3204448256 == some .gt || Ieee.single.order b 3204448256 == some .eq
theorem geH_is {b : Nat} {x : Bool} (h : geH b = x) : (FloatKind.f32.format.order b 3204448256 == some Ordering.gt || FloatKind.f32.format.order b 3204448256 == some Ordering.eq) = x := h
theorem half1_of {b : Nat} (hb : b < 4294967296) (h0 : geH b = true) (h1 : le1 b = true) : Half1 b := by
  unfold geH at h0
  unfold le1 at h1
  by_cases hf : F b
  · rw [order_fin hf Half1_low.fin, val_half] at h0
    rw [order_fin hf F_one, val_one] at h1
    have h2 : -(2 ^ 148) ≤ val b := by
      rcases Int.lt_trichotomy (val b) (-(2 ^ 148)) with h | h | h
      · rw [Int.compare_eq_lt.2 h] at h0; simp at h0
      · omega
      · omega
    have h3 : val b ≤ 2 ^ 149 := by
      rcases Int.lt_trichotomy (val b) (2 ^ 149) with h | h | h
      · omega
      · omega
      · rw [Int.compare_eq_gt.2 h] at h1; simp at h1
    refine ⟨hb, ?_, h2⟩
    rcases Nat.lt_or_ge 1065353216 (rk b) with hlt | hge
    · exfalso
      have h4 : mg 8388608 1065353217 ≤ mag b := by rw [mag_eq]; exact mg_mono (by decide) hlt
      have h5 : mg 8388608 1065353217 = 8388609 * 2 ^ 126 := mg_at (P := 8388608) (E := 126) (F := 1) (by decide)
      have h6 := val_abs b
      have h7 : (2 : Nat) ^ 149 < 8388609 * 2 ^ 126 := by decide
      omega
    · exact hge
  · have hf' : ¬ rk b < 2139095040 := fun h => hf (F_iff.2 h)
    exfalso
    by_cases hi : rk b = 2139095040
    · have hr := read_inf hi
      obtain ⟨m, e, hz, _⟩ := read_fi Half1_low.fin
      obtain ⟨m', e', ho, _⟩ := read_fi F_one
      unfold Ieee.Format.order at h0 h1
      rw [hr, hz] at h0
      rw [hr, ho] at h1
      simp only [Ieee.Datum.order] at h0 h1
      cases hs : sn b <;> rw [hs] at h0 h1 <;> simp at h0 h1
    · obtain ⟨s, t, hr⟩ := read_nan (b := b) (by omega)
      unfold Ieee.Format.order at h0
      rw [hr] at h0
      simp [Ieee.Datum.order] at h0
theorem sub_self_zero {b : Nat} (h : F b) : okS b b ∧ (FloatKind.f32.format.order (fsub b b) 0 == some .eq) = true := by
  obtain ⟨r, neg, h1, h2, _⟩ := sub_res h h
  obtain ⟨a, c⟩ := okS_of h1
  refine ⟨a, ?_⟩
  rw [c]
  have h3 : rk r ≤ 0 := h2.le 0 (by rw [s_inf]; decide) (by rw [Int.sub_self]; exact Nat.zero_le _)
  have h4 : mag r = 0 := by rw [mag_eq, Nat.le_zero.1 h3]; rfl
  have hv : val r = 0 := by have := val_abs r; omega
  have ho := order_fin (F_iff.2 (by omega : rk r < 2139095040)) F_zero
  rw [hv, val_zero] at ho
  show (Ieee.single.order r 0 == some .eq) = true
  rw [ho]; rfl
theorem l01Finite_yes (b : Nat) (w : World) (h : F b) : Calls Try.prog 61 #[.float .f32 b] w fun e w' => e = .returned (.bool true) ∧ w = w' := by
  obtain ⟨o, z⟩ := sub_self_zero h
  have e1 := fun (t : TypeId) (w : World) => run_fsub (P := Try.prog) t o w
  clear o h
  go_enter Try.func61, Try.ntmps61
  go_wp2_with fail
  go_ret
  exact ⟨rfl, rfl⟩
theorem l02Number_yes (b : Nat) (w : World) (h : F b) : Calls Try.prog 53 #[.float .f32 b] w fun e w' => e = .returned (.tuple #[.float .f32 b, .bool true]) ∧ w = w' := by
  go_enter Try.func53, Try.ntmps53
  go_wp2_with (go_at_call 61; refine (l01Finite_yes _ _ h).mono ?_; rintro e w' ⟨rfl, rfl⟩)
  go_ret2
  exact ⟨rfl, rfl⟩
def flowOk (zs : List Int) : Bool := cntIn zs 2 60 (-1000000000) 1000000000
def valOk (zs : List Int) (r : Nat) : Bool := flowOk zs && (geH r && le1 r)
def ValueOfFlows_r0 (zs : List Int) (r : Nat) : Nat := if valOk zs r then valAt zs r zs.length else 0
def ValueOfFlows_r1 (zs : List Int) (r : Nat) : Bool := valOk zs r
def FlowV (W : World) (zs : List Int) (r : Nat) (E : Ending) (w' : World) : Prop := E = .returned (.tuple #[.float .f32 (ValueOfFlows_r0 zs r), .bool (ValueOfFlows_r1 zs r)]) ∧ Below W.heap.size W w'
theorem flowV_no {W w' : World} {zs : List Int} {r : Nat} (h : valOk zs r = false) (hb : Below W.heap.size W w') : FlowV W zs r (.returned (.tuple #[.float .f32 0, .bool false])) w' := by
  unfold FlowV ValueOfFlows_r0 ValueOfFlows_r1; rw [h]; exact ⟨rfl, hb⟩
theorem flowV_yes {W w' : World} {zs : List Int} {r v : Nat} (h : valOk zs r = true) (hv : v = valAt zs r zs.length) (hb : Below W.heap.size W w') : FlowV W zs r (.returned (.tuple #[.float .f32 v, .bool true])) w' := by
  unfold FlowV ValueOfFlows_r0 ValueOfFlows_r1; rw [h, hv]; exact ⟨rfl, hb⟩
theorem flow_len {zs : List Int} (h : flowOk zs = true) : zs.length ≤ 60 := by
  have := (cntIn_iff.1 h).2.1; omega
theorem ValueOfFlows_fin (zs : List Int) (r : Nat) (hr : r < 4294967296) : nan32 (ValueOfFlows_r0 zs r) = false := by
  unfold ValueOfFlows_r0
  cases h : valOk zs r
  · rw [if_neg (by decide)]; exact F_nan F_zero
  · rw [if_pos rfl]
    simp [valOk] at h
    exact F_nan (val_fin (flow_is h.1) (half1_of hr h.2.1 h.2.2) _ (Nat.le_refl _) (flow_len h.1))
set_option maxHeartbeats 1600000 in
theorem impl_ValueOfFlows (A : Option Addr) (n c : Nat) (zs : List Int) (r : Nat) (w : World) (hr : Rd w w.heap.size 1 A n (ints zs)) (hn : n ≤ 1048576) (hz : I64s zs) (hq : r < 4294967296) :
    Calls Try.prog 30 #[.slice A n c, .float .f32 r] w (FlowV w zs r) := by
  have HL := Lib.hid hr.ilen
  have hn2 : n ≤ 2097152 := by omega
  cases h : flowOk zs
  · have hfin := Lib.hid (fun w' => flowV_no (W := w) (w' := w') (zs := zs) (r := r) (by simp [valOk, h]))
    have h' : cntIn zs 2 60 (-1000000000) 1000000000 = false := h
    go_enter Try.func30, Try.ntmps30
    go_wp2_with (go_at_call 55; refine (areFlows_any _ _ _ zs _ hr hn2).mono ?_; rintro e w1 ⟨rfl, hb⟩; have hr1 := hr.on hb)
    go_ret2
    exact hfin.out _ hb
  have h' : cntIn zs 2 60 (-1000000000) 1000000000 = true := h
  cases h0 : geH r
  · have hfin := Lib.hid (fun w' => flowV_no (W := w) (w' := w') (zs := zs) (r := r) (by simp [valOk, h0]))
    have f0 := geH_is h0
    go_enter Try.func30, Try.ntmps30
    go_wp2_with (go_at_call 55; refine (areFlows_any _ _ _ zs _ hr hn2).mono ?_; rintro e w1 ⟨rfl, hb⟩; have hr1 := hr.on hb)
    go_ret2
    exact hfin.out _ hb
  cases h1 : le1 r
  · have hfin := Lib.hid (fun w' => flowV_no (W := w) (w' := w') (zs := zs) (r := r) (by simp [valOk, h1]))
    have f0 := geH_is h0
    have f1 := le1_is h1
    go_enter Try.func30, Try.ntmps30
    go_wp2_with (go_at_call 55; refine (areFlows_any _ _ _ zs _ hr hn2).mono ?_; rintro e w1 ⟨rfl, hb⟩; have hr1 := hr.on hb)
    go_ret2
    exact hfin.out _ hb
  have hl := flow_len h
  have hn' : n ≤ 60 := by have := HL.out; omega
  have hok : valOk zs r = true := by simp [valOk, h, h0, h1]
  have hfin := Lib.hid (fun v w' => flowV_yes (W := w) (w' := w') (v := v) hok)
  have HQ := Lib.hid (half1_of hq h0 h1)
  have HZ := Lib.hid (flow_is h)
  have HF := Lib.hid (val_fin HZ.out HQ.out n (by have := HL.out; omega) hn')
  have f0 := geH_is h0
  have f1 := le1_is h1
  clear hl hok hq hz h
  go_enter Try.func30, Try.ntmps30
  go_wp2_with (first | (go_at_call 55; refine (areFlows_any _ _ _ zs _ hr hn2).mono ?_; rintro e w1 ⟨rfl, hb⟩; have hr1 := hr.on hb) | (go_at_call 56; refine (worthF_any _ _ _ zs _ _ hr1 hn' HZ.out HQ.out).mono ?_; rintro e w2 ⟨rfl, rfl⟩) | (go_at_call 51; refine (finite_yes _ _ HF.out).mono ?_; rintro e w' ⟨rfl, rfl⟩))
  go_ret2
  exact hfin.out _ _ (by rw [HL.out]) hb
set_option maxHeartbeats 1600000 in
theorem spec_ValueOfFlows (A : Option Addr) (n c : Nat) (zs : List Int) (r : Nat) (w : World) (hr : Rd w w.heap.size 1 A n (ints zs)) (hn : n ≤ 1048576) (hz : I64s zs) (hq : r < 4294967296) :
    Calls Try.prog 28 #[.slice A n c, .float .f32 r] w (FlowV w zs r) := by
  have HL := Lib.hid hr.ilen
  have hn2 : n ≤ 2097152 := by omega
  cases h : flowOk zs
  · have hfin := Lib.hid (fun w' => flowV_no (W := w) (w' := w') (zs := zs) (r := r) (by simp [valOk, h]))
    have h' : cntIn zs 2 60 (-1000000000) 1000000000 = false := h
    go_enter Try.func28, Try.ntmps28
    go_wp2_with (go_at_call 52; refine (l06Flows_any _ _ _ zs _ hr hn2).mono ?_; rintro e w' ⟨rfl, rfl⟩; have hb := Below.refl w.heap.size w; have hr1 := hr)
    go_ret2
    exact hfin.out _ hb
  have h' : cntIn zs 2 60 (-1000000000) 1000000000 = true := h
  cases h0 : geH r
  · have hfin := Lib.hid (fun w' => flowV_no (W := w) (w' := w') (zs := zs) (r := r) (by simp [valOk, h0]))
    have f0 := geH_is h0
    go_enter Try.func28, Try.ntmps28
    go_wp2_with (go_at_call 52; refine (l06Flows_any _ _ _ zs _ hr hn2).mono ?_; rintro e w' ⟨rfl, rfl⟩; have hb := Below.refl w.heap.size w; have hr1 := hr)
    go_ret2
    exact hfin.out _ hb
  cases h1 : le1 r
  · have hfin := Lib.hid (fun w' => flowV_no (W := w) (w' := w') (zs := zs) (r := r) (by simp [valOk, h1]))
    have f0 := geH_is h0
    have f1 := le1_is h1
    go_enter Try.func28, Try.ntmps28
    go_wp2_with (go_at_call 52; refine (l06Flows_any _ _ _ zs _ hr hn2).mono ?_; rintro e w' ⟨rfl, rfl⟩; have hb := Below.refl w.heap.size w; have hr1 := hr)
    go_ret2
    exact hfin.out _ hb
  have hl := flow_len h
  have hn' : n ≤ 60 := by have := HL.out; omega
  have hok : valOk zs r = true := by simp [valOk, h, h0, h1]
  have hfin := Lib.hid (fun v w' => flowV_yes (W := w) (w' := w') (v := v) hok)
  have HQ := Lib.hid (half1_of hq h0 h1)
  have HZ := Lib.hid (flow_is h)
  have HF := Lib.hid (val_fin HZ.out HQ.out n (by have := HL.out; omega) hn')
  have f0 := geH_is h0
  have f1 := le1_is h1
  clear hl hok hq hz h
  go_enter Try.func28, Try.ntmps28
  go_wp2_with (first | (go_at_call 52; refine (l06Flows_any _ _ _ zs _ hr hn2).mono ?_; rintro e w' ⟨rfl, rfl⟩; have hb := Below.refl w.heap.size w; have hr1 := hr) | (go_at_call 54; refine (l06Value_any _ _ _ zs _ _ hr1 hn' HZ.out HQ.out).mono ?_; rintro e w2 ⟨rfl, rfl⟩) | (go_at_call 53; refine (l02Number_yes _ _ HF.out).mono ?_; rintro e w' ⟨rfl, rfl⟩))
  go_ret2
  exact hfin.out _ _ (by rw [HL.out]) hb
end Go.Proofs.Ytefoebaoejoamaa
