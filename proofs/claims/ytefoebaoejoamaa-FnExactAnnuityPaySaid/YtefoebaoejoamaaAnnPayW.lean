/-
  AnnuityPay: the walks.
-/
import Derived.Test.YtefoebaoejoamaaAnnPay
namespace Go.Proofs.Ytefoebaoejoamaa
open Fl
open Go.ChangeShapes Go.WideShapes Go.ChangeAt Go.RowKit
set_option linter.unusedVariables false

def payOk (z : Int) (bs : List Nat) (r : Nat) : Bool := laterOk bs r 0 && inB z 0 1000000
def payOf (z : Int) (bs : List Nat) (r : Nat) : Nat := wholeOf (fdiv (ofI z) (AnnuityValue_r0 bs r))
def AnnuityPay_r0 (z : Int) (bs : List Nat) (r : Nat) : Int := if payOk z bs r then (payOf z bs r : Int) else 0
def AnnuityPay_r1 (z : Int) (bs : List Nat) (r : Nat) : Bool := payOk z bs r
def PayIs (W : World) (z : Int) (bs : List Nat) (r : Nat) (E : Ending) (w' : World) : Prop := E = .returned (.tuple #[.int .i64 (AnnuityPay_r0 z bs r), .bool (AnnuityPay_r1 z bs r)]) ∧ Below W.heap.size W w'
theorem pay_no {W w' : World} {z : Int} {bs : List Nat} {r : Nat} (h : payOk z bs r = false) (hb : Below W.heap.size W w') : PayIs W z bs r (.returned (.tuple #[.int .i64 0, .bool false])) w' := by
  unfold PayIs AnnuityPay_r0 AnnuityPay_r1; rw [h]; exact ⟨rfl, hb⟩
theorem pay_yes {W w' : World} {z : Int} {bs : List Nat} {r : Nat} (h : payOk z bs r = true) (hb : Below W.heap.size W w') : PayIs W z bs r (.returned (.tuple #[.int .i64 (payOf z bs r : Int), .bool true])) w' := by
  unfold PayIs AnnuityPay_r0 AnnuityPay_r1; rw [h]; exact ⟨rfl, hb⟩
theorem amountIn_yes (n : Int) (w : World) (h : 0 ≤ n ∧ n ≤ 1000000000000) : Calls Try.prog 62 #[.int .i64 n] w fun e w' => e = .returned (.tuple #[.int .i64 n, .bool true]) ∧ w = w' := by
  have hb : inB n 0 1000000000000 = true := inB_iff.2 h
  go_enter Try.func62, Try.ntmps62
  go_wp2_with (go_at_call 74; refine (isAmount_any _ _).mono ?_; rintro e w' ⟨rfl, rfl⟩)
  go_ret2
  exact ⟨rfl, rfl⟩
theorem mathFloor_any (d : Nat) (w : World) (h : Bd 20 d) (hs : sn d = false) : Calls Try.prog 63 #[.float .f64 (wide d)] w fun e w' => e = .returned (.float .f64 (floorW d)) ∧ w = w' := by
  have h1 := floor_run h hs
  clear h hs
  go_enter Try.func63, Try.ntmps63
  go_wp2_with fail
  go_ret
  exact ⟨rfl, rfl⟩
theorem LaterValue_r1_eq (bs : List Nat) (r : Nat) : AnnuityValue_r1 bs r = laterOk bs r 0 := rfl
set_option maxHeartbeats 1600000 in
theorem impl_AnnuityPay (z : Int) (A : Option Addr) (n c : Nat) (bs : List Nat) (r : Nat) (w : World) (bz : -9223372036854775808 ≤ z ∧ z ≤ 9223372036854775807) (hr : Rd w w.heap.size 1 A n (flts bs)) (hn : n ≤ 1048576) (hz : F32s bs) (hq : r < 4294967296) :
    Calls Try.prog 41 #[.int .i64 z, .slice A n c, .float .f32 r] w (PayIs w z bs r) := by
  cases h1 : laterOk bs r 0
  · have hfin := Lib.hid (fun w' => pay_no (W := w) (w' := w') (z := z) (bs := bs) (r := r) (by simp [payOk, h1]))
    have e1 : AnnuityValue_r1 bs r = false := h1
    go_enter Try.func41, Try.ntmps41
    go_wp2_with (go_at_call 33; refine (impl_AnnuityValue _ _ _ bs _ _ hr hn hz hq).mono ?_; rintro e w1 ⟨rfl, hb⟩)
    go_ret2
    exact hfin.out _ hb
  have e1 : AnnuityValue_r1 bs r = true := h1
  cases h2 : inB z 0 1000000
  · have hfin := Lib.hid (fun w' => pay_no (W := w) (w' := w') (z := z) (bs := bs) (r := r) (by simp [payOk, h2]))
    go_enter Try.func41, Try.ntmps41
    go_wp2_with (first | (go_at_call 33; refine (impl_AnnuityValue _ _ _ bs _ _ hr hn hz hq).mono ?_; rintro e w1 ⟨rfl, hb⟩) | (go_at_call 59; refine (within_any _ _ _ _).mono ?_; rintro e w' ⟨rfl, rfl⟩))
    go_ret2
    exact hfin.out _ hb
  have hfin := Lib.hid (fun w' => pay_yes (W := w) (w' := w') (z := z) (bs := bs) (r := r) (by simp [payOk, h1, h2]))
  have b2 := inB_iff.1 h2
  obtain ⟨g, hf⟩ := annuity_ge1 hz hq h1
  obtain ⟨o1, bd, hs⟩ := fund_ok b2.1 b2.2 g hf
  have HR := Lib.hid hr
  have HZ := Lib.hid hz
  have HQ := Lib.hid hq
  have HBD := Lib.hid bd
  have HS := Lib.hid hs
  have hwb := whole_bd bd
  have q1 := fun (t : TypeId) (w : World) => run_fdiv (P := Try.prog) t o1 w
  have q2 := conv_ok (F_nan (bd.fin (by decide)))
  have q3 := fun (w : World) => run_convert_float_int (P := Try.prog) w 35 2 .f64 .i64 _ _ u_f64 Try.underlying2 (to_int64 bd)
  clear g hf o1 bd hs hr hz hq h1 b2
  go_enter Try.func41, Try.ntmps41
  go_wp2_with (first | (go_at_call 33; refine (impl_AnnuityValue _ _ _ bs _ _ HR.out hn HZ.out HQ.out).mono ?_; rintro e w1 ⟨rfl, hb⟩) | (go_at_call 59; refine (within_any _ _ _ _).mono ?_; rintro e w' ⟨rfl, rfl⟩) | (first | fail | (go_at_call 63; refine (mathFloor_any _ _ HBD.out HS.out).mono ?_; rintro e w2 ⟨rfl, rfl⟩)) | (first | fail | (go_at_call 62; refine (amountIn_yes _ _ (by omega)).mono ?_; rintro e w2 ⟨rfl, rfl⟩)))
  go_ret2
  exact hfin.out _ hb
set_option maxHeartbeats 1600000 in
theorem spec_AnnuityPay (z : Int) (A : Option Addr) (n c : Nat) (bs : List Nat) (r : Nat) (w : World) (bz : -9223372036854775808 ≤ z ∧ z ≤ 9223372036854775807) (hr : Rd w w.heap.size 1 A n (flts bs)) (hn : n ≤ 1048576) (hz : F32s bs) (hq : r < 4294967296) :
    Calls Try.prog 40 #[.int .i64 z, .slice A n c, .float .f32 r] w (PayIs w z bs r) := by
  cases h1 : laterOk bs r 0
  · have hfin := Lib.hid (fun w' => pay_no (W := w) (w' := w') (z := z) (bs := bs) (r := r) (by simp [payOk, h1]))
    have e1 : AnnuityValue_r1 bs r = false := h1
    go_enter Try.func40, Try.ntmps40
    go_wp2_with (go_at_call 32; refine (spec_AnnuityValue _ _ _ bs _ _ hr hn hz hq).mono ?_; rintro e w1 ⟨rfl, hb⟩)
    go_ret2
    exact hfin.out _ hb
  have e1 : AnnuityValue_r1 bs r = true := h1
  cases h2 : inB z 0 1000000
  · have hfin := Lib.hid (fun w' => pay_no (W := w) (w' := w') (z := z) (bs := bs) (r := r) (by simp [payOk, h2]))
    go_enter Try.func40, Try.ntmps40
    go_wp2_with (first | (go_at_call 32; refine (spec_AnnuityValue _ _ _ bs _ _ hr hn hz hq).mono ?_; rintro e w1 ⟨rfl, hb⟩) | (go_at_call 58; refine (l00In_any _ _ _ _).mono ?_; rintro e w' ⟨rfl, rfl⟩))
    go_ret2
    exact hfin.out _ hb
  have hfin := Lib.hid (fun w' => pay_yes (W := w) (w' := w') (z := z) (bs := bs) (r := r) (by simp [payOk, h1, h2]))
  have b2 := inB_iff.1 h2
  obtain ⟨g, hf⟩ := annuity_ge1 hz hq h1
  obtain ⟨o1, bd, hs⟩ := fund_ok b2.1 b2.2 g hf
  have HR := Lib.hid hr
  have HZ := Lib.hid hz
  have HQ := Lib.hid hq
  have HBD := Lib.hid bd
  have HS := Lib.hid hs
  have hwb := whole_bd bd
  have q1 := fun (t : TypeId) (w : World) => run_fdiv (P := Try.prog) t o1 w
  have q3 := fun (w : World) => run_convert_float_int (P := Try.prog) w 26 2 .f32 .i64 _ _ u_f32 Try.underlying2 (to_int32 bd hs)
  clear g hf o1 bd hs hr hz hq h1 b2
  go_enter Try.func40, Try.ntmps40
  go_wp2_with (first | (go_at_call 32; refine (spec_AnnuityValue _ _ _ bs _ _ HR.out hn HZ.out HQ.out).mono ?_; rintro e w1 ⟨rfl, hb⟩) | (go_at_call 58; refine (l00In_any _ _ _ _).mono ?_; rintro e w' ⟨rfl, rfl⟩) | (first | fail | (go_at_call 63; refine (mathFloor_any _ _ HBD.out HS.out).mono ?_; rintro e w2 ⟨rfl, rfl⟩)) | (first | fail | (go_at_call 62; refine (amountIn_yes _ _ (by omega)).mono ?_; rintro e w2 ⟨rfl, rfl⟩)))
  go_ret2
  exact hfin.out _ hb
end Go.Proofs.Ytefoebaoejoamaa
