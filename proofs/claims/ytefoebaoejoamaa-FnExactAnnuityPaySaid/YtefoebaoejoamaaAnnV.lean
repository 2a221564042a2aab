/-
  AnnuityValue: what the program's and the reference's function return.
-/
import Derived.Test.YtefoebaoejoamaaAnnu
namespace Go.Proofs.Ytefoebaoejoamaa
open Fl
open Go.ChangeShapes Go.WideShapes Go.ChangeAt Go.RowKit
set_option linter.unusedVariables false

def AnnuityValue_r0 (bs : List Nat) (r : Nat) : Nat := LaterValue_r0 bs r 0
def AnnuityValue_r1 (bs : List Nat) (r : Nat) : Bool := LaterValue_r1 bs r 0
theorem AnnuityValue_fin (bs : List Nat) (r : Nat) (hz : F32s bs) (hr : r < 4294967296) : nan32 (AnnuityValue_r0 bs r) = false := LaterValue_fin bs r 0 hz hr
theorem implAnn0 (A : Option Addr) (n c : Nat) (bs : List Nat) (r : Nat) (w : World) (hr : Rd w w.heap.size 1 A n (flts bs)) (hn : n ≤ 1048576) (hz : F32s bs) (hq : r < 4294967296) :
    Calls Try.prog 33 #[.slice A n c, .float .f32 r] w (LaterIs w bs r 0) := by
  go_enter Try.func33, Try.ntmps33
  go_wp2_with (go_at_call 35; refine (impl_LaterValue _ _ _ bs _ 0 _ hr hn hz hq (by omega)).mono ?_; rintro e w1 ⟨rfl, hb⟩)
  go_ret2
  exact ⟨rfl, hb⟩
set_option maxHeartbeats 1600000 in
theorem specAnn0 (A : Option Addr) (n c : Nat) (bs : List Nat) (r : Nat) (w : World) (hr : Rd w w.heap.size 1 A n (flts bs)) (hn : n ≤ 1048576) (hz : F32s bs) (hq : r < 4294967296) :
    Calls Try.prog 32 #[.slice A n c, .float .f32 r] w (LaterIs w bs r 0) := by
  have HL := Lib.hid hr.flen
  cases h : tabOk bs
  · have hfin := Lib.hid (later_no (W := w) (bs := bs) (r := r) (wt := 0) (by simp [laterOk, h]))
    go_enter Try.func32, Try.ntmps32
    go_wp2_with (go_at_call 46; refine (l06Table_any _ _ _ bs _ hr hn).mono ?_; rintro e w' ⟨rfl, rfl⟩)
    go_ret2
    exact hfin.out
  cases h2 : shareB r
  · have hfin := Lib.hid (later_no (W := w) (bs := bs) (r := r) (wt := 0) (by simp [laterOk, h2]))
    go_enter Try.func32, Try.ntmps32
    go_wp2_with (first | (go_at_call 46; refine (l06Table_any _ _ _ bs _ hr hn).mono ?_; rintro e w' ⟨rfl, rfl⟩) | (go_at_call 47; refine (l02Share_any _ _).mono ?_; rintro e w' ⟨rfl, rfl⟩))
    go_ret2
    exact hfin.out
  have hin := Lib.hid (tab_in1s hz h)
  have hl := (tab_len h).2
  have hn' : n ≤ 120 := by have := HL.out; omega
  have hok : laterOk bs r 0 = true := by simp [laterOk, h, h2, inB]
  have hfin := Lib.hid (fun v w' => later_yes (W := w) (w' := w') (v := v) hok)
  have HI1 := Lib.hid (share_in1 hq h2)
  have HBD := Lib.hid (aliveTo_in1 hin.out).bds
  clear hl hok hz hq
  go_enter Try.func32, Try.ntmps32
  go_wp2_with (first | (go_at_call 46; refine (l06Table_any _ _ _ bs _ hr hn).mono ?_; rintro e w' ⟨rfl, rfl⟩) | (go_at_call 47; refine (l02Share_any _ _).mono ?_; rintro e w' ⟨rfl, rfl⟩) | (go_at_call 49; refine (l06Alive_any _ _ _ bs _ hr hn' hin.out).mono ?_; rintro e w1 ⟨v, rfl, ho, hb⟩; obtain ⟨A1, c1, rfl, hr1⟩ := own_rd ho HL.out) | (go_at_call 57; refine (l06Worth_any _ _ _ (aliveTo bs bs.length) _ 0 0 _ hr1 hn' HBD.out (Nat.zero_le _) HI1.out (by omega)).mono ?_; rintro e w2 ⟨rfl, rfl⟩))
  go_ret2
  exact hfin.out _ _ rfl hb
def AnnIs (W : World) (bs : List Nat) (r : Nat) (E : Ending) (w' : World) : Prop := E = .returned (.tuple #[.float .f32 (AnnuityValue_r0 bs r), .bool (AnnuityValue_r1 bs r)]) ∧ Below W.heap.size W w'
theorem impl_AnnuityValue (A : Option Addr) (n c : Nat) (bs : List Nat) (r : Nat) (w : World) (hr : Rd w w.heap.size 1 A n (flts bs)) (hn : n ≤ 1048576) (hz : F32s bs) (hq : r < 4294967296) :
    Calls Try.prog 33 #[.slice A n c, .float .f32 r] w (AnnIs w bs r) := (implAnn0 A n c bs r w hr hn hz hq).mono fun _ _ h => h
theorem spec_AnnuityValue (A : Option Addr) (n c : Nat) (bs : List Nat) (r : Nat) (w : World) (hr : Rd w w.heap.size 1 A n (flts bs)) (hn : n ≤ 1048576) (hz : F32s bs) (hq : r < 4294967296) :
    Calls Try.prog 32 #[.slice A n c, .float .f32 r] w (AnnIs w bs r) := (specAnn0 A n c bs r w hr hn hz hq).mono fun _ _ h => h
end Go.Proofs.Ytefoebaoejoamaa
