/-
  JointValue: what the program's and the reference's function return.
-/
import Derived.Test.YtefoebaoejoamaaAnnu
namespace Go.Proofs.Ytefoebaoejoamaa
open Fl
open Go.ChangeShapes Go.WideShapes Go.ChangeAt Go.RowKit
set_option linter.unusedVariables false

def jointOf (x y : Nat) (both : Bool) : Nat := if both then fmul x y else fsub (fadd x y) (fmul x y)
def jointAt (xs ys : List Nat) (both : Bool) (k : Nat) : Nat := jointOf (xs[k]?.getD 0) (ys[k]?.getD 0) both
def jointTo (xs ys : List Nat) (both : Bool) (k : Nat) : List Nat := (List.range k).map (jointAt xs ys both)
theorem jointTo_length (xs ys : List Nat) (both : Bool) (k : Nat) : (jointTo xs ys both k).length = k := by simp [jointTo]
theorem jointTo_succ (xs ys : List Nat) (both : Bool) (k : Nat) : jointTo xs ys both (k + 1) = jointTo xs ys both k ++ [jointAt xs ys both k] := by simp [jointTo, List.range_succ]
theorem in1_getD {bs : List Nat} (h : In1s bs) (k : Nat) : In1 (bs[k]?.getD 0) := by
  by_cases hk : k < bs.length
  · exact h.at hk
  · rw [List.getElem?_eq_none (by omega)]; exact In1_zero
theorem joint_ok {x y : Nat} (hx : In1 x) (hy : In1 y) : okM x y ∧ okA x y ∧ okS (fadd x y) (fmul x y) ∧ ∀ both, Bd 2 (jointOf x y both) := by
  obtain ⟨o1, i1⟩ := mul_in1 hx hy
  obtain ⟨o2, b2⟩ := fadd_bd (M := 0) hx.bd hy.bd (Nat.le_refl _) (Nat.le_refl _) (by decide)
  obtain ⟨o3, b3⟩ := fsub_bd (M := 1) b2 i1.bd (by decide) (by decide) (by decide)
  refine ⟨o1, o2, o3, fun both => ?_⟩
  unfold jointOf
  cases both
  · exact b3
  · exact i1.bd.mono (by decide)
theorem jointTo_bds {xs ys : List Nat} (hx : In1s xs) (hy : In1s ys) (both : Bool) (k : Nat) : Bds 2 (jointTo xs ys both k) := fun b hb => by
  simp only [jointTo, List.mem_map, List.mem_range] at hb
  obtain ⟨j, hj, rfl⟩ := hb
  exact (joint_ok (in1_getD hx j) (in1_getD hy j)).2.2.2 both
def jointOk (b1 b2 : List Nat) (r : Nat) : Bool := tabOk b1 && (tabOk b2 && shareB r)
def JointValue_r0 (b1 b2 : List Nat) (r : Nat) (both : Bool) : Nat := if jointOk b1 b2 r then worthOf (jointTo (aliveTo b1 b1.length) (aliveTo b2 b2.length) both (max b1.length b2.length)) r 0 else 0
def JointValue_r1 (b1 b2 : List Nat) (r : Nat) (both : Bool) : Bool := jointOk b1 b2 r
def JointIs (W : World) (b1 b2 : List Nat) (r : Nat) (both : Bool) (E : Ending) (w' : World) : Prop := E = .returned (.tuple #[.float .f32 (JointValue_r0 b1 b2 r both), .bool (JointValue_r1 b1 b2 r both)]) ∧ Below W.heap.size W w'
theorem joint_no {W : World} {b1 b2 : List Nat} {r : Nat} {both : Bool} (h : jointOk b1 b2 r = false) : JointIs W b1 b2 r both (.returned (.tuple #[.float .f32 0, .bool false])) W := by
  unfold JointIs JointValue_r0 JointValue_r1; rw [h]; exact ⟨rfl, Below.refl _ _⟩
theorem joint_yes {W w' : World} {b1 b2 : List Nat} {r v : Nat} {both : Bool} (h : jointOk b1 b2 r = true) (hv : v = worthOf (jointTo (aliveTo b1 b1.length) (aliveTo b2 b2.length) both (max b1.length b2.length)) r 0) (hb : Below W.heap.size W w') :
    JointIs W b1 b2 r both (.returned (.tuple #[.float .f32 v, .bool true])) w' := by
  unfold JointIs JointValue_r0 JointValue_r1; rw [h, hv]; exact ⟨rfl, hb⟩
theorem joint_parts {b1 b2 : List Nat} {r : Nat} (h : jointOk b1 b2 r = true) : tabOk b1 = true ∧ tabOk b2 = true ∧ shareB r = true := by simpa [jointOk] using h
theorem JointValue_fin (b1 b2 : List Nat) (r : Nat) (both : Bool) (h1 : F32s b1) (h2 : F32s b2) (hr : r < 4294967296) : nan32 (JointValue_r0 b1 b2 r both) = false := by
  unfold JointValue_r0
  cases h : jointOk b1 b2 r
  · rw [if_neg (by decide)]; exact F_nan F_zero
  · rw [if_pos rfl]
    obtain ⟨p, q, s⟩ := joint_parts h
    refine F_nan (worthOf_fin (B := 2) (jointTo_bds (aliveTo_in1 (tab_in1s h1 p)) (aliveTo_in1 (tab_in1s h2 q)) both _) (share_in1 hr s) (by decide) ?_)
    rw [jointTo_length]
    have := (tab_len p).2
    have := (tab_len q).2
    omega
theorem aliveTo_none {bs : List Nat} {n k : Nat} (h : n ≤ k) : (aliveTo bs n)[k]?.getD 0 = 0 := by
  rw [List.getElem?_eq_none (by rw [aliveTo_length]; exact h)]; rfl
set_option maxHeartbeats 6400000 in
set_option maxRecDepth 100000 in
theorem impl_joint_a (A B : Option Addr) (n m c d : Nat) (bs cs : List Nat) (r : Nat) (both : Bool) (w : World) (hr : Rd w w.heap.size 1 A n (flts bs)) (hs : Rd w w.heap.size 1 B m (flts cs)) (h : jointOk bs cs r = true) (hz : F32s bs) (hy : F32s cs) (hq : r < 4294967296) (hmx : n < m) :
    Calls Try.prog 39 #[.slice A n c, .slice B m d, .float .f32 r, .bool both] w (JointIs w bs cs r both) := by
  have HL := Lib.hid hr.flen
  have HM := Lib.hid hs.flen
  obtain ⟨h1, h2, h3⟩ := joint_parts h
  have hin := Lib.hid (tab_in1s hz h1)
  have him := Lib.hid (tab_in1s hy h2)
  have hl := (tab_len h1).2
  have hl2 := (tab_len h2).2
  have hn' : n ≤ 120 := by have := HL.out; omega
  have hm' : m ≤ 120 := by have := HM.out; omega
  have hn : n ≤ 1048576 := by omega
  have hm : m ≤ 1048576 := by omega
  have hmax : max n m = m := by omega
  have hfin := Lib.hid (fun v w' => joint_yes (W := w) (w' := w') (v := v) (both := both) h)
  have HI1 := Lib.hid (share_in1 hq h3)
  have HBD := Lib.hid (jointTo_bds (aliveTo_in1 hin.out) (aliveTo_in1 him.out) both)
  have HF := Lib.hid (worthOf_fin (wt := 0) (HBD.out m) HI1.out (by decide) (by rw [jointTo_length]; omega))
  have HX := Lib.hid (in1_getD (aliveTo_in1 hin.out))
  have HY := Lib.hid (in1_getD (aliveTo_in1 him.out))
  rw [HL.out] at HX HBD HF
  rw [HM.out] at HY HBD HF
  have hfin2 := hfin.out
  rw [HL.out, HM.out, hmax] at hfin2
  have HFI := Lib.hid hfin2
  have hrk := hr
  have hsk := hs
  clear hfin hfin2 hl hl2 h hz hy hq hmax
  go_enter Try.func39, Try.ntmps39
  go_wp2_with (first | (go_at_call_of 17 (Value.slice A n c); refine (isLife_any _ _ _ bs _ hrk hn).mono ?_; rintro e w' ⟨rfl, rfl⟩) | (go_at_call_of 17 (Value.slice B m d); refine (isLife_any _ _ _ cs _ hsk hm).mono ?_; rintro e w' ⟨rfl, rfl⟩) | (go_at_call 48; refine (isYield_any _ _).mono ?_; rintro e w' ⟨rfl, rfl⟩) | (go_at_call_of 50 (Value.slice A n c); refine (alive_any _ _ _ bs _ hr hn' hin.out).mono ?_; rintro e w1 ⟨v, rfl, ho, hb⟩; rw [HL.out] at ho; obtain ⟨A1, c1, rfl, hr1⟩ := own_rd ho rfl; replace hs := hs.on hb) | (go_at_call_of 50 (Value.slice B m d); refine (alive_any _ _ _ cs _ hs hm' him.out).mono ?_; rintro e w2 ⟨v2, rfl, ho2, hb2⟩; rw [HM.out] at ho2; obtain ⟨A2, c2, rfl, hr2⟩ := own_rd ho2 rfl; replace hr1 := hr1.on hb2))
  have HB := Lib.hid (below_step hb hb2)
  obtain ⟨xs, hxs⟩ : ∃ xs, xs = aliveTo bs n := ⟨_, rfl⟩
  obtain ⟨ys, hys⟩ : ∃ ys, ys = aliveTo cs m := ⟨_, rfl⟩
  rw [← hxs] at hr1 HX HBD HF HFI
  rw [← hys] at hr2 HY HBD HF HFI
  have HXS := Lib.hid hxs
  have HYS := Lib.hid hys
  clear hb hb2 ho ho2 hr hs hrk hsk hxs hys h1 h2 h3
  have hB2 : Below w2.heap.size w2 w2 := Below.refl _ _
  go_loopw [12, 13, 14, 15, 16, 40] (fun v _ _ _ _ i wr => ∃ k : Nat, k ≤ m ∧ i = .int .i64 k ∧ wr.ownsRow w2.heap.size 26 1 v k (flts (jointTo xs ys both k)) ∧ Below w2.heap.size w2 wr) (fun v _ _ _ _ i _ => m - (intOf i).toNat)
  case atStart => exact ⟨0, Nat.zero_le _, rfl, own_base (own_empty _ _) hB2.size, hB2.alloc hB2.size _⟩
  case round =>
    obtain ⟨k, hk, rfl, hown, hbw⟩ := hrel
    clear hB2
    by_cases hlt : k < m
    · have hk4 : k + 1 ≤ 4194304 := by omega
      by_cases hkn : k < n
      · obtain ⟨ad, rfl, hc⟩ := (hr1.below hbw).flt hkn
        have hx1 := HX.out k
        obtain ⟨x, hxe⟩ : ∃ x, x = xs[k]?.getD 0 := ⟨_, rfl⟩
        rw [← hxe] at hc hx1
        have HXE := Lib.hid hxe
        clear hxe
        by_cases hkm : k < m
        · obtain ⟨ae, rfl, hd⟩ := (hr2.below hbw).flt hkm
          have hy1 := HY.out k
          obtain ⟨y, hye⟩ : ∃ y, y = ys[k]?.getD 0 := ⟨_, rfl⟩
          rw [← hye] at hd hy1
          have HYE := Lib.hid hye
          clear hye hr1 hr2
          obtain ⟨o1, o2, o3, _⟩ := joint_ok hx1 hy1
          have q1 := fun (t : TypeId) (w : World) => run_fmul (P := Try.prog) t o1 w
          have q2 := fun (t : TypeId) (w : World) => run_fadd (P := Try.prog) t o2 w
          have q3 := fun (t : TypeId) (w : World) => run_fsub (P := Try.prog) t o3 w
          clear o1 o2 o3 hx1 hy1
          cases both
          · have hv := Lib.hid (show jointAt xs ys false k = fsub (fadd (x) (y)) (fmul (x) (y)) by unfold jointAt jointOf; rw [← HXE.out, ← HYE.out]; rfl)
            go_wp2_with (at_builtin; refine append_flt rfl (.tmp 69) (.tmp 71) rfl w2 _ k (jointTo xs ys false k) rfl (hown.alloc _) (hbw.alloc hbw.size _) _ _ (fsub (fadd (x) (y)) (fmul (x) (y))) rfl (cell_new _ _ _) hk4 ?_; intro v' w' ho3 hb3)
            go_roundw
            case rel => exact ⟨k + 1, by omega, by go_num, by rw [jointTo_succ, hv.out]; exact ho3, hb3⟩
            case measure => simp [intOf]; omega
          · have hv := Lib.hid (show jointAt xs ys true k = fmul (x) (y) by unfold jointAt jointOf; rw [← HXE.out, ← HYE.out]; rfl)
            go_wp2_with (at_builtin; refine append_flt rfl (.tmp 69) (.tmp 71) rfl w2 _ k (jointTo xs ys true k) rfl (hown.alloc _) (hbw.alloc hbw.size _) _ _ (fmul (x) (y)) rfl (cell_new _ _ _) hk4 ?_; intro v' w' ho3 hb3)
            go_roundw
            case rel => exact ⟨k + 1, by omega, by go_num, by rw [jointTo_succ, hv.out]; exact ho3, hb3⟩
            case measure => simp [intOf]; omega
        · exfalso; omega
      · have hx1 := In1_zero
        have HXE := Lib.hid (show 0 = xs[k]?.getD 0 by rw [HXS.out]; exact (aliveTo_none (by omega)).symm)
        by_cases hkm : k < m
        · obtain ⟨ae, rfl, hd⟩ := (hr2.below hbw).flt hkm
          have hy1 := HY.out k
          obtain ⟨y, hye⟩ : ∃ y, y = ys[k]?.getD 0 := ⟨_, rfl⟩
          rw [← hye] at hd hy1
          have HYE := Lib.hid hye
          clear hye hr1 hr2
          obtain ⟨o1, o2, o3, _⟩ := joint_ok hx1 hy1
          have q1 := fun (t : TypeId) (w : World) => run_fmul (P := Try.prog) t o1 w
          have q2 := fun (t : TypeId) (w : World) => run_fadd (P := Try.prog) t o2 w
          have q3 := fun (t : TypeId) (w : World) => run_fsub (P := Try.prog) t o3 w
          clear o1 o2 o3 hx1 hy1
          cases both
          · have hv := Lib.hid (show jointAt xs ys false k = fsub (fadd (0) (y)) (fmul (0) (y)) by unfold jointAt jointOf; rw [← HXE.out, ← HYE.out]; rfl)
            go_wp2_with (at_builtin; refine append_flt rfl (.tmp 69) (.tmp 71) rfl w2 _ k (jointTo xs ys false k) rfl (hown.alloc _) (hbw.alloc hbw.size _) _ _ (fsub (fadd (0) (y)) (fmul (0) (y))) rfl (cell_new _ _ _) hk4 ?_; intro v' w' ho3 hb3)
            go_roundw
            case rel => exact ⟨k + 1, by omega, by go_num, by rw [jointTo_succ, hv.out]; exact ho3, hb3⟩
            case measure => simp [intOf]; omega
          · have hv := Lib.hid (show jointAt xs ys true k = fmul (0) (y) by unfold jointAt jointOf; rw [← HXE.out, ← HYE.out]; rfl)
            go_wp2_with (at_builtin; refine append_flt rfl (.tmp 69) (.tmp 71) rfl w2 _ k (jointTo xs ys true k) rfl (hown.alloc _) (hbw.alloc hbw.size _) _ _ (fmul (0) (y)) rfl (cell_new _ _ _) hk4 ?_; intro v' w' ho3 hb3)
            go_roundw
            case rel => exact ⟨k + 1, by omega, by go_num, by rw [jointTo_succ, hv.out]; exact ho3, hb3⟩
            case measure => simp [intOf]; omega
        · exfalso; omega
    · obtain rfl : m = k := by omega
      obtain ⟨A3, c3, rfl, hr3⟩ := own_rd hown rfl
      have HB3 := Lib.hid (below_step HB.out hbw)
      clear hbw hown hr1 hr2
      go_wp2_with (first | (go_at_call 60; refine (present_any _ _ _ (jointTo xs ys both m) _ 2 0 _ hr3 (by omega) (HBD.out _) (Nat.le_refl _) HI1.out (by omega)).mono ?_; rintro e w4 ⟨rfl, rfl⟩) | (go_at_call 51; refine (finite_yes _ _ HF.out).mono ?_; rintro e w' ⟨rfl, rfl⟩))
      go_ret2
      exact HFI.out _ _ rfl HB3.out
set_option maxHeartbeats 6400000 in
set_option maxRecDepth 100000 in
theorem impl_joint_b (A B : Option Addr) (n m c d : Nat) (bs cs : List Nat) (r : Nat) (both : Bool) (w : World) (hr : Rd w w.heap.size 1 A n (flts bs)) (hs : Rd w w.heap.size 1 B m (flts cs)) (h : jointOk bs cs r = true) (hz : F32s bs) (hy : F32s cs) (hq : r < 4294967296) (hmx : m ≤ n) :
    Calls Try.prog 39 #[.slice A n c, .slice B m d, .float .f32 r, .bool both] w (JointIs w bs cs r both) := by
  have HL := Lib.hid hr.flen
  have HM := Lib.hid hs.flen
  obtain ⟨h1, h2, h3⟩ := joint_parts h
  have hin := Lib.hid (tab_in1s hz h1)
  have him := Lib.hid (tab_in1s hy h2)
  have hl := (tab_len h1).2
  have hl2 := (tab_len h2).2
  have hn' : n ≤ 120 := by have := HL.out; omega
  have hm' : m ≤ 120 := by have := HM.out; omega
  have hn : n ≤ 1048576 := by omega
  have hm : m ≤ 1048576 := by omega
  have hmax : max n m = n := by omega
  have hfin := Lib.hid (fun v w' => joint_yes (W := w) (w' := w') (v := v) (both := both) h)
  have HI1 := Lib.hid (share_in1 hq h3)
  have HBD := Lib.hid (jointTo_bds (aliveTo_in1 hin.out) (aliveTo_in1 him.out) both)
  have HF := Lib.hid (worthOf_fin (wt := 0) (HBD.out n) HI1.out (by decide) (by rw [jointTo_length]; omega))
  have HX := Lib.hid (in1_getD (aliveTo_in1 hin.out))
  have HY := Lib.hid (in1_getD (aliveTo_in1 him.out))
  rw [HL.out] at HX HBD HF
  rw [HM.out] at HY HBD HF
  have hfin2 := hfin.out
  rw [HL.out, HM.out, hmax] at hfin2
  have HFI := Lib.hid hfin2
  have hrk := hr
  have hsk := hs
  clear hfin hfin2 hl hl2 h hz hy hq hmax
  go_enter Try.func39, Try.ntmps39
  go_wp2_with (first | (go_at_call_of 17 (Value.slice A n c); refine (isLife_any _ _ _ bs _ hrk hn).mono ?_; rintro e w' ⟨rfl, rfl⟩) | (go_at_call_of 17 (Value.slice B m d); refine (isLife_any _ _ _ cs _ hsk hm).mono ?_; rintro e w' ⟨rfl, rfl⟩) | (go_at_call 48; refine (isYield_any _ _).mono ?_; rintro e w' ⟨rfl, rfl⟩) | (go_at_call_of 50 (Value.slice A n c); refine (alive_any _ _ _ bs _ hr hn' hin.out).mono ?_; rintro e w1 ⟨v, rfl, ho, hb⟩; rw [HL.out] at ho; obtain ⟨A1, c1, rfl, hr1⟩ := own_rd ho rfl; replace hs := hs.on hb) | (go_at_call_of 50 (Value.slice B m d); refine (alive_any _ _ _ cs _ hs hm' him.out).mono ?_; rintro e w2 ⟨v2, rfl, ho2, hb2⟩; rw [HM.out] at ho2; obtain ⟨A2, c2, rfl, hr2⟩ := own_rd ho2 rfl; replace hr1 := hr1.on hb2))
  have HB := Lib.hid (below_step hb hb2)
  obtain ⟨xs, hxs⟩ : ∃ xs, xs = aliveTo bs n := ⟨_, rfl⟩
  obtain ⟨ys, hys⟩ : ∃ ys, ys = aliveTo cs m := ⟨_, rfl⟩
  rw [← hxs] at hr1 HX HBD HF HFI
  rw [← hys] at hr2 HY HBD HF HFI
  have HXS := Lib.hid hxs
  have HYS := Lib.hid hys
  clear hb hb2 ho ho2 hr hs hrk hsk hxs hys h1 h2 h3
  have hB2 : Below w2.heap.size w2 w2 := Below.refl _ _
  go_loopw [12, 13, 14, 15, 16, 40] (fun v _ _ _ _ i wr => ∃ k : Nat, k ≤ n ∧ i = .int .i64 k ∧ wr.ownsRow w2.heap.size 26 1 v k (flts (jointTo xs ys both k)) ∧ Below w2.heap.size w2 wr) (fun v _ _ _ _ i _ => n - (intOf i).toNat)
  case atStart => exact ⟨0, Nat.zero_le _, rfl, own_base (own_empty _ _) hB2.size, hB2.alloc hB2.size _⟩
  case round =>
    obtain ⟨k, hk, rfl, hown, hbw⟩ := hrel
    clear hB2
    by_cases hlt : k < n
    · have hk4 : k + 1 ≤ 4194304 := by omega
      by_cases hkn : k < n
      · obtain ⟨ad, rfl, hc⟩ := (hr1.below hbw).flt hkn
        have hx1 := HX.out k
        obtain ⟨x, hxe⟩ : ∃ x, x = xs[k]?.getD 0 := ⟨_, rfl⟩
        rw [← hxe] at hc hx1
        have HXE := Lib.hid hxe
        clear hxe
        by_cases hkm : k < m
        · obtain ⟨ae, rfl, hd⟩ := (hr2.below hbw).flt hkm
          have hy1 := HY.out k
          obtain ⟨y, hye⟩ : ∃ y, y = ys[k]?.getD 0 := ⟨_, rfl⟩
          rw [← hye] at hd hy1
          have HYE := Lib.hid hye
          clear hye hr1 hr2
          obtain ⟨o1, o2, o3, _⟩ := joint_ok hx1 hy1
          have q1 := fun (t : TypeId) (w : World) => run_fmul (P := Try.prog) t o1 w
          have q2 := fun (t : TypeId) (w : World) => run_fadd (P := Try.prog) t o2 w
          have q3 := fun (t : TypeId) (w : World) => run_fsub (P := Try.prog) t o3 w
          clear o1 o2 o3 hx1 hy1
          cases both
          · have hv := Lib.hid (show jointAt xs ys false k = fsub (fadd (x) (y)) (fmul (x) (y)) by unfold jointAt jointOf; rw [← HXE.out, ← HYE.out]; rfl)
            go_wp2_with (at_builtin; refine append_flt rfl (.tmp 69) (.tmp 71) rfl w2 _ k (jointTo xs ys false k) rfl (hown.alloc _) (hbw.alloc hbw.size _) _ _ (fsub (fadd (x) (y)) (fmul (x) (y))) rfl (cell_new _ _ _) hk4 ?_; intro v' w' ho3 hb3)
            go_roundw
            case rel => exact ⟨k + 1, by omega, by go_num, by rw [jointTo_succ, hv.out]; exact ho3, hb3⟩
            case measure => simp [intOf]; omega
          · have hv := Lib.hid (show jointAt xs ys true k = fmul (x) (y) by unfold jointAt jointOf; rw [← HXE.out, ← HYE.out]; rfl)
            go_wp2_with (at_builtin; refine append_flt rfl (.tmp 69) (.tmp 71) rfl w2 _ k (jointTo xs ys true k) rfl (hown.alloc _) (hbw.alloc hbw.size _) _ _ (fmul (x) (y)) rfl (cell_new _ _ _) hk4 ?_; intro v' w' ho3 hb3)
            go_roundw
            case rel => exact ⟨k + 1, by omega, by go_num, by rw [jointTo_succ, hv.out]; exact ho3, hb3⟩
            case measure => simp [intOf]; omega
        · have hy1 := In1_zero
          have HYE := Lib.hid (show 0 = ys[k]?.getD 0 by rw [HYS.out]; exact (aliveTo_none (by omega)).symm)
          clear hr1 hr2
          obtain ⟨o1, o2, o3, _⟩ := joint_ok hx1 hy1
          have q1 := fun (t : TypeId) (w : World) => run_fmul (P := Try.prog) t o1 w
          have q2 := fun (t : TypeId) (w : World) => run_fadd (P := Try.prog) t o2 w
          have q3 := fun (t : TypeId) (w : World) => run_fsub (P := Try.prog) t o3 w
          clear o1 o2 o3 hx1 hy1
          cases both
          · have hv := Lib.hid (show jointAt xs ys false k = fsub (fadd (x) (0)) (fmul (x) (0)) by unfold jointAt jointOf; rw [← HXE.out, ← HYE.out]; rfl)
            go_wp2_with (at_builtin; refine append_flt rfl (.tmp 69) (.tmp 71) rfl w2 _ k (jointTo xs ys false k) rfl (hown.alloc _) (hbw.alloc hbw.size _) _ _ (fsub (fadd (x) (0)) (fmul (x) (0))) rfl (cell_new _ _ _) hk4 ?_; intro v' w' ho3 hb3)
            go_roundw
            case rel => exact ⟨k + 1, by omega, by go_num, by rw [jointTo_succ, hv.out]; exact ho3, hb3⟩
            case measure => simp [intOf]; omega
          · have hv := Lib.hid (show jointAt xs ys true k = fmul (x) (0) by unfold jointAt jointOf; rw [← HXE.out, ← HYE.out]; rfl)
            go_wp2_with (at_builtin; refine append_flt rfl (.tmp 69) (.tmp 71) rfl w2 _ k (jointTo xs ys true k) rfl (hown.alloc _) (hbw.alloc hbw.size _) _ _ (fmul (x) (0)) rfl (cell_new _ _ _) hk4 ?_; intro v' w' ho3 hb3)
            go_roundw
            case rel => exact ⟨k + 1, by omega, by go_num, by rw [jointTo_succ, hv.out]; exact ho3, hb3⟩
            case measure => simp [intOf]; omega
      · exfalso; omega
    · obtain rfl : n = k := by omega
      obtain ⟨A3, c3, rfl, hr3⟩ := own_rd hown rfl
      have HB3 := Lib.hid (below_step HB.out hbw)
      clear hbw hown hr1 hr2
      go_wp2_with (first | (go_at_call 60; refine (present_any _ _ _ (jointTo xs ys both n) _ 2 0 _ hr3 (by omega) (HBD.out _) (Nat.le_refl _) HI1.out (by omega)).mono ?_; rintro e w4 ⟨rfl, rfl⟩) | (go_at_call 51; refine (finite_yes _ _ HF.out).mono ?_; rintro e w' ⟨rfl, rfl⟩))
      go_ret2
      exact HFI.out _ _ rfl HB3.out
set_option maxHeartbeats 6400000 in
set_option maxRecDepth 100000 in
theorem spec_joint_a (A B : Option Addr) (n m c d : Nat) (bs cs : List Nat) (r : Nat) (both : Bool) (w : World) (hr : Rd w w.heap.size 1 A n (flts bs)) (hs : Rd w w.heap.size 1 B m (flts cs)) (h : jointOk bs cs r = true) (hz : F32s bs) (hy : F32s cs) (hq : r < 4294967296) (hmx : n < m) :
    Calls Try.prog 38 #[.slice A n c, .slice B m d, .float .f32 r, .bool both] w (JointIs w bs cs r both) := by
  have HL := Lib.hid hr.flen
  have HM := Lib.hid hs.flen
  obtain ⟨h1, h2, h3⟩ := joint_parts h
  have hin := Lib.hid (tab_in1s hz h1)
  have him := Lib.hid (tab_in1s hy h2)
  have hl := (tab_len h1).2
  have hl2 := (tab_len h2).2
  have hn' : n ≤ 120 := by have := HL.out; omega
  have hm' : m ≤ 120 := by have := HM.out; omega
  have hn : n ≤ 1048576 := by omega
  have hm : m ≤ 1048576 := by omega
  have hmax : max n m = m := by omega
  have hfin := Lib.hid (fun v w' => joint_yes (W := w) (w' := w') (v := v) (both := both) h)
  have HI1 := Lib.hid (share_in1 hq h3)
  have HBD := Lib.hid (jointTo_bds (aliveTo_in1 hin.out) (aliveTo_in1 him.out) both)
  have HF := Lib.hid (worthOf_fin (wt := 0) (HBD.out m) HI1.out (by decide) (by rw [jointTo_length]; omega))
  have HX := Lib.hid (in1_getD (aliveTo_in1 hin.out))
  have HY := Lib.hid (in1_getD (aliveTo_in1 him.out))
  rw [HL.out] at HX HBD HF
  rw [HM.out] at HY HBD HF
  have hfin2 := hfin.out
  rw [HL.out, HM.out, hmax] at hfin2
  have HFI := Lib.hid hfin2
  have hrk := hr
  have hsk := hs
  clear hfin hfin2 hl hl2 h hz hy hq hmax
  go_enter Try.func38, Try.ntmps38
  go_wp2_with (first | (go_at_call_of 46 (Value.slice A n c); refine (l06Table_any _ _ _ bs _ hrk hn).mono ?_; rintro e w' ⟨rfl, rfl⟩) | (go_at_call_of 46 (Value.slice B m d); refine (l06Table_any _ _ _ cs _ hsk hm).mono ?_; rintro e w' ⟨rfl, rfl⟩) | (go_at_call 47; refine (l02Share_any _ _).mono ?_; rintro e w' ⟨rfl, rfl⟩) | (go_at_call_of 49 (Value.slice A n c); refine (l06Alive_any _ _ _ bs _ hr hn' hin.out).mono ?_; rintro e w1 ⟨v, rfl, ho, hb⟩; rw [HL.out] at ho; obtain ⟨A1, c1, rfl, hr1⟩ := own_rd ho rfl; replace hs := hs.on hb) | (go_at_call_of 49 (Value.slice B m d); refine (l06Alive_any _ _ _ cs _ hs hm' him.out).mono ?_; rintro e w2 ⟨v2, rfl, ho2, hb2⟩; rw [HM.out] at ho2; obtain ⟨A2, c2, rfl, hr2⟩ := own_rd ho2 rfl; replace hr1 := hr1.on hb2))
  have HB := Lib.hid (below_step hb hb2)
  obtain ⟨xs, hxs⟩ : ∃ xs, xs = aliveTo bs n := ⟨_, rfl⟩
  obtain ⟨ys, hys⟩ : ∃ ys, ys = aliveTo cs m := ⟨_, rfl⟩
  rw [← hxs] at hr1 HX HBD HF HFI
  rw [← hys] at hr2 HY HBD HF HFI
  have HXS := Lib.hid hxs
  have HYS := Lib.hid hys
  clear hb hb2 ho ho2 hr hs hrk hsk hxs hys h1 h2 h3
  have hB2 : Below w2.heap.size w2 w2 := Below.refl _ _
  go_loopw [12, 13, 14, 15, 16] (fun v i _ _ _ wr => ∃ k : Nat, k ≤ m ∧ i = .int .i64 k ∧ wr.ownsRow w2.heap.size 26 1 v k (flts (jointTo xs ys both k)) ∧ Below w2.heap.size w2 wr) (fun v i _ _ _ _ => m - (intOf i).toNat)
  case atStart => exact ⟨0, Nat.zero_le _, rfl, own_base (own_empty _ _) hB2.size, hB2.alloc hB2.size _⟩
  case round =>
    obtain ⟨k, hk, rfl, hown, hbw⟩ := hrel
    clear hB2
    by_cases hlt : k < m
    · have hk4 : k + 1 ≤ 4194304 := by omega
      by_cases hkn : k < n
      · obtain ⟨ad, rfl, hc⟩ := (hr1.below hbw).flt hkn
        have hx1 := HX.out k
        obtain ⟨x, hxe⟩ : ∃ x, x = xs[k]?.getD 0 := ⟨_, rfl⟩
        rw [← hxe] at hc hx1
        have HXE := Lib.hid hxe
        clear hxe
        by_cases hkm : k < m
        · obtain ⟨ae, rfl, hd⟩ := (hr2.below hbw).flt hkm
          have hy1 := HY.out k
          obtain ⟨y, hye⟩ : ∃ y, y = ys[k]?.getD 0 := ⟨_, rfl⟩
          rw [← hye] at hd hy1
          have HYE := Lib.hid hye
          clear hye hr1 hr2
          obtain ⟨o1, o2, o3, _⟩ := joint_ok hx1 hy1
          have q1 := fun (t : TypeId) (w : World) => run_fmul (P := Try.prog) t o1 w
          have q2 := fun (t : TypeId) (w : World) => run_fadd (P := Try.prog) t o2 w
          have q3 := fun (t : TypeId) (w : World) => run_fsub (P := Try.prog) t o3 w
          clear o1 o2 o3 hx1 hy1
          cases both
          · have hv := Lib.hid (show jointAt xs ys false k = fsub (fadd (x) (y)) (fmul (x) (y)) by unfold jointAt jointOf; rw [← HXE.out, ← HYE.out]; rfl)
            go_wp2_with (at_builtin; refine append_flt rfl (.tmp 71) (.tmp 77) rfl w2 _ k (jointTo xs ys false k) rfl (hown.alloc _) (hbw.alloc hbw.size _) _ _ (fsub (fadd (x) (y)) (fmul (x) (y))) rfl (cell_new _ _ _) hk4 ?_; intro v' w' ho3 hb3)
            go_roundw
            case rel => exact ⟨k + 1, by omega, by go_num, by rw [jointTo_succ, hv.out]; exact ho3, hb3⟩
            case measure => simp [intOf]; omega
          · have hv := Lib.hid (show jointAt xs ys true k = fmul (x) (y) by unfold jointAt jointOf; rw [← HXE.out, ← HYE.out]; rfl)
            go_wp2_with (at_builtin; refine append_flt rfl (.tmp 67) (.tmp 69) rfl w2 _ k (jointTo xs ys true k) rfl (hown.alloc _) (hbw.alloc hbw.size _) _ _ (fmul (x) (y)) rfl (cell_new _ _ _) hk4 ?_; intro v' w' ho3 hb3)
            go_roundw
            case rel => exact ⟨k + 1, by omega, by go_num, by rw [jointTo_succ, hv.out]; exact ho3, hb3⟩
            case measure => simp [intOf]; omega
        · exfalso; omega
      · have hx1 := In1_zero
        have HXE := Lib.hid (show 0 = xs[k]?.getD 0 by rw [HXS.out]; exact (aliveTo_none (by omega)).symm)
        by_cases hkm : k < m
        · obtain ⟨ae, rfl, hd⟩ := (hr2.below hbw).flt hkm
          have hy1 := HY.out k
          obtain ⟨y, hye⟩ : ∃ y, y = ys[k]?.getD 0 := ⟨_, rfl⟩
          rw [← hye] at hd hy1
          have HYE := Lib.hid hye
          clear hye hr1 hr2
          obtain ⟨o1, o2, o3, _⟩ := joint_ok hx1 hy1
          have q1 := fun (t : TypeId) (w : World) => run_fmul (P := Try.prog) t o1 w
          have q2 := fun (t : TypeId) (w : World) => run_fadd (P := Try.prog) t o2 w
          have q3 := fun (t : TypeId) (w : World) => run_fsub (P := Try.prog) t o3 w
          clear o1 o2 o3 hx1 hy1
          cases both
          · have hv := Lib.hid (show jointAt xs ys false k = fsub (fadd (0) (y)) (fmul (0) (y)) by unfold jointAt jointOf; rw [← HXE.out, ← HYE.out]; rfl)
            go_wp2_with (at_builtin; refine append_flt rfl (.tmp 71) (.tmp 77) rfl w2 _ k (jointTo xs ys false k) rfl (hown.alloc _) (hbw.alloc hbw.size _) _ _ (fsub (fadd (0) (y)) (fmul (0) (y))) rfl (cell_new _ _ _) hk4 ?_; intro v' w' ho3 hb3)
            go_roundw
            case rel => exact ⟨k + 1, by omega, by go_num, by rw [jointTo_succ, hv.out]; exact ho3, hb3⟩
            case measure => simp [intOf]; omega
          · have hv := Lib.hid (show jointAt xs ys true k = fmul (0) (y) by unfold jointAt jointOf; rw [← HXE.out, ← HYE.out]; rfl)
            go_wp2_with (at_builtin; refine append_flt rfl (.tmp 67) (.tmp 69) rfl w2 _ k (jointTo xs ys true k) rfl (hown.alloc _) (hbw.alloc hbw.size _) _ _ (fmul (0) (y)) rfl (cell_new _ _ _) hk4 ?_; intro v' w' ho3 hb3)
            go_roundw
            case rel => exact ⟨k + 1, by omega, by go_num, by rw [jointTo_succ, hv.out]; exact ho3, hb3⟩
            case measure => simp [intOf]; omega
        · exfalso; omega
    · obtain rfl : m = k := by omega
      obtain ⟨A3, c3, rfl, hr3⟩ := own_rd hown rfl
      have HB3 := Lib.hid (below_step HB.out hbw)
      clear hbw hown hr1 hr2
      go_wp2_with (first | (go_at_call 57; refine (l06Worth_any _ _ _ (jointTo xs ys both m) _ 2 0 _ hr3 (by omega) (HBD.out _) (Nat.le_refl _) HI1.out (by omega)).mono ?_; rintro e w4 ⟨rfl, rfl⟩) | fail)
      go_ret2
      exact HFI.out _ _ rfl HB3.out
set_option maxHeartbeats 6400000 in
set_option maxRecDepth 100000 in
theorem spec_joint_b (A B : Option Addr) (n m c d : Nat) (bs cs : List Nat) (r : Nat) (both : Bool) (w : World) (hr : Rd w w.heap.size 1 A n (flts bs)) (hs : Rd w w.heap.size 1 B m (flts cs)) (h : jointOk bs cs r = true) (hz : F32s bs) (hy : F32s cs) (hq : r < 4294967296) (hmx : m ≤ n) :
    Calls Try.prog 38 #[.slice A n c, .slice B m d, .float .f32 r, .bool both] w (JointIs w bs cs r both) := by
  have HL := Lib.hid hr.flen
  have HM := Lib.hid hs.flen
  obtain ⟨h1, h2, h3⟩ := joint_parts h
  have hin := Lib.hid (tab_in1s hz h1)
  have him := Lib.hid (tab_in1s hy h2)
  have hl := (tab_len h1).2
  have hl2 := (tab_len h2).2
  have hn' : n ≤ 120 := by have := HL.out; omega
  have hm' : m ≤ 120 := by have := HM.out; omega
  have hn : n ≤ 1048576 := by omega
  have hm : m ≤ 1048576 := by omega
  have hmax : max n m = n := by omega
  have hfin := Lib.hid (fun v w' => joint_yes (W := w) (w' := w') (v := v) (both := both) h)
  have HI1 := Lib.hid (share_in1 hq h3)
  have HBD := Lib.hid (jointTo_bds (aliveTo_in1 hin.out) (aliveTo_in1 him.out) both)
  have HF := Lib.hid (worthOf_fin (wt := 0) (HBD.out n) HI1.out (by decide) (by rw [jointTo_length]; omega))
  have HX := Lib.hid (in1_getD (aliveTo_in1 hin.out))
  have HY := Lib.hid (in1_getD (aliveTo_in1 him.out))
  rw [HL.out] at HX HBD HF
  rw [HM.out] at HY HBD HF
  have hfin2 := hfin.out
  rw [HL.out, HM.out, hmax] at hfin2
  have HFI := Lib.hid hfin2
  have hrk := hr
  have hsk := hs
  clear hfin hfin2 hl hl2 h hz hy hq hmax
  go_enter Try.func38, Try.ntmps38
  go_wp2_with (first | (go_at_call_of 46 (Value.slice A n c); refine (l06Table_any _ _ _ bs _ hrk hn).mono ?_; rintro e w' ⟨rfl, rfl⟩) | (go_at_call_of 46 (Value.slice B m d); refine (l06Table_any _ _ _ cs _ hsk hm).mono ?_; rintro e w' ⟨rfl, rfl⟩) | (go_at_call 47; refine (l02Share_any _ _).mono ?_; rintro e w' ⟨rfl, rfl⟩) | (go_at_call_of 49 (Value.slice A n c); refine (l06Alive_any _ _ _ bs _ hr hn' hin.out).mono ?_; rintro e w1 ⟨v, rfl, ho, hb⟩; rw [HL.out] at ho; obtain ⟨A1, c1, rfl, hr1⟩ := own_rd ho rfl; replace hs := hs.on hb) | (go_at_call_of 49 (Value.slice B m d); refine (l06Alive_any _ _ _ cs _ hs hm' him.out).mono ?_; rintro e w2 ⟨v2, rfl, ho2, hb2⟩; rw [HM.out] at ho2; obtain ⟨A2, c2, rfl, hr2⟩ := own_rd ho2 rfl; replace hr1 := hr1.on hb2))
  have HB := Lib.hid (below_step hb hb2)
  obtain ⟨xs, hxs⟩ : ∃ xs, xs = aliveTo bs n := ⟨_, rfl⟩
  obtain ⟨ys, hys⟩ : ∃ ys, ys = aliveTo cs m := ⟨_, rfl⟩
  rw [← hxs] at hr1 HX HBD HF HFI
  rw [← hys] at hr2 HY HBD HF HFI
  have HXS := Lib.hid hxs
  have HYS := Lib.hid hys
  clear hb hb2 ho ho2 hr hs hrk hsk hxs hys h1 h2 h3
  have hB2 : Below w2.heap.size w2 w2 := Below.refl _ _
  go_loopw [12, 13, 14, 15, 16] (fun v i _ _ _ wr => ∃ k : Nat, k ≤ n ∧ i = .int .i64 k ∧ wr.ownsRow w2.heap.size 26 1 v k (flts (jointTo xs ys both k)) ∧ Below w2.heap.size w2 wr) (fun v i _ _ _ _ => n - (intOf i).toNat)
  case atStart => exact ⟨0, Nat.zero_le _, rfl, own_base (own_empty _ _) hB2.size, hB2.alloc hB2.size _⟩
  case round =>
    obtain ⟨k, hk, rfl, hown, hbw⟩ := hrel
    clear hB2
    by_cases hlt : k < n
    · have hk4 : k + 1 ≤ 4194304 := by omega
      by_cases hkn : k < n
      · obtain ⟨ad, rfl, hc⟩ := (hr1.below hbw).flt hkn
        have hx1 := HX.out k
        obtain ⟨x, hxe⟩ : ∃ x, x = xs[k]?.getD 0 := ⟨_, rfl⟩
        rw [← hxe] at hc hx1
        have HXE := Lib.hid hxe
        clear hxe
        by_cases hkm : k < m
        · obtain ⟨ae, rfl, hd⟩ := (hr2.below hbw).flt hkm
          have hy1 := HY.out k
          obtain ⟨y, hye⟩ : ∃ y, y = ys[k]?.getD 0 := ⟨_, rfl⟩
          rw [← hye] at hd hy1
          have HYE := Lib.hid hye
          clear hye hr1 hr2
          obtain ⟨o1, o2, o3, _⟩ := joint_ok hx1 hy1
          have q1 := fun (t : TypeId) (w : World) => run_fmul (P := Try.prog) t o1 w
          have q2 := fun (t : TypeId) (w : World) => run_fadd (P := Try.prog) t o2 w
          have q3 := fun (t : TypeId) (w : World) => run_fsub (P := Try.prog) t o3 w
          clear o1 o2 o3 hx1 hy1
          cases both
          · have hv := Lib.hid (show jointAt xs ys false k = fsub (fadd (x) (y)) (fmul (x) (y)) by unfold jointAt jointOf; rw [← HXE.out, ← HYE.out]; rfl)
            go_wp2_with (at_builtin; refine append_flt rfl (.tmp 71) (.tmp 77) rfl w2 _ k (jointTo xs ys false k) rfl (hown.alloc _) (hbw.alloc hbw.size _) _ _ (fsub (fadd (x) (y)) (fmul (x) (y))) rfl (cell_new _ _ _) hk4 ?_; intro v' w' ho3 hb3)
            go_roundw
            case rel => exact ⟨k + 1, by omega, by go_num, by rw [jointTo_succ, hv.out]; exact ho3, hb3⟩
            case measure => simp [intOf]; omega
          · have hv := Lib.hid (show jointAt xs ys true k = fmul (x) (y) by unfold jointAt jointOf; rw [← HXE.out, ← HYE.out]; rfl)
            go_wp2_with (at_builtin; refine append_flt rfl (.tmp 67) (.tmp 69) rfl w2 _ k (jointTo xs ys true k) rfl (hown.alloc _) (hbw.alloc hbw.size _) _ _ (fmul (x) (y)) rfl (cell_new _ _ _) hk4 ?_; intro v' w' ho3 hb3)
            go_roundw
            case rel => exact ⟨k + 1, by omega, by go_num, by rw [jointTo_succ, hv.out]; exact ho3, hb3⟩
            case measure => simp [intOf]; omega
        · have hy1 := In1_zero
          have HYE := Lib.hid (show 0 = ys[k]?.getD 0 by rw [HYS.out]; exact (aliveTo_none (by omega)).symm)
          clear hr1 hr2
          obtain ⟨o1, o2, o3, _⟩ := joint_ok hx1 hy1
          have q1 := fun (t : TypeId) (w : World) => run_fmul (P := Try.prog) t o1 w
          have q2 := fun (t : TypeId) (w : World) => run_fadd (P := Try.prog) t o2 w
          have q3 := fun (t : TypeId) (w : World) => run_fsub (P := Try.prog) t o3 w
          clear o1 o2 o3 hx1 hy1
          cases both
          · have hv := Lib.hid (show jointAt xs ys false k = fsub (fadd (x) (0)) (fmul (x) (0)) by unfold jointAt jointOf; rw [← HXE.out, ← HYE.out]; rfl)
            go_wp2_with (at_builtin; refine append_flt rfl (.tmp 71) (.tmp 77) rfl w2 _ k (jointTo xs ys false k) rfl (hown.alloc _) (hbw.alloc hbw.size _) _ _ (fsub (fadd (x) (0)) (fmul (x) (0))) rfl (cell_new _ _ _) hk4 ?_; intro v' w' ho3 hb3)
            go_roundw
            case rel => exact ⟨k + 1, by omega, by go_num, by rw [jointTo_succ, hv.out]; exact ho3, hb3⟩
            case measure => simp [intOf]; omega
          · have hv := Lib.hid (show jointAt xs ys true k = fmul (x) (0) by unfold jointAt jointOf; rw [← HXE.out, ← HYE.out]; rfl)
            go_wp2_with (at_builtin; refine append_flt rfl (.tmp 67) (.tmp 69) rfl w2 _ k (jointTo xs ys true k) rfl (hown.alloc _) (hbw.alloc hbw.size _) _ _ (fmul (x) (0)) rfl (cell_new _ _ _) hk4 ?_; intro v' w' ho3 hb3)
            go_roundw
            case rel => exact ⟨k + 1, by omega, by go_num, by rw [jointTo_succ, hv.out]; exact ho3, hb3⟩
            case measure => simp [intOf]; omega
      · exfalso; omega
    · obtain rfl : n = k := by omega
      obtain ⟨A3, c3, rfl, hr3⟩ := own_rd hown rfl
      have HB3 := Lib.hid (below_step HB.out hbw)
      clear hbw hown hr1 hr2
      go_wp2_with (first | (go_at_call 57; refine (l06Worth_any _ _ _ (jointTo xs ys both n) _ 2 0 _ hr3 (by omega) (HBD.out _) (Nat.le_refl _) HI1.out (by omega)).mono ?_; rintro e w4 ⟨rfl, rfl⟩) | fail)
      go_ret2
      exact HFI.out _ _ rfl HB3.out
set_option maxHeartbeats 800000 in
theorem impl_JointValue (A : Option Addr) (n c : Nat) (bs : List Nat) (B : Option Addr) (m d : Nat) (cs : List Nat) (r : Nat) (both : Bool) (w : World) (hr : Rd w w.heap.size 1 A n (flts bs)) (hn : n ≤ 1048576) (hz : F32s bs) (hs : Rd w w.heap.size 1 B m (flts cs)) (hm : m ≤ 1048576) (hy : F32s cs) (hq : r < 4294967296) (_ : True) :
    Calls Try.prog 39 #[.slice A n c, .slice B m d, .float .f32 r, .bool both] w (JointIs w bs cs r both) := by
  cases h1 : tabOk bs
  · have hfin := Lib.hid (joint_no (W := w) (b1 := bs) (b2 := cs) (r := r) (both := both) (by simp [jointOk, h1]))
    go_enter Try.func39, Try.ntmps39
    go_wp2_with (go_at_call_of 17 (Value.slice A n c); refine (isLife_any _ _ _ bs _ hr hn).mono ?_; rintro e w' ⟨rfl, rfl⟩)
    go_ret2
    exact hfin.out
  cases h2 : tabOk cs
  · have hfin := Lib.hid (joint_no (W := w) (b1 := bs) (b2 := cs) (r := r) (both := both) (by simp [jointOk, h2]))
    go_enter Try.func39, Try.ntmps39
    go_wp2_with (first | (go_at_call_of 17 (Value.slice A n c); refine (isLife_any _ _ _ bs _ hr hn).mono ?_; rintro e w' ⟨rfl, rfl⟩) | (go_at_call_of 17 (Value.slice B m d); refine (isLife_any _ _ _ cs _ hs hm).mono ?_; rintro e w' ⟨rfl, rfl⟩))
    go_ret2
    exact hfin.out
  cases h3 : shareB r
  · have hfin := Lib.hid (joint_no (W := w) (b1 := bs) (b2 := cs) (r := r) (both := both) (by simp [jointOk, h3]))
    go_enter Try.func39, Try.ntmps39
    go_wp2_with (first | (go_at_call_of 17 (Value.slice A n c); refine (isLife_any _ _ _ bs _ hr hn).mono ?_; rintro e w' ⟨rfl, rfl⟩) | (go_at_call_of 17 (Value.slice B m d); refine (isLife_any _ _ _ cs _ hs hm).mono ?_; rintro e w' ⟨rfl, rfl⟩) | (go_at_call 48; refine (isYield_any _ _).mono ?_; rintro e w' ⟨rfl, rfl⟩))
    go_ret2
    exact hfin.out
  have hok : jointOk bs cs r = true := by simp [jointOk, h1, h2, h3]
  by_cases hmx : n < m
  · exact impl_joint_a A B n m c d bs cs r both w hr hs hok hz hy hq hmx
  · exact impl_joint_b A B n m c d bs cs r both w hr hs hok hz hy hq (by omega)
set_option maxHeartbeats 800000 in
theorem spec_JointValue (A : Option Addr) (n c : Nat) (bs : List Nat) (B : Option Addr) (m d : Nat) (cs : List Nat) (r : Nat) (both : Bool) (w : World) (hr : Rd w w.heap.size 1 A n (flts bs)) (hn : n ≤ 1048576) (hz : F32s bs) (hs : Rd w w.heap.size 1 B m (flts cs)) (hm : m ≤ 1048576) (hy : F32s cs) (hq : r < 4294967296) (_ : True) :
    Calls Try.prog 38 #[.slice A n c, .slice B m d, .float .f32 r, .bool both] w (JointIs w bs cs r both) := by
  cases h1 : tabOk bs
  · have hfin := Lib.hid (joint_no (W := w) (b1 := bs) (b2 := cs) (r := r) (both := both) (by simp [jointOk, h1]))
    go_enter Try.func38, Try.ntmps38
    go_wp2_with (go_at_call_of 46 (Value.slice A n c); refine (l06Table_any _ _ _ bs _ hr hn).mono ?_; rintro e w' ⟨rfl, rfl⟩)
    go_ret2
    exact hfin.out
  cases h2 : tabOk cs
  · have hfin := Lib.hid (joint_no (W := w) (b1 := bs) (b2 := cs) (r := r) (both := both) (by simp [jointOk, h2]))
    go_enter Try.func38, Try.ntmps38
    go_wp2_with (first | (go_at_call_of 46 (Value.slice A n c); refine (l06Table_any _ _ _ bs _ hr hn).mono ?_; rintro e w' ⟨rfl, rfl⟩) | (go_at_call_of 46 (Value.slice B m d); refine (l06Table_any _ _ _ cs _ hs hm).mono ?_; rintro e w' ⟨rfl, rfl⟩))
    go_ret2
    exact hfin.out
  cases h3 : shareB r
  · have hfin := Lib.hid (joint_no (W := w) (b1 := bs) (b2 := cs) (r := r) (both := both) (by simp [jointOk, h3]))
    go_enter Try.func38, Try.ntmps38
    go_wp2_with (first | (go_at_call_of 46 (Value.slice A n c); refine (l06Table_any _ _ _ bs _ hr hn).mono ?_; rintro e w' ⟨rfl, rfl⟩) | (go_at_call_of 46 (Value.slice B m d); refine (l06Table_any _ _ _ cs _ hs hm).mono ?_; rintro e w' ⟨rfl, rfl⟩) | (go_at_call 47; refine (l02Share_any _ _).mono ?_; rintro e w' ⟨rfl, rfl⟩))
    go_ret2
    exact hfin.out
  have hok : jointOk bs cs r = true := by simp [jointOk, h1, h2, h3]
  by_cases hmx : n < m
  · exact spec_joint_a A B n m c d bs cs r both w hr hs hok hz hy hq hmx
  · exact spec_joint_b A B n m c d bs cs r both w hr hs hok hz hy hq (by omega)
end Go.Proofs.Ytefoebaoejoamaa
