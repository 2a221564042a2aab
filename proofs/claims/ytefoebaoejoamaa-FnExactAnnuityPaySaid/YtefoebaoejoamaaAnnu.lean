/-
  LaterValue, AnnuityValue: what the program's and the reference's functions return.
-/
import Derived.Test.YtefoebaoejoamaaReserve
namespace Go.Proofs.Ytefoebaoejoamaa
open Fl
open Go.ChangeShapes Go.WideShapes Go.ChangeAt Go.RowKit
set_option linter.unusedVariables false

/-- words of at most 2^B -/
def Bds (B : Nat) (bs : List Nat) : Prop := ∀ b ∈ bs, Bd B b
theorem Bds.at {B : Nat} {bs : List Nat} (h : Bds B bs) {k : Nat} (hk : k < bs.length) : Bd B (bs[k]?.getD 0) := h _ (getD_memN hk)
theorem In1s.bds {bs : List Nat} (h : In1s bs) : Bds 0 bs := fun b hb => (h b hb).bd
/-- the sum and the power after k shares -/
def worthAt (xs : List Nat) (f : Nat) (wt : Int) : Nat → Nat × Nat
  | 0 => (0, 1065353216)
  | k + 1 => (if wt ≤ k then fadd (worthAt xs f wt k).1 (fmul (xs[k]?.getD 0) (worthAt xs f wt k).2) else (worthAt xs f wt k).1, fmul (worthAt xs f wt k).2 f)
theorem worth_bd {xs : List Nat} {f B : Nat} {wt : Int} (h : Bds B xs) (hf : In1 f) (hB : B ≤ 2) : ∀ k, k ≤ xs.length → k ≤ 120 → Bd (B + k) (worthAt xs f wt k).1 ∧ In1 (worthAt xs f wt k).2
  | 0, _, _ => ⟨In1_zero.bd.mono (Nat.zero_le _), In1_one⟩
  | k + 1, hk, hm => by
    obtain ⟨h1, h2⟩ := worth_bd (wt := wt) h hf hB k (by omega) (by omega)
    refine ⟨?_, (mul_in1 h2 hf).2⟩
    show Bd _ (if wt ≤ k then _ else _)
    have h3 := (fmul_bd (h.at (k := k) (by omega)) h2.bd (by omega)).2
    have h4 := (fadd_bd (M := B + k) h1 h3 (Nat.le_refl _) (by omega) (by omega)).2
    by_cases hw : wt ≤ k
    · rw [if_pos hw]; exact h4
    · rw [if_neg hw]; exact h1.mono (by omega)
theorem worth_ok {xs : List Nat} {f B k : Nat} {wt : Int} (h : Bds B xs) (hf : In1 f) (hB : B ≤ 2) (hk : k < xs.length) (hm : k < 120) :
    okM (xs[k]?.getD 0) (worthAt xs f wt k).2 ∧ okA (worthAt xs f wt k).1 (fmul (xs[k]?.getD 0) (worthAt xs f wt k).2) ∧ okM (worthAt xs f wt k).2 f := by
  obtain ⟨h1, h2⟩ := worth_bd (wt := wt) h hf hB k (by omega) (by omega)
  obtain ⟨o1, h3⟩ := fmul_bd (h.at (k := k) hk) h2.bd (by omega)
  exact ⟨o1, (fadd_bd (M := B + k) h1 h3 (Nat.le_refl _) (by omega) (by omega)).1, (mul_in1 h2 hf).1⟩
def worthOf (xs : List Nat) (r : Nat) (wt : Int) : Nat := (worthAt xs (factorOf r) wt xs.length).1
theorem worthOf_fin {xs : List Nat} {r B : Nat} {wt : Int} (h : Bds B xs) (hr : In1 r) (hB : B ≤ 2) (hl : xs.length ≤ 120) : F (worthOf xs r wt) :=
  (worth_bd h (factor_ok hr).2.2 hB xs.length (Nat.le_refl _) hl).1.fin (by omega)
set_option maxHeartbeats 1600000 in
theorem present_any (A : Option Addr) (n c : Nat) (xs : List Nat) (r B : Nat) (wt : Int) (w : World) (hr : Rd w w.heap.size 1 A n (flts xs)) (hn : n ≤ 120) (hx : Bds B xs) (hB : B ≤ 2) (hi : In1 r) (hw : 0 ≤ wt ∧ wt ≤ 9223372036854775807) :
    Calls Try.prog 60 #[.slice A n c, .float .f32 r, .int .i64 wt] w fun e w' => e = .returned (.float .f32 (worthOf xs r wt)) ∧ w = w' := by
  have HL := Lib.hid hr.flen
  have HX := Lib.hid hx
  obtain ⟨p1, p2, p3⟩ := factor_ok hi
  have P3 := Lib.hid p3
  have e1 := fun (t : TypeId) (w : World) => run_fadd (P := Try.prog) t p1 w
  have e2 := fun (t : TypeId) (w : World) => run_fdiv (P := Try.prog) t p2 w
  obtain ⟨f, hf⟩ : ∃ f, f = factorOf r := ⟨_, rfl⟩
  rw [← hf] at P3
  have e3 : fdiv 1065353216 (fadd 1065353216 r) = f := hf.symm
  rw [e3] at e2
  have HFF := Lib.hid hf
  clear hf p1 p2 p3 e3 hi hx
  go_enter Try.func60, Try.ntmps60
  go_wp2_with fail
  go_loop [8, 9, 10, 11, 17] (fun y x _ _ i => ∃ (k : Nat) (p : Nat × Nat), k ≤ n ∧ i = .int .i64 k ∧ p = worthAt xs f wt k ∧ x = .float .f32 p.1 ∧ y = .float .f32 p.2) (fun y x _ _ i => n - (intOf i).toNat)
  case atStart => exact ⟨0, (0, 1065353216), Nat.zero_le _, rfl, rfl, rfl, rfl⟩
  case round =>
    obtain ⟨k, p, hk, rfl, hp, rfl, rfl⟩ := hrel
    have HP := Lib.hid hp
    clear hp
    by_cases hlt : k < n
    · obtain ⟨ad, rfl, hc⟩ := hr.flt hlt
      clear hr
      have ho := worth_ok (wt := wt) HX.out P3.out hB (k := k) (by have := HL.out; omega) (by omega)
      have hv := Lib.hid (show worthAt xs f wt (k + 1) = (if wt ≤ k then fadd (worthAt xs f wt k).1 (fmul (xs[k]?.getD 0) (worthAt xs f wt k).2) else (worthAt xs f wt k).1, fmul (worthAt xs f wt k).2 f) from rfl)
      obtain ⟨b, hb⟩ : ∃ b, b = xs[k]?.getD 0 := ⟨_, rfl⟩
      rw [← hb] at hc ho hv
      rw [← HP.out] at ho hv
      clear hb
      obtain ⟨o1, o2, o3⟩ := ho
      obtain ⟨ps, pp⟩ := p
      dsimp only at o1 o2 o3 hv ⊢
      have q1 := fun (t : TypeId) (w : World) => run_fmul (P := Try.prog) t o1 w
      have q2 := fun (t : TypeId) (w : World) => run_fadd (P := Try.prog) t o2 w
      have q3 := fun (t : TypeId) (w : World) => run_fmul (P := Try.prog) t o3 w
      clear o1 o2 o3
      by_cases hwk : wt ≤ (k : Int)
      · go_wp2_with fail
        go_round
        case rel => exact ⟨k + 1, _, by omega, by go_num, by rw [hv.out, if_pos hwk], rfl, rfl⟩
        case measure => simp [intOf]; omega
      · go_wp2_with fail
        go_round
        case rel => exact ⟨k + 1, _, by omega, by go_num, by rw [hv.out, if_neg hwk], rfl, rfl⟩
        case measure => simp [intOf]; omega
    · obtain rfl : n = k := by omega
      have hfin := Lib.hid (show worthOf xs r wt = p.1 by unfold worthOf; rw [← HFF.out, HL.out, ← HP.out])
      go_wp2_with fail
      go_ret
      exact ⟨by rw [hfin.out]; rfl, rfl⟩
set_option maxHeartbeats 1600000 in
theorem l06Worth_any (A : Option Addr) (n c : Nat) (xs : List Nat) (r B : Nat) (wt : Int) (w : World) (hr : Rd w w.heap.size 1 A n (flts xs)) (hn : n ≤ 120) (hx : Bds B xs) (hB : B ≤ 2) (hi : In1 r) (hw : 0 ≤ wt ∧ wt ≤ 9223372036854775807) :
    Calls Try.prog 57 #[.slice A n c, .float .f32 r, .int .i64 wt] w fun e w' => e = .returned (.float .f32 (worthOf xs r wt)) ∧ w = w' := by
  have HL := Lib.hid hr.flen
  have HX := Lib.hid hx
  obtain ⟨p1, p2, p3⟩ := factor_ok hi
  have P3 := Lib.hid p3
  have e1 := fun (t : TypeId) (w : World) => run_fadd (P := Try.prog) t p1 w
  have e2 := fun (t : TypeId) (w : World) => run_fdiv (P := Try.prog) t p2 w
  obtain ⟨f, hf⟩ : ∃ f, f = factorOf r := ⟨_, rfl⟩
  rw [← hf] at P3
  have e3 : fdiv 1065353216 (fadd 1065353216 r) = f := hf.symm
  rw [e3] at e2
  have HFF := Lib.hid hf
  clear hf p1 p2 p3 e3 hi hx
  go_enter Try.func57, Try.ntmps57
  go_wp2_with fail
  go_loop [7, 8, 9] (fun x y i => ∃ (k : Nat) (p : Nat × Nat), k ≤ n ∧ i = .int .i64 k ∧ p = worthAt xs f wt k ∧ x = .float .f32 p.1 ∧ y = .float .f32 p.2) (fun x y i => n - (intOf i).toNat)
  case atStart => exact ⟨0, (0, 1065353216), Nat.zero_le _, rfl, rfl, rfl, rfl⟩
  case round =>
    obtain ⟨k, p, hk, rfl, hp, rfl, rfl⟩ := hrel
    have HP := Lib.hid hp
    clear hp
    by_cases hlt : k < n
    · obtain ⟨ad, rfl, hc⟩ := hr.flt hlt
      clear hr
      have ho := worth_ok (wt := wt) HX.out P3.out hB (k := k) (by have := HL.out; omega) (by omega)
      have hv := Lib.hid (show worthAt xs f wt (k + 1) = (if wt ≤ k then fadd (worthAt xs f wt k).1 (fmul (xs[k]?.getD 0) (worthAt xs f wt k).2) else (worthAt xs f wt k).1, fmul (worthAt xs f wt k).2 f) from rfl)
      obtain ⟨b, hb⟩ : ∃ b, b = xs[k]?.getD 0 := ⟨_, rfl⟩
      rw [← hb] at hc ho hv
      rw [← HP.out] at ho hv
      clear hb
      obtain ⟨o1, o2, o3⟩ := ho
      obtain ⟨ps, pp⟩ := p
      dsimp only at o1 o2 o3 hv ⊢
      have q1 := fun (t : TypeId) (w : World) => run_fmul (P := Try.prog) t o1 w
      have q2 := fun (t : TypeId) (w : World) => run_fadd (P := Try.prog) t o2 w
      have q3 := fun (t : TypeId) (w : World) => run_fmul (P := Try.prog) t o3 w
      clear o1 o2 o3
      by_cases hwk : wt ≤ (k : Int)
      · go_wp2_with fail
        go_round
        case rel => exact ⟨k + 1, _, by omega, by go_num, by rw [hv.out, if_pos hwk], rfl, rfl⟩
        case measure => simp [intOf]; omega
      · go_wp2_with fail
        go_round
        case rel => exact ⟨k + 1, _, by omega, by go_num, by rw [hv.out, if_neg hwk], rfl, rfl⟩
        case measure => simp [intOf]; omega
    · obtain rfl : n = k := by omega
      have hfin := Lib.hid (show worthOf xs r wt = p.1 by unfold worthOf; rw [← HFF.out, HL.out, ← HP.out])
      go_wp2_with fail
      go_ret
      exact ⟨by rw [hfin.out]; rfl, rfl⟩

def laterOk (bs : List Nat) (r : Nat) (wt : Int) : Bool := tabOk bs && (shareB r && inB wt 0 bs.length)
def LaterValue_r0 (bs : List Nat) (r : Nat) (wt : Int) : Nat := if laterOk bs r wt then worthOf (aliveTo bs bs.length) r wt else 0
def LaterValue_r1 (bs : List Nat) (r : Nat) (wt : Int) : Bool := laterOk bs r wt
def LaterIs (W : World) (bs : List Nat) (r : Nat) (wt : Int) (E : Ending) (w' : World) : Prop := E = .returned (.tuple #[.float .f32 (LaterValue_r0 bs r wt), .bool (LaterValue_r1 bs r wt)]) ∧ Below W.heap.size W w'
theorem later_no {W : World} {bs : List Nat} {r : Nat} {wt : Int} (h : laterOk bs r wt = false) : LaterIs W bs r wt (.returned (.tuple #[.float .f32 0, .bool false])) W := by
  unfold LaterIs LaterValue_r0 LaterValue_r1; rw [h]; exact ⟨rfl, Below.refl _ _⟩
theorem later_yes {W w' : World} {bs : List Nat} {r : Nat} {wt : Int} {v : Nat} (h : laterOk bs r wt = true) (hv : v = worthOf (aliveTo bs bs.length) r wt) (hb : Below W.heap.size W w') : LaterIs W bs r wt (.returned (.tuple #[.float .f32 v, .bool true])) w' := by
  unfold LaterIs LaterValue_r0 LaterValue_r1; rw [h, hv]; exact ⟨rfl, hb⟩
theorem LaterValue_fin (bs : List Nat) (r : Nat) (wt : Int) (hz : F32s bs) (hr : r < 4294967296) : nan32 (LaterValue_r0 bs r wt) = false := by
  unfold LaterValue_r0
  cases h : laterOk bs r wt
  · rw [if_neg (by decide)]; exact F_nan F_zero
  · rw [if_pos rfl]
    simp [laterOk] at h
    exact F_nan (worthOf_fin (B := 0) (aliveTo_in1 (tab_in1s hz h.1)).bds (share_in1 hr h.2.1) (by decide) (by rw [aliveTo_length]; exact (tab_len h.1).2))
set_option maxHeartbeats 1600000 in
theorem impl_LaterValue (A : Option Addr) (n c : Nat) (bs : List Nat) (r : Nat) (wt : Int) (w : World) (hr : Rd w w.heap.size 1 A n (flts bs)) (hn : n ≤ 1048576) (hz : F32s bs) (hq : r < 4294967296) (hwt : -9223372036854775808 ≤ wt ∧ wt ≤ 9223372036854775807) :
    Calls Try.prog 35 #[.slice A n c, .float .f32 r, .int .i64 wt] w (LaterIs w bs r wt) := by
  have HL := Lib.hid hr.flen
  cases h : tabOk bs
  · have hfin := Lib.hid (later_no (W := w) (bs := bs) (r := r) (wt := wt) (by simp [laterOk, h]))
    go_enter Try.func35, Try.ntmps35
    go_wp2_with (go_at_call 17; refine (isLife_any _ _ _ bs _ hr hn).mono ?_; rintro e w' ⟨rfl, rfl⟩)
    go_ret2
    exact hfin.out
  cases h2 : shareB r
  · have hfin := Lib.hid (later_no (W := w) (bs := bs) (r := r) (wt := wt) (by simp [laterOk, h2]))
    go_enter Try.func35, Try.ntmps35
    go_wp2_with (first | (go_at_call 17; refine (isLife_any _ _ _ bs _ hr hn).mono ?_; rintro e w' ⟨rfl, rfl⟩) | (go_at_call 48; refine (isYield_any _ _).mono ?_; rintro e w' ⟨rfl, rfl⟩))
    go_ret2
    exact hfin.out
  cases h3 : inB wt 0 n
  · have hfin := Lib.hid (later_no (W := w) (bs := bs) (r := r) (wt := wt) (by rw [← HL.out] at h3; simp [laterOk, h3]))
    go_enter Try.func35, Try.ntmps35
    go_wp2_with (first | (go_at_call 17; refine (isLife_any _ _ _ bs _ hr hn).mono ?_; rintro e w' ⟨rfl, rfl⟩) | (go_at_call 48; refine (isYield_any _ _).mono ?_; rintro e w' ⟨rfl, rfl⟩) | (go_at_call 59; refine (within_any _ _ _ _).mono ?_; rintro e w' ⟨rfl, rfl⟩))
    go_ret2
    exact hfin.out
  have hin := Lib.hid (tab_in1s hz h)
  have hl := (tab_len h).2
  have hn' : n ≤ 120 := by have := HL.out; omega
  have hok : laterOk bs r wt = true := by rw [← HL.out] at h3; simp [laterOk, h, h2, h3]
  have hfin := Lib.hid (fun v w' => later_yes (W := w) (w' := w') (v := v) hok)
  have HI1 := Lib.hid (share_in1 hq h2)
  have hw2 := inB_iff.1 h3
  have hw3 : 0 ≤ wt ∧ wt ≤ 9223372036854775807 := ⟨hw2.1, hwt.2⟩
  have HBD := Lib.hid (aliveTo_in1 hin.out).bds
  have HF := Lib.hid (worthOf_fin (wt := wt) HBD.out HI1.out (by decide) (by rw [aliveTo_length]; exact hl))
  clear hl hok hz hq hw2
  go_enter Try.func35, Try.ntmps35
  go_wp2_with (first | (go_at_call 17; refine (isLife_any _ _ _ bs _ hr hn).mono ?_; rintro e w' ⟨rfl, rfl⟩) | (go_at_call 48; refine (isYield_any _ _).mono ?_; rintro e w' ⟨rfl, rfl⟩) | (go_at_call 59; refine (within_any _ _ _ _).mono ?_; rintro e w' ⟨rfl, rfl⟩) | (go_at_call 50; refine (alive_any _ _ _ bs _ hr hn' hin.out).mono ?_; rintro e w1 ⟨v, rfl, ho, hb⟩; obtain ⟨A1, c1, rfl, hr1⟩ := own_rd ho HL.out) | (go_at_call 60; refine (present_any _ _ _ (aliveTo bs bs.length) _ 0 _ _ hr1 hn' HBD.out (Nat.zero_le _) HI1.out hw3).mono ?_; rintro e w2 ⟨rfl, rfl⟩) | (go_at_call 51; refine (finite_yes _ _ HF.out).mono ?_; rintro e w' ⟨rfl, rfl⟩))
  go_ret2
  exact hfin.out _ _ rfl hb
set_option maxHeartbeats 1600000 in
theorem spec_LaterValue (A : Option Addr) (n c : Nat) (bs : List Nat) (r : Nat) (wt : Int) (w : World) (hr : Rd w w.heap.size 1 A n (flts bs)) (hn : n ≤ 1048576) (hz : F32s bs) (hq : r < 4294967296) (hwt : -9223372036854775808 ≤ wt ∧ wt ≤ 9223372036854775807) :
    Calls Try.prog 34 #[.slice A n c, .float .f32 r, .int .i64 wt] w (LaterIs w bs r wt) := by
  have HL := Lib.hid hr.flen
  cases h : tabOk bs
  · have hfin := Lib.hid (later_no (W := w) (bs := bs) (r := r) (wt := wt) (by simp [laterOk, h]))
    go_enter Try.func34, Try.ntmps34
    go_wp2_with (go_at_call 46; refine (l06Table_any _ _ _ bs _ hr hn).mono ?_; rintro e w' ⟨rfl, rfl⟩)
    go_ret2
    exact hfin.out
  cases h2 : shareB r
  · have hfin := Lib.hid (later_no (W := w) (bs := bs) (r := r) (wt := wt) (by simp [laterOk, h2]))
    go_enter Try.func34, Try.ntmps34
    go_wp2_with (first | (go_at_call 46; refine (l06Table_any _ _ _ bs _ hr hn).mono ?_; rintro e w' ⟨rfl, rfl⟩) | (go_at_call 47; refine (l02Share_any _ _).mono ?_; rintro e w' ⟨rfl, rfl⟩))
    go_ret2
    exact hfin.out
  cases h3 : inB wt 0 n
  · have hfin := Lib.hid (later_no (W := w) (bs := bs) (r := r) (wt := wt) (by rw [← HL.out] at h3; simp [laterOk, h3]))
    go_enter Try.func34, Try.ntmps34
    go_wp2_with (first | (go_at_call 46; refine (l06Table_any _ _ _ bs _ hr hn).mono ?_; rintro e w' ⟨rfl, rfl⟩) | (go_at_call 47; refine (l02Share_any _ _).mono ?_; rintro e w' ⟨rfl, rfl⟩) | (go_at_call 58; refine (l00In_any _ _ _ _).mono ?_; rintro e w' ⟨rfl, rfl⟩))
    go_ret2
    exact hfin.out
  have hin := Lib.hid (tab_in1s hz h)
  have hl := (tab_len h).2
  have hn' : n ≤ 120 := by have := HL.out; omega
  have hok : laterOk bs r wt = true := by rw [← HL.out] at h3; simp [laterOk, h, h2, h3]
  have hfin := Lib.hid (fun v w' => later_yes (W := w) (w' := w') (v := v) hok)
  have HI1 := Lib.hid (share_in1 hq h2)
  have hw2 := inB_iff.1 h3
  have hw3 : 0 ≤ wt ∧ wt ≤ 9223372036854775807 := ⟨hw2.1, hwt.2⟩
  have HBD := Lib.hid (aliveTo_in1 hin.out).bds
  have HF := Lib.hid (worthOf_fin (wt := wt) HBD.out HI1.out (by decide) (by rw [aliveTo_length]; exact hl))
  clear hl hok hz hq hw2
  go_enter Try.func34, Try.ntmps34
  go_wp2_with (first | (go_at_call 46; refine (l06Table_any _ _ _ bs _ hr hn).mono ?_; rintro e w' ⟨rfl, rfl⟩) | (go_at_call 47; refine (l02Share_any _ _).mono ?_; rintro e w' ⟨rfl, rfl⟩) | (go_at_call 58; refine (l00In_any _ _ _ _).mono ?_; rintro e w' ⟨rfl, rfl⟩) | (go_at_call 49; refine (l06Alive_any _ _ _ bs _ hr hn' hin.out).mono ?_; rintro e w1 ⟨v, rfl, ho, hb⟩; obtain ⟨A1, c1, rfl, hr1⟩ := own_rd ho HL.out) | (go_at_call 57; refine (l06Worth_any _ _ _ (aliveTo bs bs.length) _ 0 _ _ hr1 hn' HBD.out (Nat.zero_le _) HI1.out hw3).mono ?_; rintro e w2 ⟨rfl, rfl⟩) | fail)
  go_ret2
  exact hfin.out _ _ rfl hb
end Go.Proofs.Ytefoebaoejoamaa
