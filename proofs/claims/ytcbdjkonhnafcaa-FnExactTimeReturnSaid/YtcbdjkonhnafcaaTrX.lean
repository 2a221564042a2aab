/-
  TimeReturn: what both programs' functions return.
-/
import Derived.Test.YtcbdjkonhnafcaaTrW
namespace Go.Proofs.Ytcbdjkonhnafcaa
open Fl
open Go.ChangeShapes Go.WideShapes Go.ChangeAt Go.RowKit
set_option linter.unusedVariables false
set_option linter.unusedSimpArgs false
attribute [local irreducible] logG expG narrow wide dadd dsub dmul ddiv fadd fsub fmul fdiv floatOfInt pL sqL expT xIdx

theorem conv_narrow {b r : Nat} (h : floatToFloatBits .f64 b .f32 = some r) (w : World) : (convert 28 23 (.float .f64 b)).run Try.prog w = .ok (.float .f32 r) w :=
  run_convert_float_float w _ _ .f64 .f32 b _ (by rw [Try.underlying28]; rfl) Try.underlying23 h
theorem sqL_zero (p : Nat) : sqL p 0 = p := by unfold sqL; rfl
theorem pL_zero (t : Nat) : pL t 0 = 4607182418800017408 := by unfold pL; rfl
theorem sqL_succ (p j : Nat) : sqL p (j + 1) = dmul (sqL p j) (sqL p j) := by rw [sqL]
/-! ### the logarithm of a rate -/
theorem impl_lg {r : Int} (h : -9999 ≤ r ∧ r ≤ 10000) (w : World) : Calls Try.prog 14 #[.float .f32 (rateX r)] w fun e w' => e = .returned (.float .f32 (lgR r)) ∧ w = w' := by
  obtain ⟨t1, t2, t3⟩ := log_tests h
  obtain ⟨hf, hn⟩ := rate_nr h
  have HF := Lib.hid hf
  have HN := Lib.hid hn
  have hb := finB_iff.2 hf
  have hnan := F_nan hf
  have c1 := conv_ok hnan
  have c2 := conv_narrow (lgR_ok h).1
  have f1 : (FloatKind.f32.format.order (rateX r) (rateX r) != some .eq) = false := t1
  have f2 : (FloatKind.f32.format.order (rateX r) 0 == some .lt) = false := t2
  have f3 : (FloatKind.f32.format.order (rateX r) 0 == some .eq) = false := t3
  have HA := Lib.hid hnan
  clear t1 t2 t3 hf hn hnan h
  go_enter Try.func14, Try.ntmps14
  go_wp2_with (first | (go_at_call 25; refine (isFinite_num _ _ HA.out).mono ?_; rintro e w' ⟨rfl, rfl⟩) | (go_at_call 26; refine (impl_log _ HN.out _).mono ?_; rintro e w' ⟨rfl, rfl⟩))
  go_ret
  exact ⟨rfl, rfl⟩
theorem l01Narrow_is {b r : Nat} (h : floatToFloatBits .f64 b .f32 = some r) (w : World) : Calls Try.prog 18 #[.float .f64 b] w fun e w' => e = .returned (.float .f32 r) ∧ w = w' := by
  have c2 := conv_narrow h
  clear h
  go_enter Try.func18, Try.ntmps18
  go_wp2_with fail
  go_ret
  exact ⟨rfl, rfl⟩
theorem spec_lg {r : Int} (h : -9999 ≤ r ∧ r ≤ 10000) (w : World) : Calls Try.prog 10 #[.float .f32 (rateX r)] w fun e w' => e = .returned (.float .f32 (lgR r)) ∧ w = w' := by
  obtain ⟨hf, hn⟩ := rate_nr h
  have HN := Lib.hid hn
  have HR := Lib.hid (lgR_ok h).1
  have c1 := conv_ok (F_nan hf)
  clear hf hn h
  go_enter Try.func10, Try.ntmps10
  go_wp2_with (first | (go_at_call 19; refine (spec_log _ HN.out _).mono ?_; rintro e w' ⟨rfl, rfl⟩) | (go_at_call 18; refine (l01Narrow_is HR.out _).mono ?_; rintro e w' ⟨rfl, rfl⟩))
  go_ret
  exact ⟨rfl, rfl⟩
/-! ### the exponential function -/
set_option maxRecDepth 100000 in
set_option maxHeartbeats 1600000 in
theorem impl_exp {x : Nat} (h : BS 16 0 x) (w : World) : Calls Try.prog 16 #[.float .f32 x] w fun e w' => e = .returned (.float .f32 (expR x)) ∧ w = w' := by
  obtain ⟨t1, t2⟩ := mean_tests h
  have f1 : (FloatKind.f32.format.order x 1128792064 == some .gt) = false := t1
  have f2 : (FloatKind.f32.format.order x 3276275712 == some .lt) = false := t2
  have c1 := conv_ok (F_nan h.fi)
  obtain ⟨o1, bt⟩ := expT_ok (wide16 h)
  have e1 := fun (t : TypeId) (w : World) => run_ddiv (P := Try.prog) t o1 w
  obtain ⟨tt, htt⟩ : ∃ t, t = expT (wide x) := ⟨_, rfl⟩
  rw [show ddiv (wide x) 4643211215818981376 = tt by rw [htt]; unfold expT; rfl] at e1
  rw [← htt] at bt
  have HBT := Lib.hid bt
  have c2 := conv_narrow (expR_ok h).1
  have hg : expG (wide x) = sqL (pL tt 12) 8 := by rw [htt]; unfold expG; rfl
  rw [hg] at c2
  clear t1 t2 o1 htt bt h hg
  go_enter Try.func16, Try.ntmps16
  go_wp2_with fail
  clear c1 e1 f1 f2
  go_loop [4, 5] (fun pv kv => ∃ (j zk : Nat), j ≤ 12 ∧ pv = .float .f64 (pL tt j) ∧ kv = .float .f64 zk ∧ zk = eD (12 - (j : Int))) (fun _ kv => 14 - xIdx kv)
  case atStart => exact ⟨0, 4622945017495814144, by omega, by rw [pL_zero], rfl, x_12.symm⟩
  case round =>
    obtain ⟨j, zk, hj, rfl, rfl, hzk⟩ := hrel
    obtain ⟨k1, k2, k3⟩ := x_at (show j < 13 by omega)
    rw [← hzk] at k1 k2 k3
    by_cases hlt : j < 12
    · rw [decide_eq_true hlt] at k3
      obtain ⟨s1, s2, s3, _⟩ := p_step HBT.out hlt (p_b HBT.out j hj)
      rw [← hzk] at s2 s3
      have t1 : (FloatKind.f64.format.order zk 4607182418800017408 == some .gt || FloatKind.f64.format.order zk 4607182418800017408 == some .eq) = true := k3
      have e1 := fun (t : TypeId) (w : World) => run_dmul (P := Try.prog) t s1 w
      have e2 := fun (t : TypeId) (w : World) => run_ddiv (P := Try.prog) t s2 w
      have e3 := fun (t : TypeId) (w : World) => run_dadd (P := Try.prog) t s3 w
      have e4 := run_any .sub .f64 zk 4607182418800017408 k2
      have HN := Lib.hid (show dadd 4607182418800017408 (ddiv (dmul tt (pL tt j)) zk) = pL tt (j + 1) by rw [hzk, pL])
      obtain ⟨z4, hz4⟩ : ∃ z4, z4 = eD (12 - (j : Int) - 1) := ⟨_, rfl⟩
      rw [← hz4] at e4
      have hz5 : z4 = eD (12 - ((j + 1 : Nat) : Int)) := by rw [hz4]; congr 1; omega
      have HM := Lib.hid (show 14 - xIdx (.float .f64 z4) < 14 - xIdx (.float .f64 zk) by rw [hz5, (x_at (show j + 1 < 13 by omega)).1, k1]; omega)
      have HZ := Lib.hid hz5
      clear k1 k2 k3 s1 s2 s3 hz4 hz5 hzk
      go_wp2_with fail
      go_round
      case rel => exact ⟨j + 1, z4, by omega, by rw [← HN.out], rfl, HZ.out⟩
      case measure => exact HM.out
    · obtain rfl : j = 12 := by omega
      rw [decide_eq_false hlt] at k3
      have t1 : (FloatKind.f64.format.order zk 4607182418800017408 == some .gt || FloatKind.f64.format.order zk 4607182418800017408 == some .eq) = false := k3
      have HP := Lib.hid (p_b HBT.out 12 (Nat.le_refl _))
      clear k1 k2 k3 hzk
      obtain ⟨pp, hpp⟩ : ∃ p, p = pL tt 12 := ⟨_, rfl⟩
      rw [← hpp] at HP c2 ⊢
      clear hpp
      go_wp2_with fail
      clear t1
      go_loop [4, 27] (fun pv i => ∃ n : Nat, n ≤ 8 ∧ pv = .float .f64 (sqL pp n) ∧ i = .int .i64 n) (fun _ i => 8 - (intOf i).toNat)
      case atStart => exact ⟨0, by omega, by rw [sqL_zero], rfl⟩
      case round =>
        obtain ⟨n, hn, rfl, rfl⟩ := hrel
        by_cases hl8 : n < 8
        · have e1 := fun (t : TypeId) (w : World) => run_dmul (P := Try.prog) t ((sq_b HP.out n hn).2 hl8) w
          have HN := Lib.hid (sqL_succ pp n)
          go_wp2_with fail
          go_round
          case rel => exact ⟨n + 1, by omega, by rw [HN.out], by go_num⟩
          case measure => simp [intOf]; omega
        · obtain rfl : n = 8 := by omega
          go_wp2_with fail
          go_ret
          exact ⟨rfl, rfl⟩
set_option maxRecDepth 100000 in
set_option maxHeartbeats 1600000 in
theorem spec_expW {x : Nat} (h : BD 16 0 x) (w : World) : Calls Try.prog 21 #[.float .f64 x] w fun e w' => e = .returned (.float .f64 (expG x)) ∧ w = w' := by
  obtain ⟨t0, t1, t2⟩ := exp_tests h
  have f0 : (FloatKind.f64.format.order x x != some .eq) = false := t0
  have f1 : (FloatKind.f64.format.order x 4641240890982006784 == some .gt) = false := t1
  have f2 : (FloatKind.f64.format.order x 13864612927836782592 == some .lt) = false := t2
  obtain ⟨o1, bt⟩ := expT_ok h
  have e1 := fun (t : TypeId) (w : World) => run_ddiv (P := Try.prog) t o1 w
  obtain ⟨tt, htt⟩ : ∃ t, t = expT x := ⟨_, rfl⟩
  rw [show ddiv x 4643211215818981376 = tt by rw [htt]; unfold expT; rfl] at e1
  rw [← htt] at bt
  have HBT := Lib.hid bt
  have HG := Lib.hid (show expG x = sqL (pL tt 12) 8 by rw [htt]; unfold expG; rfl)
  clear t0 t1 t2 o1 htt bt h
  go_enter Try.func21, Try.ntmps21
  go_wp2_with fail
  clear e1 f0 f1 f2
  go_loop [4, 5] (fun pv kv => ∃ j : Nat, j ≤ 12 ∧ pv = .float .f64 (pL tt j) ∧ kv = .int .i64 (12 - (j : Int))) (fun _ kv => (intOf kv + 5).toNat)
  case atStart => exact ⟨0, by omega, by rw [pL_zero], rfl⟩
  case round =>
    obtain ⟨j, hj, rfl, rfl⟩ := hrel
    by_cases hlt : j < 12
    · obtain ⟨s1, s2, s3, _⟩ := p_step HBT.out hlt (p_b HBT.out j hj)
      obtain ⟨kk, hkk⟩ : ∃ k : Int, k = 12 - (j : Int) := ⟨_, rfl⟩
      rw [← hkk] at s2 s3 ⊢
      obtain ⟨zk, hzk⟩ : ∃ z, z = eD kk := ⟨_, rfl⟩
      have HN := Lib.hid (show dadd 4607182418800017408 (ddiv (dmul tt (pL tt j)) zk) = pL tt (j + 1) by rw [hzk, hkk, pL])
      have e0 : floatOfInt .f64 kk = zk := hzk.symm
      rw [← hzk] at s2 s3
      have e1 := fun (t : TypeId) (w : World) => run_dmul (P := Try.prog) t s1 w
      have e2 := fun (t : TypeId) (w : World) => run_ddiv (P := Try.prog) t s2 w
      have e3 := fun (t : TypeId) (w : World) => run_dadd (P := Try.prog) t s3 w
      have hk1 : 1 ≤ kk := by omega
      have hk2 : kk ≤ 12 := by omega
      have HKK := Lib.hid hkk
      clear s1 s2 s3 hkk hzk
      go_wp2_with fail
      go_round
      case rel => exact ⟨j + 1, by omega, by rw [← HN.out], by rw [HKK.out]; go_num⟩
      case measure => simp [intOf] <;> omega
    · obtain rfl : j = 12 := by omega
      have HP := Lib.hid (p_b HBT.out 12 (Nat.le_refl _))
      obtain ⟨pp, hpp⟩ : ∃ p, p = pL tt 12 := ⟨_, rfl⟩
      rw [← hpp] at HP HG ⊢
      clear hpp
      go_wp2_with fail
      go_loop [4, 6] (fun pv i => ∃ n : Nat, n ≤ 8 ∧ pv = .float .f64 (sqL pp n) ∧ i = .int .i64 n) (fun _ i => 8 - (intOf i).toNat)
      case atStart => exact ⟨0, by omega, by rw [sqL_zero], rfl⟩
      case round =>
        obtain ⟨n, hn, rfl, rfl⟩ := hrel
        by_cases hl8 : n < 8
        · have e1 := fun (t : TypeId) (w : World) => run_dmul (P := Try.prog) t ((sq_b HP.out n hn).2 hl8) w
          have HN := Lib.hid (sqL_succ pp n)
          go_wp2_with fail
          go_round
          case rel => exact ⟨n + 1, by omega, by rw [HN.out], by go_num⟩
          case measure => simp [intOf]; omega
        · obtain rfl : n = 8 := by omega
          go_wp2_with fail
          go_ret
          exact ⟨by rw [HG.out]; rfl, rfl⟩
theorem spec_exp {x : Nat} (h : BS 16 0 x) (w : World) : Calls Try.prog 12 #[.float .f32 x] w fun e w' => e = .returned (.float .f32 (expR x)) ∧ w = w' := by
  have c1 := conv_ok (F_nan h.fi)
  have HW := Lib.hid (wide16 h)
  have HR := Lib.hid (expR_ok h).1
  clear h
  go_enter Try.func12, Try.ntmps12
  go_wp2_with (first | (go_at_call 21; refine (spec_expW HW.out _).mono ?_; rintro e w' ⟨rfl, rfl⟩) | (go_at_call 18; refine (l01Narrow_is HR.out _).mono ?_; rintro e w' ⟨rfl, rfl⟩))
  go_ret
  exact ⟨rfl, rfl⟩
/-! ### the reference's test of a result -/
theorem trsub_zero {b : Nat} (h : F b) : okS b b ∧ (FloatKind.f32.format.order (fsub b b) 0 == some .eq) = true := by
  obtain ⟨r, neg, h1, h2, _⟩ := sub_res h h
  obtain ⟨a, c⟩ := okS_of h1
  refine ⟨a, ?_⟩
  rw [c]
  have h3 : rk r ≤ 0 := h2.le 0 (by rw [s_inf]; decide) (by rw [Int.sub_self]; exact Nat.zero_le _)
  have h4 : mag r = 0 := by rw [mag_eq, Nat.le_zero.1 h3]; rfl
  have hv : val r = 0 := by have := val_abs r; omega
  have ho := order_fin (F_iff.2 (by omega : rk r < 2139095040)) F_zero
  rw [hv, val_zero] at ho
  show (Ieee.single.order r 0 == some .eq) = true
  rw [ho]; rfl
theorem tr_l01Finite (b : Nat) (w : World) (h : F b) : Calls Try.prog 20 #[.float .f32 b] w fun e w' => e = .returned (.bool true) ∧ w = w' := by
  obtain ⟨o, z⟩ := trsub_zero h
  have e1 := fun (t : TypeId) (w : World) => run_fsub (P := Try.prog) t o w
  clear o h
  go_enter Try.func20, Try.ntmps20
  go_wp2_with fail
  go_ret
  exact ⟨rfl, rfl⟩
theorem tr_l02Number (b : Nat) (w : World) (h : F b) : Calls Try.prog 11 #[.float .f32 b] w fun e w' => e = .returned (.tuple #[.float .f32 b, .bool true]) ∧ w = w' := by
  go_enter Try.func11, Try.ntmps11
  go_wp2_with (go_at_call 20; refine (tr_l01Finite _ _ h).mono ?_; rintro e w' ⟨rfl, rfl⟩)
  go_ret2
  exact ⟨rfl, rfl⟩
def TrEnds (W : World) (rs : List Int) (E : Ending) (w' : World) : Prop := E = .returned (.tuple #[.float .f32 (TimeReturn_r0 rs), .bool (TimeReturn_r1 rs)]) ∧ Below W.heap.size W w'
theorem tr_no {W w' : World} {rs : List Int} (h : trOk rs = false) (hb : Below W.heap.size W w') : TrEnds W rs (.returned (.tuple #[.float .f32 0, .bool false])) w' := by
  unfold TrEnds TimeReturn_r0 TimeReturn_r1; rw [h]; exact ⟨rfl, hb⟩
theorem tr_yes {W w' : World} {rs : List Int} (h : trOk rs = true) (hb : Below W.heap.size W w') : TrEnds W rs (.returned (.tuple #[.float .f32 (trV rs), .bool true])) w' := by
  unfold TrEnds TimeReturn_r0 TimeReturn_r1; rw [h]; exact ⟨rfl, hb⟩
attribute [local irreducible] lgR expR
set_option maxRecDepth 100000 in
set_option maxHeartbeats 1600000 in
theorem impl_TimeReturn (A : Option Addr) (n c : Nat) (rs : List Int) (w : World) (hr : Rd w w.heap.size 1 A n (ints rs)) (hn : n ≤ 1048576) (hz : I64s rs) :
    Calls Try.prog 6 #[.slice A n c] w (TrEnds w rs) := by
  have HL := Lib.hid hr.ilen
  have hn2 : n ≤ 2097152 := by omega
  cases h : trOk rs
  · have hfin := Lib.hid (fun w' => tr_no (W := w) (w' := w') h)
    have h' : cntIn rs 1 60 (-9999) 10000 = false := h
    clear h
    go_enter Try.func6, Try.ntmps6
    go_wp2_with (go_at_call 13; refine (areReturns_any _ _ _ rs _ hr hn2).mono ?_; rintro e w1 ⟨rfl, hb⟩; have hr1 := hr.on hb)
    go_ret2
    exact hfin.out _ hb
  have h' : cntIn rs 1 60 (-9999) 10000 = true := h
  obtain ⟨hv, hl, h1⟩ := tr_parts h
  have hn60 : n ≤ 60 := by have := HL.out; omega
  have hfin := Lib.hid (fun w' => tr_yes (W := w) (w' := w') h)
  have HV := Lib.hid hv
  have HSB := Lib.hid (sum_b hv hl)
  obtain ⟨mo, mb⟩ := mean_b hv hl h1
  have HMO := Lib.hid mo
  have HMB := Lib.hid mb
  clear h hv hl h1 hz mo mb
  go_enter Try.func6, Try.ntmps6
  go_wp2_with (go_at_call 13; refine (areReturns_any _ _ _ rs _ hr hn2).mono ?_; rintro e w1 ⟨rfl, hb⟩; have hr1 := hr.on hb)
  have HR1 := Lib.hid hr1
  have HB := Lib.hid hb
  clear hr1 hb h' hr
  go_loop [4, 6, 12] (fun s _ i => ∃ k : Nat, k ≤ n ∧ s = .float .f32 (sumL rs k) ∧ i = .int .i64 k) (fun _ _ i => n - (intOf i).toNat)
  case atStart => exact ⟨0, by omega, by rw [sumL_zero], rfl⟩
  case round =>
    obtain ⟨k, hk, rfl, rfl⟩ := hrel
    by_cases hlt : k < n
    · obtain ⟨ad, rfl, hc⟩ := HR1.out.int hlt
      have hkl : k < rs.length := by have := HL.out; omega
      have hm := HV.out _ (getD_mem (zs := rs) (k := k) hkl)
      have HST := Lib.hid (sumL_succ rs k)
      have o3 := (HSB.out k (by omega)).2 hkl
      obtain ⟨x, hx⟩ : ∃ x, x = rs[k]?.getD 0 := ⟨_, rfl⟩
      rw [← hx] at hc hm HST o3
      obtain ⟨o1, o2, _, _⟩ := rate_ok hm
      have e1 := fun (t : TypeId) (w : World) => run_fdiv (P := Try.prog) t o1 w
      have e2 := fun (t : TypeId) (w : World) => run_fadd (P := Try.prog) t o2 w
      rw [← rateX_is] at e2
      have e3 := fun (t : TypeId) (w : World) => run_fadd (P := Try.prog) t o3 w
      have HX := Lib.hid hm
      have i1 : (0 : Int) ≤ k := by omega
      have i2 : (k : Int) < n := by omega
      clear hm o1 o2 o3 hx hkl
      go_wp2_with (go_at_call 14; refine (impl_lg HX.out _).mono ?_; rintro e w' ⟨rfl, rfl⟩)
      go_round
      case rel => exact ⟨k + 1, by omega, by rw [HST.out], by go_num⟩
      case measure => simp [intOf]; omega
    · obtain rfl : n = k := by omega
      have hln := HL.out
      have e1 := fun (t : TypeId) (w : World) => run_fdiv (P := Try.prog) t HMO.out w
      rw [← meanL_is, hln] at e1
      have hb3 := expR_ok HMB.out
      obtain ⟨o4, hf4⟩ := trV_ok hb3.2
      have e2 := fun (t : TypeId) (w : World) => run_fsub (P := Try.prog) t o4 w
      have HF := Lib.hid hf4
      have HE := Lib.hid (show fsub (expR (meanL rs)) 1065353216 = trV rs from rfl)
      clear hb3 o4 hf4 hln
      go_wp2_with (first | (go_at_call 16; refine (impl_exp HMB.out _).mono ?_; rintro e w' ⟨rfl, rfl⟩) | (go_at_call 15; refine (finite_yes _ _ HF.out).mono ?_; rintro e w' ⟨rfl, rfl⟩))
      go_ret2
      exact hfin.out _ HB.out
set_option maxRecDepth 100000 in
set_option maxHeartbeats 1600000 in
theorem spec_TimeReturn (A : Option Addr) (n c : Nat) (rs : List Int) (w : World) (hr : Rd w w.heap.size 1 A n (ints rs)) (hn : n ≤ 1048576) (hz : I64s rs) :
    Calls Try.prog 4 #[.slice A n c] w (TrEnds w rs) := by
  have HL := Lib.hid hr.ilen
  have hn2 : n ≤ 2097152 := by omega
  cases h : trOk rs
  · have hfin := Lib.hid (fun w' => tr_no (W := w) (w' := w') h)
    have h' : cntIn rs 1 60 (-9999) 10000 = false := h
    clear h
    go_enter Try.func4, Try.ntmps4
    go_wp2_with (go_at_call 9; refine (l06Rates_any _ _ _ rs _ hr hn2).mono ?_; rintro e w' ⟨rfl, rfl⟩; have hb := Below.refl w.heap.size w; have hr1 := hr)
    go_ret2
    exact hfin.out _ hb
  have h' : cntIn rs 1 60 (-9999) 10000 = true := h
  obtain ⟨hv, hl, h1⟩ := tr_parts h
  have hn60 : n ≤ 60 := by have := HL.out; omega
  have hfin := Lib.hid (fun w' => tr_yes (W := w) (w' := w') h)
  have HV := Lib.hid hv
  have HSB := Lib.hid (sum_b hv hl)
  obtain ⟨mo, mb⟩ := mean_b hv hl h1
  have HMO := Lib.hid mo
  have HMB := Lib.hid mb
  clear h hv hl h1 hz mo mb
  go_enter Try.func4, Try.ntmps4
  go_wp2_with (go_at_call 9; refine (l06Rates_any _ _ _ rs _ hr hn2).mono ?_; rintro e w' ⟨rfl, rfl⟩; have hb := Below.refl w.heap.size w; have hr1 := hr)
  have HR1 := Lib.hid hr1
  have HB := Lib.hid hb
  clear hr1 hb h' hr
  go_loop [4, 5] (fun s i => ∃ k : Nat, k ≤ n ∧ s = .float .f32 (sumL rs k) ∧ i = .int .i64 k) (fun _ i => n - (intOf i).toNat)
  case atStart => exact ⟨0, by omega, by rw [sumL_zero], rfl⟩
  case round =>
    obtain ⟨k, hk, rfl, rfl⟩ := hrel
    by_cases hlt : k < n
    · obtain ⟨ad, rfl, hc⟩ := HR1.out.int hlt
      have hkl : k < rs.length := by have := HL.out; omega
      have hm := HV.out _ (getD_mem (zs := rs) (k := k) hkl)
      have HST := Lib.hid (sumL_succ rs k)
      have o3 := (HSB.out k (by omega)).2 hkl
      obtain ⟨x, hx⟩ : ∃ x, x = rs[k]?.getD 0 := ⟨_, rfl⟩
      rw [← hx] at hc hm HST o3
      obtain ⟨o1, o2, _, _⟩ := rate_ok hm
      have e1 := fun (t : TypeId) (w : World) => run_fdiv (P := Try.prog) t o1 w
      have e2 := fun (t : TypeId) (w : World) => run_fadd (P := Try.prog) t o2 w
      rw [← rateX_is] at e2
      have e3 := fun (t : TypeId) (w : World) => run_fadd (P := Try.prog) t o3 w
      have HX := Lib.hid hm
      have i1 : (0 : Int) ≤ k := by omega
      have i2 : (k : Int) < n := by omega
      clear hm o1 o2 o3 hx hkl
      go_wp2_with (go_at_call 10; refine (spec_lg HX.out _).mono ?_; rintro e w' ⟨rfl, rfl⟩)
      go_round
      case rel => exact ⟨k + 1, by omega, by rw [HST.out], by go_num⟩
      case measure => simp [intOf]; omega
    · obtain rfl : n = k := by omega
      have hln := HL.out
      have e1 := fun (t : TypeId) (w : World) => run_fdiv (P := Try.prog) t HMO.out w
      rw [← meanL_is, hln] at e1
      have hb3 := expR_ok HMB.out
      obtain ⟨o4, hf4⟩ := trV_ok hb3.2
      have e2 := fun (t : TypeId) (w : World) => run_fsub (P := Try.prog) t o4 w
      have HF := Lib.hid hf4
      have HE := Lib.hid (show fsub (expR (meanL rs)) 1065353216 = trV rs from rfl)
      clear hb3 o4 hf4 hln
      go_wp2_with (first | (go_at_call 12; refine (spec_exp HMB.out _).mono ?_; rintro e w' ⟨rfl, rfl⟩) | (go_at_call 11; refine (tr_l02Number _ _ HF.out).mono ?_; rintro e w' ⟨rfl, rfl⟩))
      go_ret2
      exact hfin.out _ HB.out
end Go.Proofs.Ytcbdjkonhnafcaa
