/-
  TimeReturn: the walks: the logarithm and the exponential function of both programs.
-/
import Derived.Test.YtcbdjkonhnafcaaTr
namespace Go.Proofs.Ytcbdjkonhnafcaa
open Fl
open Go.ChangeShapes Go.WideShapes Go.ChangeAt Go.RowKit
set_option linter.unusedVariables false
set_option linter.unusedSimpArgs false
attribute [local irreducible] logG expG narrow wide dadd dsub dmul ddiv fadd fsub fmul fdiv ge15 lt75 redU redD floatOfInt qL pL sqL logS logQ logE expT eIdx kIdx xIdx

theorem run_any (op : BinOp) (k : FloatKind) (x y : Nat) {r : Nat} (h : floatBits op k x y = some r) (t : TypeId) (w : World) : (binOp op t (.float k x) (.float k y)).run Try.prog w = .ok (.float k r) w := run_float_arith w op t k x y r h
set_option maxRecDepth 100000 in
set_option maxHeartbeats 1600000 in
theorem impl_log (x0 : Nat) (h : Nr x0 2 0 14) (w : World) : Calls Try.prog 26 #[.float .f64 x0] w fun e w' => e = .returned (.float .f64 (logG x0)) ∧ w = w' := by
  go_enter Try.func26, Try.ntmps26
  go_wp2_with fail
  go_loop [0, 3] (fun x e => ∃ (f y z : Nat) (q : Int), x = .float .f64 y ∧ e = .float .f64 z ∧ z = eD q ∧ redU 2 x0 0 = redU f y q ∧ U1 f y q) (fun _ e => eIdx e)
  case atStart => exact ⟨2, x0, 0, 0, rfl, rfl, e_zero.symm, rfl, .inl ⟨rfl, rfl, h⟩⟩
  case round =>
    obtain ⟨f, y, z, q, rfl, rfl, hz, hr, hU⟩ := hrel
    cases hg : ge15 y
    case true =>
      obtain ⟨ok, hq, hst, hU2⟩ := hU.step hg
      have HR := Lib.hid (hr.trans hst)
      have HU := Lib.hid hU2
      have HM := Lib.hid (show eIdx (.float .f64 (eD (q + 1))) < eIdx (.float .f64 z) by rw [hz, hq, eIdx_at (by omega), eIdx_at (by omega)]; omega)
      have e1 := fun (t : TypeId) (w : World) => run_ddiv (P := Try.prog) t ok w
      have e2 := run_any .add .f64 z 4607182418800017408 (r := eD (q + 1)) (by rw [hz, hq]; exact e_up)
      have t1 : (FloatKind.f64.format.order y 4609434218613702656 == some .gt || FloatKind.f64.format.order y 4609434218613702656 == some .eq) = true := by unfold ge15 at hg; exact hg
      obtain ⟨z2, hz2⟩ : ∃ z2, z2 = eD (q + 1) := ⟨_, rfl⟩
      rw [← hz2] at HM e2
      have HZ := Lib.hid hz2
      clear ok hq hst hU2 hr hU hz hg hz2
      go_wp2_with fail
      go_round
      case rel => exact ⟨f - 1, _, z2, q + 1, rfl, rfl, HZ.out, HR.out, HU.out⟩
      case measure => exact HM.out
    case false =>
    obtain ⟨hst, hD⟩ := hU.stop hg
    have HRU := Lib.hid (hr.trans hst)
    have HD := Lib.hid hD
    have HZ0 := Lib.hid hz
    have t1 : (FloatKind.f64.format.order y 4609434218613702656 == some .gt || FloatKind.f64.format.order y 4609434218613702656 == some .eq) = false := by unfold ge15 at hg; exact hg
    clear hr hU hst hD hz hg
    go_wp2_with fail
    clear t1
    go_loop [0, 3] (fun x e => ∃ (f2 y2 z2 : Nat) (q2 : Int), x = .float .f64 y2 ∧ e = .float .f64 z2 ∧ z2 = eD q2 ∧ redD 15 y q = redD f2 y2 q2 ∧ D1 f2 y2 q2) (fun _ e => 20 - eIdx e)
    case atStart => exact ⟨15, y, z, q, rfl, rfl, HZ0.out, rfl, HD.out⟩
    case round =>
      clear HD HZ0
      obtain ⟨f2, y2, z2, q2, rfl, rfl, hz, hr, hU⟩ := hrel
      cases hg : lt75 y2
      case true =>
        obtain ⟨ok, hq, hst, hU2⟩ := hU.step hg
        have HR := Lib.hid (hr.trans hst)
        have HU := Lib.hid hU2
        have HM := Lib.hid (show 20 - eIdx (.float .f64 (eD (q2 - 1))) < 20 - eIdx (.float .f64 z2) by rw [hz, eIdx_at (by omega), eIdx_at (by omega)]; omega)
        have e1 := fun (t : TypeId) (w : World) => run_dmul (P := Try.prog) t ok w
        have e2 := run_any .sub .f64 z2 4607182418800017408 (r := eD (q2 - 1)) (by rw [hz]; exact e_down hq)
        have t1 : (FloatKind.f64.format.order y2 4604930618986332160 == some .lt) = true := by unfold lt75 at hg; exact hg
        obtain ⟨z3, hz3⟩ : ∃ z3, z3 = eD (q2 - 1) := ⟨_, rfl⟩
        rw [← hz3] at HM e2
        have HZ := Lib.hid hz3
        clear ok hq hst hU2 hr hU hz hg hz3
        go_wp2_with fail
        go_round
        case rel => exact ⟨f2 - 1, _, z3, q2 - 1, rfl, rfl, HZ.out, HR.out, HU.out⟩
        case measure => exact HM.out
      case false =>
      obtain ⟨hst, hb, hl, he⟩ := hU.stop hg
      have HFIN := Lib.hid (logG_is HRU.out (hr.trans hst))
      have t1 : (FloatKind.f64.format.order y2 4604930618986332160 == some .lt) = false := by unfold lt75 at hg; exact hg
      obtain ⟨o1, o2, o3, _, o5, bu⟩ := logS_ok hb hl
      obtain ⟨o6, o7, o8, o9, _⟩ := logE_ok hb hl he
      have e1 := fun (t : TypeId) (w : World) => run_dsub (P := Try.prog) t o1 w
      have e2 := fun (t : TypeId) (w : World) => run_dadd (P := Try.prog) t o2 w
      have e3 := fun (t : TypeId) (w : World) => run_ddiv (P := Try.prog) t o3 w
      obtain ⟨s, hs⟩ : ∃ s, s = logS y2 := ⟨_, rfl⟩
      have hs' : ddiv (dsub y2 4607182418800017408) (dadd y2 4607182418800017408) = s := by rw [hs]; unfold logS; rfl
      rw [hs'] at e3
      rw [← hs] at o5 bu o6 o7 o9
      have e4 := fun (t : TypeId) (w : World) => run_dmul (P := Try.prog) t o5 w
      obtain ⟨u, hu⟩ : ∃ u, u = dmul s s := ⟨_, rfl⟩
      rw [← hu] at bu e4
      have hq13 : qL u 13 = logQ y2 := by rw [hu, hs]; unfold logQ; rfl
      rw [← hq13] at o6 o7 o9
      rw [← hz] at o8 o9
      have HBU := Lib.hid bu
      have O6 := Lib.hid o6
      have O7 := Lib.hid o7
      have O8 := Lib.hid o8
      have O9 := Lib.hid o9
      have HE := Lib.hid (show dadd (dmul 4611686018427387904 (dmul s (qL u 13))) (dmul z2 4604418534313441775) = logG x0 by rw [HFIN.out, hq13, hz, hs]; unfold logE; rfl)
      clear hst hb hl he hr hU hg o1 o2 o3 o5 o6 o7 o8 o9 hs hs' hu hq13 bu hz
      go_wp2_with fail
      clear t1 e1 e2 e3 e4
      go_loop [6, 7] (fun qv kv => ∃ (j zk : Nat), j ≤ 13 ∧ qv = .float .f64 (qL u j) ∧ kv = .float .f64 zk ∧ zk = eD (25 - 2 * (j : Int))) (fun _ kv => 14 - kIdx kv)
      case atStart => exact ⟨0, 4627730092099895296, by omega, by unfold qL; rfl, rfl, k_25.symm⟩
      case round =>
        obtain ⟨j, zk, hj, rfl, rfl, hzk⟩ := hrel
        obtain ⟨k1, k2, k3⟩ := k_at (show j < 14 by omega)
        rw [← hzk] at k1 k2 k3
        by_cases hlt : j < 13
        · rw [decide_eq_true hlt] at k3
          obtain ⟨s1, s2, s3, _⟩ := q_step HBU.out hlt (q_b HBU.out j hj)
          rw [← hzk] at s1 s3
          have t1 : (FloatKind.f64.format.order zk 4607182418800017408 == some .gt || FloatKind.f64.format.order zk 4607182418800017408 == some .eq) = true := k3
          have e1 := fun (t : TypeId) (w : World) => run_ddiv (P := Try.prog) t s1 w
          have e2 := fun (t : TypeId) (w : World) => run_dmul (P := Try.prog) t s2 w
          have e3 := fun (t : TypeId) (w : World) => run_dadd (P := Try.prog) t s3 w
          have e4 := run_any .sub .f64 zk 4611686018427387904 k2
          have HN := Lib.hid (show dadd (ddiv 4607182418800017408 zk) (dmul u (qL u j)) = qL u (j + 1) by rw [hzk, qL])
          obtain ⟨z4, hz4⟩ : ∃ z4, z4 = eD (25 - 2 * (j : Int) - 2) := ⟨_, rfl⟩
          rw [← hz4] at e4
          have hz5 : z4 = eD (25 - 2 * ((j + 1 : Nat) : Int)) := by rw [hz4]; congr 1; omega
          have HM := Lib.hid (show 14 - kIdx (.float .f64 z4) < 14 - kIdx (.float .f64 zk) by rw [hz5, (k_at (show j + 1 < 14 by omega)).1, k1]; omega)
          have HZ := Lib.hid hz5
          clear k1 k2 k3 s1 s2 s3 hz4 hz5 hzk
          go_wp2_with fail
          go_round
          case rel => exact ⟨j + 1, z4, by omega, by rw [← HN.out], rfl, HZ.out⟩
          case measure => exact HM.out
        · obtain rfl : j = 13 := by omega
          rw [decide_eq_false hlt] at k3
          have t1 : (FloatKind.f64.format.order zk 4607182418800017408 == some .gt || FloatKind.f64.format.order zk 4607182418800017408 == some .eq) = false := k3
          have e1 := fun (t : TypeId) (w : World) => run_dmul (P := Try.prog) t O6.out w
          have e2 := fun (t : TypeId) (w : World) => run_dmul (P := Try.prog) t O7.out w
          have e3 := fun (t : TypeId) (w : World) => run_dmul (P := Try.prog) t O8.out w
          have e4 := fun (t : TypeId) (w : World) => run_dadd (P := Try.prog) t O9.out w
          clear k1 k2 k3 hzk
          go_wp2_with fail
          go_ret
          exact ⟨by rw [← HE.out]; rfl, rfl⟩
set_option maxRecDepth 100000 in
theorem isInf_pos (r : Nat) (w : World) (h : (Ieee.double.order r 9218868437227405311 == some .gt) = false) : Calls Try.prog 27 #[.float .f64 r, .int .i64 1] w fun e w' => e = .returned (.bool false) ∧ w = w' := by
  have f1 : (FloatKind.f64.format.order r 9218868437227405311 == some .gt) = false := h
  clear h
  go_enter Try.func27, Try.ntmps27
  go_wp2_with fail
  go_ret
  exact ⟨rfl, rfl⟩
set_option maxRecDepth 100000 in
set_option maxHeartbeats 1600000 in
theorem spec_log (x0 : Nat) (h : Nr x0 2 0 14) (w : World) : Calls Try.prog 19 #[.float .f64 x0] w fun e w' => e = .returned (.float .f64 (logG x0)) ∧ w = w' := by
  obtain ⟨q1, q2, q3, q4⟩ := wide_tests h
  have f1 : (FloatKind.f64.format.order x0 x0 != some .eq) = false := q1
  have f2 : (FloatKind.f64.format.order x0 0 == some .lt) = false := q2
  have f3 : (FloatKind.f64.format.order x0 0 == some .eq) = false := q3
  have HI := Lib.hid q4
  clear q1 q2 q3 q4
  go_enter Try.func19, Try.ntmps19
  go_wp2_with (go_at_call 27; refine (isInf_pos x0 _ HI.out).mono ?_; rintro e w' ⟨rfl, rfl⟩)
  clear f1 f2 f3
  go_loop [0, 3] (fun x e => ∃ (f y : Nat) (q : Int), x = .float .f64 y ∧ e = .int .i64 q ∧ redU 2 x0 0 = redU f y q ∧ U1 f y q) (fun _ e => (2 - intOf e).toNat)
  case atStart => exact ⟨2, x0, 0, rfl, rfl, rfl, .inl ⟨rfl, rfl, h⟩⟩
  case round =>
    obtain ⟨f, y, q, rfl, rfl, hr, hU⟩ := hrel
    cases hg : ge15 y
    case true =>
      obtain ⟨ok, hq, hst, hU2⟩ := hU.step hg
      have HR := Lib.hid (hr.trans hst)
      have HU := Lib.hid hU2
      have e1 := fun (t : TypeId) (w : World) => run_ddiv (P := Try.prog) t ok w
      have t1 : (FloatKind.f64.format.order y 4609434218613702656 == some .gt || FloatKind.f64.format.order y 4609434218613702656 == some .eq) = true := by unfold ge15 at hg; exact hg
      clear ok hst hU2 hr hU hg
      go_wp2_with fail
      go_round
      case rel => exact ⟨f - 1, _, q + 1, rfl, by go_num, HR.out, HU.out⟩
      case measure => simp [intOf] <;> omega
    case false =>
    obtain ⟨hst, hD⟩ := hU.stop hg
    have HRU := Lib.hid (hr.trans hst)
    have HD := Lib.hid hD
    have t1 : (FloatKind.f64.format.order y 4609434218613702656 == some .gt || FloatKind.f64.format.order y 4609434218613702656 == some .eq) = false := by unfold ge15 at hg; exact hg
    clear hr hU hst hD hg
    go_wp2_with fail
    clear t1
    go_loop [0, 3] (fun x e => ∃ (f2 y2 : Nat) (q2 : Int), x = .float .f64 y2 ∧ e = .int .i64 q2 ∧ (-14 ≤ q2 ∧ q2 ≤ 1) ∧ redD 15 y q = redD f2 y2 q2 ∧ D1 f2 y2 q2) (fun _ e => (intOf e + 20).toNat)
    case atStart => exact ⟨15, y, q, rfl, rfl, by obtain ⟨j, h1, h2, _, h3, h4⟩ := HD.out; omega, rfl, HD.out⟩
    case round =>
      clear HD
      obtain ⟨f2, y2, q2, rfl, rfl, hqb, hr, hU⟩ := hrel
      have qb1 := hqb.1
      have qb2 := hqb.2
      cases hg : lt75 y2
      case true =>
        obtain ⟨ok, hq, hst, hU2⟩ := hU.step hg
        have HR := Lib.hid (hr.trans hst)
        have HU := Lib.hid hU2
        have qb3 := hq.1
        have e1 := fun (t : TypeId) (w : World) => run_dmul (P := Try.prog) t ok w
        have t1 : (FloatKind.f64.format.order y2 4604930618986332160 == some .lt) = true := by unfold lt75 at hg; exact hg
        clear ok hq hst hU2 hr hU hg hqb
        go_wp2_with fail
        go_round
        case rel => exact ⟨f2 - 1, _, q2 - 1, rfl, by go_num, by omega, HR.out, HU.out⟩
        case measure => simp [intOf] <;> omega
      case false =>
      obtain ⟨hst, hb, hl, he⟩ := hU.stop hg
      have HFIN := Lib.hid (logG_is HRU.out (hr.trans hst))
      have t1 : (FloatKind.f64.format.order y2 4604930618986332160 == some .lt) = false := by unfold lt75 at hg; exact hg
      obtain ⟨o1, o2, o3, _, o5, bu⟩ := logS_ok hb hl
      obtain ⟨o6, o7, o8, o9, _⟩ := logE_ok hb hl he
      have e1 := fun (t : TypeId) (w : World) => run_dsub (P := Try.prog) t o1 w
      have e2 := fun (t : TypeId) (w : World) => run_dadd (P := Try.prog) t o2 w
      have e3 := fun (t : TypeId) (w : World) => run_ddiv (P := Try.prog) t o3 w
      obtain ⟨s, hs⟩ : ∃ s, s = logS y2 := ⟨_, rfl⟩
      have hs' : ddiv (dsub y2 4607182418800017408) (dadd y2 4607182418800017408) = s := by rw [hs]; unfold logS; rfl
      rw [hs'] at e3
      rw [← hs] at o5 bu o6 o7 o9
      have e4 := fun (t : TypeId) (w : World) => run_dmul (P := Try.prog) t o5 w
      obtain ⟨u, hu⟩ : ∃ u, u = dmul s s := ⟨_, rfl⟩
      rw [← hu] at bu e4
      have hq13 : qL u 13 = logQ y2 := by rw [hu, hs]; unfold logQ; rfl
      rw [← hq13] at o6 o7 o9
      obtain ⟨z2, hz⟩ : ∃ z, z = eD q2 := ⟨_, rfl⟩
      rw [← hz] at o8 o9
      have HZQ := Lib.hid hz
      have HBU := Lib.hid bu
      have O6 := Lib.hid o6
      have O7 := Lib.hid o7
      have O8 := Lib.hid o8
      have O9 := Lib.hid o9
      have HE := Lib.hid (show dadd (dmul 4611686018427387904 (dmul s (qL u 13))) (dmul z2 4604418534313441775) = logG x0 by rw [HFIN.out, hq13, hz, hs]; unfold logE; rfl)
      clear hst hb hl he hr hU hg o1 o2 o3 o5 o6 o7 o8 o9 hs hs' hu hq13 bu hz hqb
      go_wp2_with fail
      clear t1 e1 e2 e3 e4
      go_loop [6, 7] (fun qv kv => ∃ j : Nat, j ≤ 13 ∧ qv = .float .f64 (qL u j) ∧ kv = .int .i64 (25 - 2 * (j : Int))) (fun _ kv => (intOf kv + 5).toNat)
      case atStart => exact ⟨0, by omega, by unfold qL; rfl, rfl⟩
      case round =>
        obtain ⟨j, hj, rfl, rfl⟩ := hrel
        by_cases hlt : j < 13
        · obtain ⟨s1, s2, s3, _⟩ := q_step HBU.out hlt (q_b HBU.out j hj)
          obtain ⟨kk, hkk⟩ : ∃ k : Int, k = 25 - 2 * (j : Int) := ⟨_, rfl⟩
          rw [← hkk] at s1 s3 ⊢
          obtain ⟨zk, hzk⟩ : ∃ z, z = eD kk := ⟨_, rfl⟩
          have HCV := Lib.hid hzk
          have HN := Lib.hid (show dadd (ddiv 4607182418800017408 zk) (dmul u (qL u j)) = qL u (j + 1) by rw [hzk, hkk, qL])
          have e0 : floatOfInt .f64 kk = zk := hzk.symm
          rw [← hzk] at s1 s3
          have e1 := fun (t : TypeId) (w : World) => run_ddiv (P := Try.prog) t s1 w
          have e2 := fun (t : TypeId) (w : World) => run_dmul (P := Try.prog) t s2 w
          have e3 := fun (t : TypeId) (w : World) => run_dadd (P := Try.prog) t s3 w
          have hk1 : 1 ≤ kk := by omega
          have hk2 : kk ≤ 25 := by omega
          have HKK := Lib.hid hkk
          clear s1 s2 s3 hkk hzk
          go_wp2_with fail
          go_round
          case rel => exact ⟨j + 1, by omega, by rw [← HN.out], by rw [HKK.out]; go_num⟩
          case measure => simp [intOf] <;> omega
        · obtain rfl : j = 13 := by omega
          have e0 : floatOfInt .f64 q2 = z2 := HZQ.out.symm
          have e1 := fun (t : TypeId) (w : World) => run_dmul (P := Try.prog) t O6.out w
          have e2 := fun (t : TypeId) (w : World) => run_dmul (P := Try.prog) t O7.out w
          have e3 := fun (t : TypeId) (w : World) => run_dmul (P := Try.prog) t O8.out w
          have e4 := fun (t : TypeId) (w : World) => run_dadd (P := Try.prog) t O9.out w
          go_wp2_with fail
          go_ret
          exact ⟨by rw [← HE.out]; rfl, rfl⟩
end Go.Proofs.Ytcbdjkonhnafcaa
