/-
  SafeDraw: what the program's and the reference's function return.
-/
import Derived.Test.YtneclhkpgalnlaaDraw
namespace Go.Proofs.Ytneclhkpgalnlaa
open Go.ChangeShapes Go.WideShapes Go.ChangeAt Go.RowKit
set_option linter.unusedVariables false

/-- the draw is taken whole in all years -/
def lasts (s : Int) (rs : List Int) (d : Int) : Bool := decide ((drawAt s rs d 1000000000000 rs.length).2 = rs.length)
/-- a search by halves for the greatest that holds -/
def safeIt (p : Int → Bool) : Nat → Int → Int → Int
  | 0, lo, _ => lo
  | f + 1, lo, hi => if lo < hi then (if p ((lo + hi + 1) / 2) then safeIt p f ((lo + hi + 1) / 2) hi else safeIt p f lo ((lo + hi + 1) / 2 - 1)) else lo
theorem safeIt_end (p : Int → Bool) (f : Nat) (lo hi : Int) (h : ¬ lo < hi) : safeIt p f lo hi = lo := by
  cases f with
  | zero => rfl
  | succ f => unfold safeIt; rw [if_neg h]
theorem safeIt_up {p : Int → Bool} {f : Nat} {lo hi m : Int} (h : lo < hi) (hf : hi - lo ≤ f) (hm : m = (lo + hi + 1) / 2) (hp : p m = true) : safeIt p f lo hi = safeIt p (f - 1) m hi := by
  cases f with
  | zero => omega
  | succ f => subst hm; show (if lo < hi then _ else _) = _; rw [if_pos h, if_pos hp]; rfl
theorem safeIt_down {p : Int → Bool} {f : Nat} {lo hi m : Int} (h : lo < hi) (hf : hi - lo ≤ f) (hm : m = (lo + hi + 1) / 2) (hp : p m = false) : safeIt p f lo hi = safeIt p (f - 1) lo (m - 1) := by
  cases f with
  | zero => omega
  | succ f => subst hm; show (if lo < hi then _ else _) = _; rw [if_pos h, hp]; rfl
def safeR (s : Int) (rs : List Int) : Int := safeIt (lasts s rs) s.toNat 0 s
theorem draw_years (s : Int) (rs : List Int) (d M : Int) (k j : Nat) : (drawAt s rs d M (k + j)).2 ≤ (drawAt s rs d M k).2 + j ∧ (drawAt s rs d M k).2 ≤ (drawAt s rs d M (k + j)).2 := by
  induction j with
  | zero => simp
  | succ j ih =>
    have e : drawAt s rs d M (k + (j + 1)) = dStep d M (rs[k + j]?.getD 0) (drawAt s rs d M (k + j)) := rfl
    rw [e]
    unfold dStep
    split <;> simp <;> omega
theorem lasts_not {s : Int} {rs : List Int} {d : Int} {k : Nat} (hk : k < rs.length) (h : ¬ d ≤ (drawAt s rs d 1000000000000 k).1) : lasts s rs d = false := by
  have h1 := (draw_years s rs d 1000000000000 0 k).1
  have h2 := (draw_years s rs d 1000000000000 (k + 1) (rs.length - (k + 1))).1
  have e : drawAt s rs d 1000000000000 (k + 1) = dStep d 1000000000000 (rs[k]?.getD 0) (drawAt s rs d 1000000000000 k) := rfl
  have e2 : (drawAt s rs d 1000000000000 (k + 1)).2 = (drawAt s rs d 1000000000000 k).2 := by rw [e]; unfold dStep; rw [if_neg h]
  have e3 : k + 1 + (rs.length - (k + 1)) = rs.length := by omega
  rw [e3, e2] at h2
  have e4 : (drawAt s rs d 1000000000000 (0 + k)) = drawAt s rs d 1000000000000 k := by rw [Nat.zero_add]
  have e5 : (drawAt s rs d 1000000000000 0).2 = 0 := rfl
  rw [e4, e5] at h1
  unfold lasts
  rw [decide_eq_false_iff_not]
  omega
def safeOk (s : Int) (rs : List Int) : Bool := inB s 0 1000000000 && cntIn rs 1 60 (-9999) 10000
def SafeDraw_r0 (s : Int) (rs : List Int) : Int := if safeOk s rs then safeR s rs else 0
def SafeDraw_r1 (s : Int) (rs : List Int) : Bool := safeOk s rs
theorem safe_no {s : Int} {rs : List Int} (h : safeOk s rs = false) : SafeDraw_r0 s rs = 0 ∧ SafeDraw_r1 s rs = false := by unfold SafeDraw_r0 SafeDraw_r1; rw [h]; exact ⟨rfl, rfl⟩
theorem safe_yes {s : Int} {rs : List Int} (h : safeOk s rs = true) : SafeDraw_r0 s rs = safeR s rs ∧ SafeDraw_r1 s rs = true := by unfold SafeDraw_r0 SafeDraw_r1; rw [h]; exact ⟨rfl, rfl⟩
set_option maxHeartbeats 1600000 in
theorem safe_any (s : Int) (A : Option Addr) (n c : Nat) (rs : List Int) (w : World) (h1 : 0 ≤ s ∧ s ≤ 1000000000) (hr : Rd w w.heap.size 1 A n (ints rs)) (hn : n ≤ 60) (hz : RateIs rs) :
    Calls Try.prog 23 #[.int .i64 s, .slice A n c] w fun e w' => e = .returned (.int .i64 (safeR s rs)) ∧ Below w.heap.size w w' := by
  have HL := Lib.hid hr.ilen
  have HZ := Lib.hid hz
  have hB : Below w.heap.size w w := Below.refl _ _
  clear hz
  go_enter Try.func23, Try.ntmps23
  go_wp2_with fail
  go_loopw [5, 6, 7, 8, 9] (fun a b _ _ _ wr => ∃ (lo hi : Int) (f : Nat), a = .int .i64 lo ∧ b = .int .i64 hi ∧ (0 ≤ lo ∧ lo ≤ hi ∧ hi ≤ s) ∧ hi - lo ≤ f ∧ safeIt (lasts s rs) f lo hi = safeR s rs ∧ Below w.heap.size w wr) (fun a b _ _ _ _ => (intOf b - intOf a).toNat)
  case atStart => exact ⟨0, s, s.toNat, rfl, rfl, by omega, by omega, rfl, hB⟩
  case round =>
    obtain ⟨lo, hi, f, rfl, rfl, hlo, hf, hsafe, hbw⟩ := hrel
    have HS := Lib.hid hsafe
    clear hsafe hB
    by_cases hge : ¬ lo < hi
    · have hlt := hge
      have hfin := Lib.hid (safeIt_end (lasts s rs) f lo hi hlt)
      go_wp2_with fail
      go_ret
      exact ⟨by rw [← HS.out, hfin.out]; rfl, hbw⟩
    have hlt : lo < hi := by omega
    clear hge
    obtain ⟨m, hm⟩ : ∃ m, m = (lo + hi + 1) / 2 := ⟨_, rfl⟩
    have hm1 : lo < m ∧ m ≤ hi := by omega
    have HM := Lib.hid hm
    clear hm
    go_wp2_with fail
    rw [← HM.out]
    refine (drawn_any _ _ _ _ rs _ _ _ (by omega) ((hr.below hbw).more hbw.size) hn HZ.out (by omega) (by omega)).mono ?_
    rintro e w3 ⟨v, rfl, ho, hb⟩
    replace hbw := below_step hbw hb
    clear ho hb
    obtain ⟨y, hy⟩ : ∃ y, y = (drawAt s rs m 1000000000000 rs.length).2 := ⟨_, rfl⟩
    rw [← hy]
    have HY := Lib.hid hy
    clear hy
    by_cases hyn : y = n
    · have hv := Lib.hid (safeIt_up (f := f) hlt hf HM.out (show lasts s rs m = true by unfold lasts; rw [← HY.out, HL.out]; simp [hyn]))
      have hyb := beq_iff_eq.2 hyn
      go_wp2_with fail
      go_roundw
      case rel => exact ⟨m, hi, f - 1, rfl, rfl, by omega, by omega, by rw [← hv.out, HS.out], hbw⟩
      case measure => simp [intOf]; omega
    · have hv := Lib.hid (safeIt_down (f := f) hlt hf HM.out (show lasts s rs m = false by unfold lasts; rw [← HY.out, HL.out]; simp [hyn]))
      have hyb := beq_eq_false_iff_ne.2 hyn
      go_wp2_with fail
      go_roundw
      case rel => exact ⟨lo, m - 1, f - 1, rfl, rfl, by omega, by omega, by rw [← hv.out, HS.out], hbw⟩
      case measure => simp [intOf]; omega
set_option maxHeartbeats 1600000 in
theorem l06Safe_any (s : Int) (A : Option Addr) (n c : Nat) (rs : List Int) (w : World) (h1 : 0 ≤ s ∧ s ≤ 1000000000) (hr : Rd w w.heap.size 1 A n (ints rs)) (hn : n ≤ 60) (hz : RateIs rs) :
    Calls Try.prog 17 #[.int .i64 s, .slice A n c] w fun e w' => e = .returned (.int .i64 (safeR s rs)) ∧ Below w.heap.size w w' := by
  have HL := Lib.hid hr.ilen
  have HZ := Lib.hid hz
  have hB : Below w.heap.size w w := Below.refl _ _
  clear hz
  go_enter Try.func17, Try.ntmps17
  go_wp2_with fail
  go_loopw [5, 6, 7, 8, 9, 10] (fun a b _ _ _ _ wr => ∃ (lo hi : Int) (f : Nat), a = .int .i64 lo ∧ b = .int .i64 hi ∧ (0 ≤ lo ∧ lo ≤ hi ∧ hi ≤ s) ∧ hi - lo ≤ f ∧ safeIt (lasts s rs) f lo hi = safeR s rs ∧ Below w.heap.size w wr) (fun a b _ _ _ _ _ => (intOf b - intOf a).toNat)
  case atStart => exact ⟨0, s, s.toNat, rfl, rfl, by omega, by omega, rfl, hB⟩
  case round =>
    obtain ⟨lo, hi, f, rfl, rfl, hlo, hf, hsafe, hbw⟩ := hrel
    have HS := Lib.hid hsafe
    clear hsafe hB
    by_cases hge : ¬ lo < hi
    · have hlt := hge
      have hfin := Lib.hid (safeIt_end (lasts s rs) f lo hi hlt)
      go_wp2_with fail
      go_ret
      exact ⟨by rw [← HS.out, hfin.out]; rfl, hbw⟩
    have hlt : lo < hi := by omega
    clear hge
    obtain ⟨m, hm⟩ : ∃ m, m = (lo + hi + 1) / 2 := ⟨_, rfl⟩
    have hm1 : lo < m ∧ m ≤ hi := by omega
    have HM := Lib.hid hm
    have hm2 : lo + (hi - lo + 1) / 2 = m := by omega
    clear hm
    go_wp2_with fail
    clear hm2
    obtain ⟨wo, rfl⟩ : ∃ wo : World, wo = wr := ⟨_, rfl⟩
    go_loopw [8, 9, 10] (fun s' g i wi => ∃ (k : Nat) (u : Int) (b : Bool), k ≤ n ∧ i = .int .i64 k ∧ s' = .int .i64 u ∧ g = .bool b ∧ (b = true → (u, (k : Int)) = drawAt s rs m 1000000000000 k ∧ 0 ≤ u ∧ u ≤ 1000000000000) ∧ (b = false → lasts s rs m = false) ∧ wo = wi) (fun _ _ i _ => n - (intOf i).toNat)
    case atStart => exact ⟨0, s, true, Nat.zero_le _, rfl, rfl, rfl, fun _ => ⟨rfl, by omega⟩, (by simp), rfl⟩
    case round =>
      obtain ⟨k, u, b, hk, rfl, rfl, rfl, hT, hF, rfl⟩ := hrel
      cases b
      · have hls := Lib.hid (hF rfl)
        have hv := Lib.hid (safeIt_down (f := f) hlt hf HM.out hls.out)
        clear hT hF
        by_cases hkn : k < n
        · go_wp2_with fail
          go_roundw
          case rel => exact ⟨lo, m - 1, f - 1, rfl, rfl, by omega, by omega, by rw [← hv.out, HS.out], hbw⟩
          case measure => simp [intOf]; omega
        · go_wp2_with fail
          go_roundw
          case rel => exact ⟨lo, m - 1, f - 1, rfl, rfl, by omega, by omega, by rw [← hv.out, HS.out], hbw⟩
          case measure => simp [intOf]; omega
      · obtain ⟨hp, hu⟩ := hT rfl
        have HP := Lib.hid hp
        clear hT hF hp
        by_cases hkn : k < n
        · obtain ⟨ad, rfl, hc⟩ := (hr.below hbw).int hkn
          clear hr
          have by' := HZ.out k (by have := HL.out; omega)
          have hv := Lib.hid (show drawAt s rs m 1000000000000 (k + 1) = dStep m 1000000000000 (rs[k]?.getD 0) (drawAt s rs m 1000000000000 k) from rfl)
          obtain ⟨y, hy⟩ : ∃ y, y = rs[k]?.getD 0 := ⟨_, rfl⟩
          rw [← hy] at hc by'
          have HY := Lib.hid hy
          clear hy
          by_cases hd : m ≤ u
          · have pb := dStep_bd (by omega : 0 ≤ u ∧ u ≤ 1000000000001) (by omega) by' hd
            have hv2 := Lib.hid (show drawAt s rs m 1000000000000 (k + 1) = (min ((u - m) * (10000 + y) / 10000) 1000000000000, (k : Int) + 1) by
              rw [hv.out, ← HP.out, ← HY.out]; unfold dStep; exact if_pos hd)
            have pz : 0 ≤ (u - m) * (10000 + y) / 10000 := by omega
            go_wp2_with fail
            refine (l00Min_any _ _ _).mono ?_
            rintro e w4 ⟨rfl, rfl⟩
            obtain ⟨z, hz'⟩ : ∃ z, z = min 1000000000000 ((u - m) * (10000 + y) / 10000) := ⟨_, rfl⟩
            have hzb : 0 ≤ z ∧ z ≤ 1000000000000 := by omega
            have hv3 := Lib.hid (show (z, ((k + 1 : Nat) : Int)) = drawAt s rs m 1000000000000 (k + 1) by rw [hv2.out, hz', Int.min_comm]; rfl)
            rw [← hz']
            clear hz'
            go_wp2_with fail
            go_roundw
            case rel => exact ⟨k + 1, z, true, by omega, by go_num, rfl, rfl, fun _ => ⟨hv3.out, hzb⟩, (by simp), trivial⟩
            case measure => simp [intOf]; omega
          · have hls := Lib.hid (show lasts s rs m = false from lasts_not (k := k) (by have := HL.out; omega) (by rw [← HP.out]; exact hd))
            have pb := mul_bds 1000000000 20000 (a := u - m) (b := 10000 + y) (by omega) (by omega) (by omega) (by omega)
            go_wp2_with fail
            refine (l00Min_any _ _ _).mono ?_
            rintro e w4 ⟨rfl, rfl⟩
            go_wp2_with fail
            go_roundw
            case rel => exact ⟨k + 1, _, false, by omega, by go_num, rfl, rfl, (by simp), fun _ => hls.out, trivial⟩
            case measure => simp [intOf]; omega
        · obtain rfl : n = k := by omega
          have hls : lasts s rs m = true := by unfold lasts; rw [HL.out, ← HP.out]; simp
          have hv := Lib.hid (safeIt_up (f := f) hlt hf HM.out hls)
          clear hls
          go_wp2_with fail
          go_roundw
          case rel => exact ⟨m, hi, f - 1, rfl, rfl, by omega, by omega, by rw [← hv.out, HS.out], hbw⟩
          case measure => simp [intOf]; omega
theorem impl_SafeDraw (s : Int) (A : Option Addr) (n c : Nat) (rs : List Int) (w : World) (b0 : -9223372036854775808 ≤ s ∧ s ≤ 9223372036854775807) (hr : Rd w w.heap.size 1 A n (ints rs)) (hn : n ≤ 1048576) (hz : I64s rs) :
    Calls Try.prog 13 #[.int .i64 s, .slice A n c] w fun E w' => E = .returned (.tuple #[.int .i64 (SafeDraw_r0 s rs), .bool (SafeDraw_r1 s rs)]) ∧ Below w.heap.size w w' := by
  have HL := Lib.hid hr.ilen
  have hB : Below w.heap.size w w := Below.refl _ _
  rcases Bool.eq_false_or_eq_true (inB s 0 1000000000) with h1 | h1
  case inr =>
    have hno := Lib.hid (safe_no (s := s) (rs := rs) (by simp [safeOk, *]))
    go_enter Try.func13, Try.ntmps13
    go_wp2_with (go_at_call 24; refine (within_any _ _ _ _).mono ?_; rintro e w' ⟨rfl, rfl⟩)
    go_ret2
    exact ⟨by rw [hno.out.1, hno.out.2]; rfl, hB⟩
  rcases Bool.eq_false_or_eq_true (cntIn rs 1 60 (-9999) 10000) with h2 | h2
  case inr =>
    have hno := Lib.hid (safe_no (s := s) (rs := rs) (by simp [safeOk, *]))
    go_enter Try.func13, Try.ntmps13
    go_wp2_with (go_at_call 24; refine (within_any _ _ _ _).mono ?_; rintro e w' ⟨rfl, rfl⟩)
    refine (areReturns_any _ _ _ rs _ ((hr.below hB).more hB.size) (by omega)).mono ?_
    rintro e w2 ⟨rfl, hb⟩
    replace hB := below_step hB hb
    clear hb
    go_wp2_with (go_at_call 24; refine (within_any _ _ _ _).mono ?_; rintro e w' ⟨rfl, rfl⟩)
    go_ret2
    exact ⟨by rw [hno.out.1, hno.out.2]; rfl, hB⟩
  have hyes := Lib.hid (safe_yes (s := s) (rs := rs) (by simp [safeOk, *]))
  have hrate := Lib.hid (rates_is h2)
  have hn60 : n ≤ 60 := by have := (cntIn_iff.1 h2).2.1; have := HL.out; omega
  have c0 := inB_iff.1 h1
  go_enter Try.func13, Try.ntmps13
  go_wp2_with (go_at_call 24; refine (within_any _ _ _ _).mono ?_; rintro e w' ⟨rfl, rfl⟩)
  refine (areReturns_any _ _ _ rs _ ((hr.below hB).more hB.size) (by omega)).mono ?_
  rintro e w2 ⟨rfl, hb⟩
  replace hB := below_step hB hb
  clear hb
  go_wp2_with (go_at_call 24; refine (within_any _ _ _ _).mono ?_; rintro e w' ⟨rfl, rfl⟩)
  refine (safe_any _ _ _ _ rs _ c0 ((hr.below hB).more hB.size) hn60 hrate.out).mono ?_
  rintro e w3 ⟨rfl, hb⟩
  replace hB := below_step hB hb
  go_wp2_with fail
  go_ret2
  exact ⟨by rw [hyes.out.1, hyes.out.2]; rfl, hB⟩
end Go.Proofs.Ytneclhkpgalnlaa
