/-
  VALID PEOPLE: what the program's and the reference's functions return.
-/
import Derived.Test.YtkdiegplbloccaaPeopL
import Derived.Test.YtkdiegplbloccaaTab
import Derived.Deep.QuietTactic
import Derived.BigQuiet
namespace Go.Proofs.Ytkdiegplbloccaa
open Fl
open Go.ChangeShapes Go.WideShapes Go.ChangeAt Go.RowKit
set_option linter.unusedVariables false
set_option linter.unusedSimpArgs false

def leastB (b : Nat) : Bool := finB b && ge0 b
theorem least_lt {b : Nat} (h : finB b = true) : (FloatKind.f32.format.order b 0 == some Ordering.lt) = !ge0 b := by
  have h1 : F b := finB_iff.1 h
  have ho := order_fin h1 F_zero
  show (Ieee.single.order b 0 == some .lt) = !(Ieee.single.order b 0 == some .gt || Ieee.single.order b 0 == some .eq)
  rw [ho]
  cases compare (val b) (val 0) <;> rfl
def numsB (bs : List Nat) : Bool := bs.all leastB
def sharesB (bs : List Nat) : Bool := bs.all shareB
def ValidPeople_r0 (p : Pp) : Bool := decide (2 ≤ p.xs.length) && (decide (p.xs.length ≤ 12) && (decide (p.ys.length = p.xs.length) && (decide (p.zs.length = p.xs.length) && (numsB p.xs && (numsB p.zs && sharesB p.ys)))))
theorem valid_r0 {p q : Pp} (h : Same p q) : ValidPeople_r0 q = ValidPeople_r0 p := by
  unfold ValidPeople_r0; rw [h.x, h.y, h.z]
theorem areNumbersOf1_any (b : Nat) (w : World) : Calls Try.prog 105 #[.float .f32 b] w fun e w' => e = .returned (.bool (!leastB b)) ∧ Below w.heap.size w w' := by
  cases h : finB b
  · have hf := Lib.hid (show leastB b = false by simp [leastB, h])
    have HF := Lib.hid (show ∀ w : World, Calls Try.prog 69 #[.float .f32 b] w fun e w' => e = .returned (.bool false) ∧ Below w.heap.size w w' from fun w => by rw [← h]; exact isFinite_any b w)
    clear h
    go_enter Try.func105, Try.ntmps105
    go_wp2_with (go_at_call 69; refine (HF.out _).mono ?_; rintro e w' ⟨rfl, hb2⟩)
    go_ret
    exact ⟨ret_bool (by rw [hf.out]; rfl), hb2⟩
  · have hl := least_lt h
    have HF := Lib.hid (show ∀ w : World, Calls Try.prog 69 #[.float .f32 b] w fun e w' => e = .returned (.bool true) ∧ Below w.heap.size w w' from fun w => by rw [← h]; exact isFinite_any b w)
    have hf := Lib.hid (show leastB b = ge0 b by simp [leastB, h])
    cases hg : ge0 b
    · rw [hg] at hl
      have HG := Lib.hid hg
      clear h hg
      simp only [Bool.not_false] at hl
      go_enter Try.func105, Try.ntmps105
      go_wp2_with (go_at_call 69; refine (HF.out _).mono ?_; rintro e w' ⟨rfl, hb2⟩)
      go_ret
      exact ⟨ret_bool (by rw [hf.out, HG.out]; first | rfl | simp), hb2⟩
    · rw [hg] at hl
      have HG := Lib.hid hg
      clear h hg
      simp only [Bool.not_true] at hl
      go_enter Try.func105, Try.ntmps105
      go_wp2_with (go_at_call 69; refine (HF.out _).mono ?_; rintro e w' ⟨rfl, hb2⟩)
      go_ret
      exact ⟨ret_bool (by rw [hf.out, HG.out]; first | rfl | simp), hb2⟩
theorem validPeople1_any (b : Nat) (w : World) : Calls Try.prog 65 #[.float .f32 b] w fun e w' => e = .returned (.bool (!shareB b)) ∧ Below w.heap.size w w' := by
  cases h0 : ge0 b
  · have f0 := ge0_is h0
    have hfin := Lib.hid (show shareB b = false by simp [shareB, h0])
    go_enter Try.func65, Try.ntmps65
    go_wp2
    go_ret
    exact ⟨by rw [hfin.out]; rfl, Below.refl _ _⟩
  · cases h1 : le1 b
    · have f0 := ge0_is h0
      have f1 := le1_is h1
      have hfin := Lib.hid (show shareB b = false by simp [shareB, h1])
      go_enter Try.func65, Try.ntmps65
      go_wp2
      go_ret
      exact ⟨by rw [hfin.out]; rfl, Below.refl _ _⟩
    · have f0 := ge0_is h0
      have f1 := le1_is h1
      have hfin := Lib.hid (show shareB b = true by simp [shareB, h0, h1])
      go_enter Try.func65, Try.ntmps65
      go_wp2
      go_ret
      exact ⟨by rw [hfin.out]; rfl, Below.refl _ _⟩
set_option maxHeartbeats 400000 in
theorem index_least (A : Option Addr) (n c : Nat) (bs : List Nat) (w : World) (hr : Rd w w.heap.size 1 A n (flts bs)) (hn : n ≤ 1048576) :
    Calls Try.prog 106 #[.slice A n c, .func (.func 105) #[] #[]] w fun e w' => e = .returned (.int .i64 (findN (fun b => !leastB b) bs)) ∧ Below w.heap.size w w' := by
  have HL := Lib.hid hr.flen
  go_enter Try.func106, Try.ntmps106
  go_wp2
  go_loopw [5, 8] (fun _ i wr => ∃ k : Nat, k ≤ n ∧ i = .int .i64 k ∧ (bs.take k).any (fun b => !leastB b) = false ∧ Below w.heap.size w wr) (fun _ i _ => n - (intOf i).toNat)
  case atStart => exact ⟨0, Nat.zero_le _, rfl, rfl, Below.refl _ _⟩
  case round =>
    obtain ⟨k, hk, rfl, ha, hb⟩ := hrel
    have HA := Lib.hid ha
    clear ha
    by_cases hlt : k < n
    · obtain ⟨ad, rfl, hc⟩ := (hr.below hb).flt hlt
      clear hr
      obtain ⟨b, hbb⟩ : ∃ b, b = bs[k]?.getD 0 := ⟨_, rfl⟩
      rw [← hbb] at hc
      have HB := Lib.hid hbb
      clear hbb
      cases h0 : (fun b => !leastB b) b
      · have hfin := Lib.hid (show (bs.take (k + 1)).any (fun b => !leastB b) = false by
          rw [take_snoc bs k 0 (by have := HL.out; omega), List.any_append, HA.out, ← HB.out]; simp [h0])
        go_wp2_with (go_at_call 105; refine (areNumbersOf1_any b _).mono ?_; rintro e w' ⟨rfl, hb2⟩)
        go_roundw
        case rel => exact ⟨k + 1, by omega, by go_num, hfin.out, below_step hb hb2⟩
        case measure => simp [intOf]; omega
      · have hfin := Lib.hid (findN_hit (p := fun b => !leastB b) 0 HA.out (by have := HL.out; omega) (by rw [← HB.out]; exact h0))
        go_wp2_with (go_at_call 105; refine (areNumbersOf1_any b _).mono ?_; rintro e w' ⟨rfl, hb2⟩)
        go_ret
        exact ⟨by rw [hfin.out]; rfl, below_step hb hb2⟩
    · obtain rfl : n = k := by omega
      have hfin := Lib.hid (findN_miss (p := fun b => !leastB b) (zs := bs) (by have := HA.out; rwa [List.take_of_length_le (by have := HL.out; omega)] at this))
      clear HA
      go_wp2
      go_ret
      exact ⟨by rw [hfin.out]; rfl, hb⟩
theorem contains_least (A : Option Addr) (n c : Nat) (bs : List Nat) (w : World) (hr : Rd w w.heap.size 1 A n (flts bs)) (hn : n ≤ 1048576) :
    Calls Try.prog 64 #[.slice A n c, .func (.func 105) #[] #[]] w fun e w' => e = .returned (.bool (bs.any (fun b => !leastB b))) ∧ Below w.heap.size w w' := by
  have hfin := Lib.hid (findN_nonneg (p := fun b => !leastB b) (zs := bs))
  go_enter Try.func64, Try.ntmps64
  go_wp2_with (go_at_call 106; refine (index_least _ _ _ bs _ hr hn).mono ?_; rintro e w' ⟨rfl, hb2⟩)
  go_ret
  exact ⟨ret_bool (by rw [← hfin.out]), hb2⟩
set_option maxHeartbeats 400000 in
theorem index_shares (A : Option Addr) (n c : Nat) (bs : List Nat) (w : World) (hr : Rd w w.heap.size 1 A n (flts bs)) (hn : n ≤ 1048576) :
    Calls Try.prog 106 #[.slice A n c, .func (.func 65) #[] #[]] w fun e w' => e = .returned (.int .i64 (findN (fun b => !shareB b) bs)) ∧ Below w.heap.size w w' := by
  have HL := Lib.hid hr.flen
  go_enter Try.func106, Try.ntmps106
  go_wp2
  go_loopw [5, 8] (fun _ i wr => ∃ k : Nat, k ≤ n ∧ i = .int .i64 k ∧ (bs.take k).any (fun b => !shareB b) = false ∧ Below w.heap.size w wr) (fun _ i _ => n - (intOf i).toNat)
  case atStart => exact ⟨0, Nat.zero_le _, rfl, rfl, Below.refl _ _⟩
  case round =>
    obtain ⟨k, hk, rfl, ha, hb⟩ := hrel
    have HA := Lib.hid ha
    clear ha
    by_cases hlt : k < n
    · obtain ⟨ad, rfl, hc⟩ := (hr.below hb).flt hlt
      clear hr
      obtain ⟨b, hbb⟩ : ∃ b, b = bs[k]?.getD 0 := ⟨_, rfl⟩
      rw [← hbb] at hc
      have HB := Lib.hid hbb
      clear hbb
      cases h0 : (fun b => !shareB b) b
      · have hfin := Lib.hid (show (bs.take (k + 1)).any (fun b => !shareB b) = false by
          rw [take_snoc bs k 0 (by have := HL.out; omega), List.any_append, HA.out, ← HB.out]; simp [h0])
        go_wp2_with (go_at_call 65; refine (validPeople1_any b _).mono ?_; rintro e w' ⟨rfl, hb2⟩)
        go_roundw
        case rel => exact ⟨k + 1, by omega, by go_num, hfin.out, below_step hb hb2⟩
        case measure => simp [intOf]; omega
      · have hfin := Lib.hid (findN_hit (p := fun b => !shareB b) 0 HA.out (by have := HL.out; omega) (by rw [← HB.out]; exact h0))
        go_wp2_with (go_at_call 65; refine (validPeople1_any b _).mono ?_; rintro e w' ⟨rfl, hb2⟩)
        go_ret
        exact ⟨by rw [hfin.out]; rfl, below_step hb hb2⟩
    · obtain rfl : n = k := by omega
      have hfin := Lib.hid (findN_miss (p := fun b => !shareB b) (zs := bs) (by have := HA.out; rwa [List.take_of_length_le (by have := HL.out; omega)] at this))
      clear HA
      go_wp2
      go_ret
      exact ⟨by rw [hfin.out]; rfl, hb⟩
theorem contains_shares (A : Option Addr) (n c : Nat) (bs : List Nat) (w : World) (hr : Rd w w.heap.size 1 A n (flts bs)) (hn : n ≤ 1048576) :
    Calls Try.prog 64 #[.slice A n c, .func (.func 65) #[] #[]] w fun e w' => e = .returned (.bool (bs.any (fun b => !shareB b))) ∧ Below w.heap.size w w' := by
  have hfin := Lib.hid (findN_nonneg (p := fun b => !shareB b) (zs := bs))
  go_enter Try.func64, Try.ntmps64
  go_wp2_with (go_at_call 106; refine (index_shares _ _ _ bs _ hr hn).mono ?_; rintro e w' ⟨rfl, hb2⟩)
  go_ret
  exact ⟨ret_bool (by rw [← hfin.out]), hb2⟩
theorem any_nums (bs : List Nat) : (!bs.any fun b => !leastB b) = numsB bs := by simp [numsB, List.any_eq_not_all_not]
theorem any_shares (bs : List Nat) : (!bs.any fun b => !shareB b) = sharesB bs := by simp [sharesB, List.any_eq_not_all_not]
theorem areNumbersOf_is {x : Bool} (A : Option Addr) (n c : Nat) (bs : List Nat) (w : World) (hr : Rd w w.heap.size 1 A n (flts bs)) (hn : n ≤ 1048576) (h : numsB bs = x) :
    Calls Try.prog 63 #[.slice A n c] w fun e w' => e = .returned (.bool x) ∧ Below w.heap.size w w' := by
  have hfin := Lib.hid ((any_nums bs).trans h)
  clear h
  go_enter Try.func63, Try.ntmps63
  go_wp2_with (go_at_call 64; refine (contains_least _ _ _ bs _ hr hn).mono ?_; rintro e w' ⟨rfl, hb2⟩)
  go_ret
  exact ⟨ret_bool (by rw [← hfin.out]), hb2⟩
theorem contains_shares_is {x : Bool} (A : Option Addr) (n c : Nat) (bs : List Nat) (w : World) (hr : Rd w w.heap.size 1 A n (flts bs)) (hn : n ≤ 1048576) (h : sharesB bs = x) :
    Calls Try.prog 64 #[.slice A n c, .func (.func 65) #[] #[]] w fun e w' => e = .returned (.bool (!x)) ∧ Below w.heap.size w w' := by
  have h1 : (bs.any fun b => !shareB b) = !x := by rw [← h, ← any_shares, Bool.not_not]
  rw [← h1]
  exact contains_shares A n c bs w hr hn
set_option maxHeartbeats 1600000 in
theorem impl_ValidPeople (p : Pp) (w : World) (hp : PpRd w p) (bp : PpB p) :
    Calls Try.prog 21 #[p.V] w fun e w' => e = .returned (.bool (ValidPeople_r0 p)) ∧ Below w.heap.size w w' := by
  obtain ⟨A, n, c, xs, B, m, d, ys, C, k, e0, zs⟩ := p
  have hbx : PBox (w.alloc (.cells #[.slice A n c, .slice B m d, .slice C k e0] 27)) w.heap.size ⟨A, n, c, xs, B, m, d, ys, C, k, e0, zs⟩ := PBox.new w ⟨A, n, c, xs, B, m, d, ys, C, k, e0, zs⟩ _ rfl
  have hbb := bl_1 (w := w) (.cells #[.slice A n c, .slice B m d, .slice C k e0] 27)
  have hp2 := hp.on hbb
  obtain ⟨r0, r1, r2⟩ := hp2
  obtain ⟨n0, n1, n2, _, _, _⟩ := bp
  dsimp only at r0 r1 r2 n0 n1 n2
  have LX := Lib.hid r0.flen
  have LY := Lib.hid r1.flen
  have LZ := Lib.hid r2.flen
  have R := Lib.hid (And.intro r0 (And.intro r1 r2))
  have HBX := Lib.hid hbx
  have HB := Lib.hid hbb
  have HV := Lib.hid (show ValidPeople_r0 ⟨A, n, c, xs, B, m, d, ys, C, k, e0, zs⟩ = (decide (2 ≤ n) && (decide (n ≤ 12) && (decide (m = n) && (decide (k = n) && (numsB xs && (numsB zs && sharesB ys)))))) by
    unfold ValidPeople_r0; dsimp only; rw [LX.out, LY.out, LZ.out])
  clear hp r0 r1 r2 hbx hbb
  unfold Pp.V
  dsimp only
  by_cases g1 : n < 2
  case pos =>
    have i1 : (n : Int) < 2 := by omega
    have hfin := Lib.hid (show ValidPeople_r0 ⟨A, n, c, xs, B, m, d, ys, C, k, e0, zs⟩ = false by rw [HV.out, decide_eq_false (by omega : ¬ 2 ≤ n)]; rfl)
    go_enter Try.func21, Try.ntmps21
    go_wp2_with fail
    go_ret
    exact ⟨ret_bool hfin.out.symm, bl_1 _⟩
  by_cases g2 : 12 < n
  case pos =>
    have i1 : (12 : Int) < n := by omega
    have i2 : (2 : Int) ≤ n := by omega
    have hfin := Lib.hid (show ValidPeople_r0 ⟨A, n, c, xs, B, m, d, ys, C, k, e0, zs⟩ = false by rw [HV.out, decide_eq_false (by omega : ¬ n ≤ 12)]; simp)
    go_enter Try.func21, Try.ntmps21
    go_wp2_with fail
    go_ret
    exact ⟨ret_bool hfin.out.symm, bl_1 _⟩
  have i2 : (2 : Int) ≤ n := by omega
  have i3 : (n : Int) ≤ 12 := by omega
  by_cases g3 : m = n
  case neg =>
    have i4 : ((m : Int) != (n : Int)) = true := by simp; omega
    have hfin := Lib.hid (show ValidPeople_r0 ⟨A, n, c, xs, B, m, d, ys, C, k, e0, zs⟩ = false by rw [HV.out, decide_eq_false g3]; simp)
    go_enter Try.func21, Try.ntmps21
    go_wp2_with fail
    go_ret
    exact ⟨ret_bool hfin.out.symm, bl_1 _⟩
  by_cases g4 : k = n
  case neg =>
    subst g3
    have i4 : ((k : Int) != (m : Int)) = true := by simp; omega
    have hfin := Lib.hid (show ValidPeople_r0 ⟨A, m, c, xs, B, m, d, ys, C, k, e0, zs⟩ = false by rw [HV.out, decide_eq_false g4]; simp)
    go_enter Try.func21, Try.ntmps21
    go_wp2_with fail
    go_ret
    exact ⟨ret_bool hfin.out.symm, bl_1 _⟩
  subst g3 g4
  have HV2 := Lib.hid (show ValidPeople_r0 ⟨A, k, c, xs, B, k, d, ys, C, k, e0, zs⟩ = (numsB xs && (numsB zs && sharesB ys)) by rw [HV.out, decide_eq_true (by omega : 2 ≤ k), decide_eq_true (by omega : k ≤ 12)]; simp)
  clear HV g1 g2
  cases t0 : numsB xs
  · have hfin := Lib.hid (show ValidPeople_r0 ⟨A, k, c, xs, B, k, d, ys, C, k, e0, zs⟩ = false by rw [HV2.out, t0]; rfl)
    go_enter Try.func21, Try.ntmps21
    go_wp2_with fail
    refine (areNumbersOf_is A k c xs _ R.out.1 n0 t0).mono ?_
    rintro e w1 ⟨rfl, hb⟩
    have HB1 := Lib.hid (below_step HB.out hb)
    clear hb
    go_wp2_with fail
    go_ret
    exact ⟨ret_bool hfin.out.symm, HB1.out⟩
  cases t1 : numsB zs
  · have hfin := Lib.hid (show ValidPeople_r0 ⟨A, k, c, xs, B, k, d, ys, C, k, e0, zs⟩ = false by rw [HV2.out, t0, t1]; rfl)
    go_enter Try.func21, Try.ntmps21
    go_wp2_with fail
    refine (areNumbersOf_is A k c xs _ R.out.1 n0 t0).mono ?_
    rintro e w1 ⟨rfl, hb⟩
    obtain ⟨_, x0, x1, x2⟩ := HBX.out.on hb
    dsimp only at x0 x1 x2
    have HB1 := Lib.hid hb
    clear hb
    go_wp2_with fail
    refine (areNumbersOf_is C k e0 zs _ (R.out.2.2.on HB1.out) n0 t1).mono ?_
    rintro e w2 ⟨rfl, hb⟩
    have HB2 := Lib.hid (below_step HB.out (below_step HB1.out hb))
    clear hb
    go_wp2_with fail
    go_ret
    exact ⟨ret_bool hfin.out.symm, HB2.out⟩
  · have hfin := Lib.hid (show ValidPeople_r0 ⟨A, k, c, xs, B, k, d, ys, C, k, e0, zs⟩ = sharesB ys by rw [HV2.out, t0, t1]; rfl)
    go_enter Try.func21, Try.ntmps21
    go_wp2_with fail
    refine (areNumbersOf_is A k c xs _ R.out.1 n0 t0).mono ?_
    rintro e w1 ⟨rfl, hb⟩
    obtain ⟨_, x0, x1, x2⟩ := HBX.out.on hb
    dsimp only at x0 x1 x2
    have HB1 := Lib.hid hb
    clear hb
    go_wp2_with fail
    refine (areNumbersOf_is C k e0 zs _ (R.out.2.2.on HB1.out) n0 t1).mono ?_
    rintro e w2 ⟨rfl, hb⟩
    obtain ⟨_, y0, y1, y2⟩ := (HBX.out.on HB1.out).on hb
    dsimp only at y0 y1 y2
    have HB2 := Lib.hid (below_step HB1.out hb)
    clear hb x0 x1 x2
    go_wp2_with fail
    refine (contains_shares_is B k d ys _ (R.out.2.1.on HB2.out) n0 rfl).mono ?_
    rintro e w3 ⟨rfl, hb⟩
    have HB3 := Lib.hid (below_step HB.out (below_step HB2.out hb))
    clear hb
    go_wp2_with fail
    go_ret
    exact ⟨ret_bool (by rw [hfin.out] <;> simp), HB3.out⟩
theorem impl_ValidPeople' {b : Bool} (p : Pp) (w : World) (hp : PpRd w p) (bp : PpB p) (h : ValidPeople_r0 p = b) :
    Calls Try.prog 21 #[p.V] w fun e w' => e = .returned (.bool b) ∧ Below w.heap.size w w' := by
  subst h; exact impl_ValidPeople p w hp bp
theorem l01Finite_q {x : Bool} (b : Nat) (w : World) (h : finB b = x) : Calls Try.prog 107 #[.float .f32 b] w fun e w' => e = .returned (.bool x) ∧ ∃ m, w' = w.drewN m := by
  subst h
  cases h : finB b
  · have e1 := fun (t : TypeId) (w : World) => run_sub_none (P := Try.prog) (sub_self_none (finB_not.1 h)) t w
    have e2 := fun (w : World) => nan_eq0 (nanOf32_nan b b w)
    clear h
    go_enter Try.func107, Try.ntmps107
    go_wp2_with fail
    go_ret
    exact ⟨rfl, 1, rfl⟩
  · obtain ⟨o, z⟩ := sub_self_zero' (finB_iff.1 h)
    have e1 := fun (t : TypeId) (w : World) => run_fsub (P := Try.prog) t o w
    clear o h
    go_enter Try.func107, Try.ntmps107
    go_wp2_with fail
    go_ret
    exact ⟨rfl, 0, rfl⟩
theorem l02Least_q {x : Bool} (b : Nat) (w : World) (h : leastB b = x) : Calls Try.prog 103 #[.float .f32 b] w fun e w' => e = .returned (.bool x) ∧ ∃ m, w' = w.drewN m := by
  subst h
  cases h0 : finB b
  · have hf := Lib.hid (show leastB b = false by simp [leastB, h0])
    go_enter Try.func103, Try.ntmps103
    go_wp2_with (go_at_call 107; refine (l01Finite_q b _ h0).mono ?_; rintro e w' ⟨rfl, j, rfl⟩)
    go_ret
    exact ⟨ret_bool hf.out.symm, j, rfl⟩
  · cases h1 : ge0 b
    · have f0 := ge0_is h1
      have hf := Lib.hid (show leastB b = false by simp [leastB, h1])
      go_enter Try.func103, Try.ntmps103
      go_wp2_with (go_at_call 107; refine (l01Finite_q b _ h0).mono ?_; rintro e w' ⟨rfl, j, rfl⟩)
      go_ret
      exact ⟨ret_bool hf.out.symm, j, rfl⟩
    · have f0 := ge0_is h1
      have hf := Lib.hid (show leastB b = true by simp [leastB, h0, h1])
      go_enter Try.func103, Try.ntmps103
      go_wp2_with (go_at_call 107; refine (l01Finite_q b _ h0).mono ?_; rintro e w' ⟨rfl, j, rfl⟩)
      go_ret
      exact ⟨ret_bool hf.out.symm, j, rfl⟩
theorem l02Share_is {x : Bool} (b : Nat) (w : World) (h : shareB b = x) : Calls Try.prog 104 #[.float .f32 b] w fun e w' => e = .returned (.bool x) ∧ w = w' := by
  subst h; exact l02Share_any b w
set_option maxHeartbeats 3200000 in
theorem l07People_any (g : Nat) (p : Pp) (w : World) (hbx : PBox w g p) (hp : PpRd w p) (bp : PpB p) :
    Calls Try.prog 62 #[.pointer (some ⟨g, 0, none⟩)] w fun e w' => e = .returned (.bool (ValidPeople_r0 p)) ∧ ∃ j, w' = w.drewN j := by
  obtain ⟨A, n, c, xs, B, m, d, ys, C, k, ez, zs⟩ := p
  obtain ⟨_, b0, b1, b2⟩ := hbx
  obtain ⟨r0, r1, r2⟩ := hp
  obtain ⟨n0, n1, n2, _, _, _⟩ := bp
  dsimp only at r0 r1 r2 n0 n1 n2 b0 b1 b2
  have LX := Lib.hid r0.flen
  have LY := Lib.hid r1.flen
  have LZ := Lib.hid r2.flen
  have R := Lib.hid (And.intro r0 (And.intro r1 r2))
  have HV := Lib.hid (show ValidPeople_r0 ⟨A, n, c, xs, B, m, d, ys, C, k, ez, zs⟩ = (decide (2 ≤ n) && (decide (n ≤ 12) && (decide (m = n) && (decide (k = n) && (numsB xs && (numsB zs && sharesB ys)))))) by
    unfold ValidPeople_r0; dsimp only; rw [LX.out, LY.out, LZ.out])
  clear r0 r1 r2
  by_cases g1 : n < 2
  case pos =>
    have i1 : (n : Int) < 2 := by omega
    have hfin := Lib.hid (show ValidPeople_r0 ⟨A, n, c, xs, B, m, d, ys, C, k, ez, zs⟩ = false by rw [HV.out, decide_eq_false (by omega : ¬ 2 ≤ n)]; rfl)
    go_enter Try.func62, Try.ntmps62
    go_wp2_with fail
    go_ret
    exact ⟨ret_bool hfin.out.symm, 0, rfl⟩
  by_cases g2 : 12 < n
  case pos =>
    have i1 : (12 : Int) < n := by omega
    have i2 : (2 : Int) ≤ n := by omega
    have hfin := Lib.hid (show ValidPeople_r0 ⟨A, n, c, xs, B, m, d, ys, C, k, ez, zs⟩ = false by rw [HV.out, decide_eq_false (by omega : ¬ n ≤ 12)]; simp)
    go_enter Try.func62, Try.ntmps62
    go_wp2_with fail
    go_ret
    exact ⟨ret_bool hfin.out.symm, 0, rfl⟩
  have i2 : (2 : Int) ≤ n := by omega
  have i3 : (n : Int) ≤ 12 := by omega
  by_cases g3 : m = n
  case neg =>
    have i4 : ((m : Int) != (n : Int)) = true := by simp; omega
    have hfin := Lib.hid (show ValidPeople_r0 ⟨A, n, c, xs, B, m, d, ys, C, k, ez, zs⟩ = false by rw [HV.out, decide_eq_false g3]; simp)
    go_enter Try.func62, Try.ntmps62
    go_wp2_with fail
    go_ret
    exact ⟨ret_bool hfin.out.symm, 0, rfl⟩
  by_cases g4 : k = n
  case neg =>
    subst g3
    have i4 : ((k : Int) != (m : Int)) = true := by simp; omega
    have hfin := Lib.hid (show ValidPeople_r0 ⟨A, m, c, xs, B, m, d, ys, C, k, ez, zs⟩ = false by rw [HV.out, decide_eq_false g4]; simp)
    go_enter Try.func62, Try.ntmps62
    go_wp2_with fail
    go_ret
    exact ⟨ret_bool hfin.out.symm, 0, rfl⟩
  subst g3 g4
  have HV2 := Lib.hid (show ValidPeople_r0 ⟨A, k, c, xs, B, k, d, ys, C, k, ez, zs⟩ = (numsB xs && (numsB zs && sharesB ys)) by rw [HV.out, decide_eq_true (by omega : 2 ≤ k), decide_eq_true (by omega : k ≤ 12)]; simp)
  clear HV g1 g2
  go_enter Try.func62, Try.ntmps62
  go_wp2_with fail
  go_loopw [4, 39] (fun _ i wr => ∃ (q j : Nat), q ≤ k ∧ i = .int .i64 q ∧ numsB (xs.take q) = true ∧ sharesB (ys.take q) = true ∧ numsB (zs.take q) = true ∧ wr = w.drewN j) (fun _ i _ => k - (intOf i).toNat)
  case atStart => exact ⟨0, 0, Nat.zero_le _, rfl, rfl, rfl, rfl, rfl⟩
  case round =>
    obtain ⟨q, j, hq, rfl, a0, a1, a2, rfl⟩ := hrel
    have HA := Lib.hid (And.intro a0 (And.intro a1 a2))
    clear a0 a1 a2
    by_cases hlt : q < k
    · obtain ⟨ad, rfl, hc0⟩ := R.out.1.flt hlt
      obtain ⟨ae, rfl, hc1⟩ := R.out.2.1.flt hlt
      obtain ⟨af, rfl, hc2⟩ := R.out.2.2.flt hlt
      have i4 : (0 : Int) ≤ q := by omega
      have i5 : (q : Int) < k := by omega
      obtain ⟨x, hx⟩ : ∃ x, x = xs[q]?.getD 0 := ⟨_, rfl⟩
      obtain ⟨y, hy⟩ : ∃ y, y = ys[q]?.getD 0 := ⟨_, rfl⟩
      obtain ⟨z, hz⟩ : ∃ z, z = zs[q]?.getD 0 := ⟨_, rfl⟩
      rw [← hx] at hc0
      rw [← hy] at hc1
      rw [← hz] at hc2
      have HX := Lib.hid hx
      have HY := Lib.hid hy
      have HZ := Lib.hid hz
      have sx := Lib.hid (show numsB (xs.take (q + 1)) = leastB x by unfold numsB; rw [take_snoc xs q 0 (by have := LX.out; omega), List.all_append, ← HX.out, show (xs.take q).all leastB = true from HA.out.1]; simp)
      have sy := Lib.hid (show sharesB (ys.take (q + 1)) = shareB y by unfold sharesB; rw [take_snoc ys q 0 (by have := LY.out; omega), List.all_append, ← HY.out, show (ys.take q).all shareB = true from HA.out.2.1]; simp)
      have sz := Lib.hid (show numsB (zs.take (q + 1)) = leastB z by unfold numsB; rw [take_snoc zs q 0 (by have := LZ.out; omega), List.all_append, ← HZ.out, show (zs.take q).all leastB = true from HA.out.2.2]; simp)
      clear hx hy hz
      cases t0 : leastB x
      · have hfin := Lib.hid (show ValidPeople_r0 ⟨some ad, k, c, xs, some ae, k, d, ys, some af, k, _, zs⟩ = false by
          rw [HV2.out, show numsB xs = false from List.all_eq_false.2 ⟨x, by rw [HX.out]; exact getD_memN (by have := LX.out; omega), by rw [t0]; decide⟩]; rfl)
        go_wp2_with (first | (go_at_call_of 103 x; refine (l02Least_q x _ t0).mono ?_; rintro e w' ⟨rfl, j1, rfl⟩))
        go_ret
        exact ⟨ret_bool hfin.out.symm, _, by first | rfl | exact World.drewN_drewN _ _ _⟩
      cases t1 : shareB y
      · have hfin := Lib.hid (show ValidPeople_r0 ⟨some ad, k, c, xs, some ae, k, d, ys, some af, k, _, zs⟩ = false by
          rw [HV2.out, show sharesB ys = false from List.all_eq_false.2 ⟨y, by rw [HY.out]; exact getD_memN (by have := LY.out; omega), by rw [t1]; decide⟩]; simp)
        go_wp2_with (first | (go_at_call_of 103 x; refine (l02Least_q x _ t0).mono ?_; rintro e w' ⟨rfl, j1, rfl⟩) | (go_at_call_of 104 y; refine (l02Share_is y _ t1).mono ?_; rintro e w' ⟨rfl, rfl⟩))
        go_ret
        exact ⟨ret_bool hfin.out.symm, _, by first | rfl | exact World.drewN_drewN _ _ _⟩
      cases t2 : leastB z
      · have hfin := Lib.hid (show ValidPeople_r0 ⟨some ad, k, c, xs, some ae, k, d, ys, some af, k, _, zs⟩ = false by
          rw [HV2.out, show numsB zs = false from List.all_eq_false.2 ⟨z, by rw [HZ.out]; exact getD_memN (by have := LZ.out; omega), by rw [t2]; decide⟩]; simp)
        go_wp2_with (first | (go_at_call_of 103 x; refine (l02Least_q x _ t0).mono ?_; rintro e w' ⟨rfl, j1, rfl⟩) | (go_at_call_of 104 y; refine (l02Share_is y _ t1).mono ?_; rintro e w' ⟨rfl, rfl⟩) | (go_at_call_of 103 z; refine (l02Least_q z _ t2).mono ?_; rintro e w' ⟨rfl, j2, rfl⟩))
        go_ret
        exact ⟨ret_bool hfin.out.symm, _, by first | rfl | exact World.drewN_drewN _ _ _⟩
      · have hs := Lib.hid (And.intro (sx.out.trans t0) (And.intro (sy.out.trans t1) (sz.out.trans t2)))
        go_wp2_with (first | (go_at_call_of 103 x; refine (l02Least_q x _ t0).mono ?_; rintro e w' ⟨rfl, j1, rfl⟩) | (go_at_call_of 104 y; refine (l02Share_is y _ t1).mono ?_; rintro e w' ⟨rfl, rfl⟩) | (go_at_call_of 103 z; refine (l02Least_q z _ t2).mono ?_; rintro e w' ⟨rfl, j2, rfl⟩))
        go_roundw
        case rel => exact ⟨q + 1, _, by omega, by go_num, hs.out.1, hs.out.2.1, hs.out.2.2, by first | rfl | exact World.drewN_drewN _ _ _⟩
        case measure => simp [intOf]; omega
    · obtain rfl : k = q := by omega
      have hfin := Lib.hid (show ValidPeople_r0 ⟨A, k, c, xs, B, k, d, ys, C, k, ez, zs⟩ = true by
        have h1 := HA.out
        rw [List.take_of_length_le (by have := LX.out; omega), List.take_of_length_le (by have := LY.out; omega), List.take_of_length_le (by have := LZ.out; omega)] at h1
        rw [HV2.out, h1.1, h1.2.1, h1.2.2]; rfl)
      go_wp2_with fail
      go_ret
      exact ⟨ret_bool hfin.out.symm, j, rfl⟩
theorem spec_ValidPeople' {b : Bool} (p : Pp) (w : World) (hp : PpRd w p) (bp : PpB p) (h : ValidPeople_r0 p = b) :
    Calls Try.prog 20 #[p.V] w fun e w' => e = .returned (.bool b) ∧ Below w.heap.size w w' := by
  have HC := Lib.hid (l07People_any w.heap.size p _ (PBox.new w p 27 rfl) (hp.on (bl_1 _)) bp)
  have HB := Lib.hid (bl_1 (w := w) (.cells #[.slice p.A p.n p.c, .slice p.B p.m p.d, .slice p.C p.k p.e] 27))
  rw [h] at HC
  unfold Pp.V
  go_enter Try.func20, Try.ntmps20
  go_wp2_with fail
  refine HC.out.mono ?_
  rintro e w1 ⟨rfl, j, rfl⟩
  go_wp2_with fail
  go_ret
  exact ⟨rfl, below_drewN HB.out j⟩
end Go.Proofs.Ytkdiegplbloccaa
