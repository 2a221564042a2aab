/-
  LISTS OF FINITE FLOATS: what the program's areFinite and the reference's l02Finite return, for every list.
-/
import Derived.Test.YtkdiegplbloccaaFin
namespace Go.Proofs.Ytkdiegplbloccaa
open Fl
open Go.ChangeShapes Go.WideShapes Go.ChangeAt Go.RowKit
set_option linter.unusedVariables false

def allFin (bs : List Nat) : Bool := bs.all finB
theorem finB_not {b : Nat} : finB b = false ↔ ¬ F b := by
  rw [← finB_iff]; cases finB b <;> simp
/-! ### x - x == 0 -/
theorem sub_self_none {b : Nat} (h : ¬ F b) : Ieee.single.sub b b = none := by
  have h1 : ¬ rk b < 2139095040 := fun x => h (F_iff.2 x)
  unfold Ieee.Format.sub
  by_cases hi : rk b = 2139095040
  · rw [read_inf hi]
    cases sn b <;> rfl
  · obtain ⟨s, t, hr⟩ := read_nan (b := b) (by omega)
    rw [hr]; rfl
def nanOf32 (x y : Nat) (w : World) : Nat := Question.cut (.nanBits .f32 x y) (w.tape w.drawn (.nanBits .f32 x y))
theorem nanOf32_nan (x y : Nat) (w : World) : nan32 (nanOf32 x y w) = true := by
  rw [nan_iff, rk_eq]
  unfold nanOf32
  generalize w.tape w.drawn (.nanBits .f32 x y) = t
  simp only [Question.cut]
  have hx : t / 2 % (2 ^ 23 - 1) < 2 ^ 23 - 1 := Nat.mod_lt _ (by decide)
  generalize t / 2 % (2 ^ 23 - 1) = u at hx ⊢
  rcases Nat.mod_two_eq_zero_or_one t with h | h <;> rw [h] <;> omega
theorem run_sub_none {P : Program} {x y : Nat} (h : Ieee.single.sub x y = none) (t : TypeId) (w : World) : (binOp .sub t (.float .f32 x) (.float .f32 y)).run P w = .ok (.float .f32 (nanOf32 x y w)) w.drew := by
  have h' : FloatKind.f32.format.sub x y = none := h
  simp [binOp, Op.floatArith, h', nanOf32, Question.forced]
theorem nan_eq0 {b : Nat} (h : nan32 b = true) : (FloatKind.f32.format.order b 0 == some Ordering.eq) = false := by
  show (Ieee.single.order b 0 == some .eq) = false
  rw [order_nan_l h]; rfl
theorem sub_self_zero' {b : Nat} (h : F b) : okS b b ∧ (FloatKind.f32.format.order (fsub b b) 0 == some Ordering.eq) = true := by
  obtain ⟨r, neg, h1, h2, _⟩ := sub_res h h
  obtain ⟨a, c⟩ := okS_of h1
  refine ⟨a, ?_⟩
  rw [c]
  have h3 : rk r ≤ 0 := h2.le 0 (by rw [s_inf]; decide) (by rw [Int.sub_self]; exact Nat.zero_le _)
  have h4 : mag r = 0 := by rw [mag_eq, Nat.le_zero.1 h3]; rfl
  have hv : val r = 0 := by have := val_abs r; omega
  have ho := order_fin (F_iff.2 (by omega : rk r < 2139095040)) F_zero
  rw [hv, val_zero] at ho
  show (Ieee.single.order r 0 == some .eq) = true
  rw [ho]; rfl
theorem l01Finite_any (b : Nat) (w : World) : Calls Try.prog 107 #[.float .f32 b] w fun e w' => e = .returned (.bool (finB b)) ∧ Below w.heap.size w w' := by
  cases h : finB b
  · have e1 := fun (t : TypeId) (w : World) => run_sub_none (P := Try.prog) (sub_self_none (finB_not.1 h)) t w
    have e2 := fun (w : World) => nan_eq0 (nanOf32_nan b b w)
    clear h
    go_enter Try.func107, Try.ntmps107
    go_wp2_with fail
    go_ret
    exact ⟨rfl, (Below.refl _ _).drew⟩
  · obtain ⟨o, z⟩ := sub_self_zero' (finB_iff.1 h)
    have e1 := fun (t : TypeId) (w : World) => run_fsub (P := Try.prog) t o w
    clear o h
    go_enter Try.func107, Try.ntmps107
    go_wp2_with fail
    go_ret
    exact ⟨rfl, Below.refl _ _⟩
set_option maxHeartbeats 400000 in
theorem l02Finite_any (A : Option Addr) (n c : Nat) (bs : List Nat) (w : World) (hr : Rd w w.heap.size 1 A n (flts bs)) (hn : n ≤ 1048576) :
    Calls Try.prog 68 #[.slice A n c] w fun e w' => e = .returned (.bool (allFin bs)) ∧ Below w.heap.size w w' := by
  have HL := Lib.hid hr.flen
  go_enter Try.func68, Try.ntmps68
  go_wp2
  go_loopw [3] (fun i wr => ∃ k : Nat, k ≤ n ∧ i = .int .i64 k ∧ (bs.take k).all finB = true ∧ Below w.heap.size w wr) (fun i _ => n - (intOf i).toNat)
  case atStart => exact ⟨0, Nat.zero_le _, rfl, rfl, Below.refl _ _⟩
  case round =>
    obtain ⟨k, hk, rfl, ha, hb⟩ := hrel
    have HA := Lib.hid ha
    clear ha
    by_cases hlt : k < n
    · obtain ⟨ad, rfl, hc⟩ := (hr.below hb).flt hlt
      clear hr
      obtain ⟨b, hbb⟩ : ∃ b, b = bs[k]?.getD 0 := ⟨_, rfl⟩
      rw [← hbb] at hc
      have HB := Lib.hid hbb
      clear hbb
      cases h0 : finB b
      · have hfin := Lib.hid (show allFin bs = false by
          unfold allFin
          rw [List.all_eq_false]
          exact ⟨_, getD_memN (k := k) (by have := HL.out; omega), by rw [← HB.out, h0]; decide⟩)
        go_wp2_with (go_at_call 107; refine (l01Finite_any b _).mono ?_; rintro e w' ⟨rfl, hb2⟩)
        go_ret
        exact ⟨by rw [hfin.out]; rfl, below_step hb hb2⟩
      · have hfin := Lib.hid (show (bs.take (k + 1)).all finB = true by
          rw [take_snoc bs k 0 (by have := HL.out; omega), List.all_append, HA.out, ← HB.out]; simp [h0])
        go_wp2_with (go_at_call 107; refine (l01Finite_any b _).mono ?_; rintro e w' ⟨rfl, hb2⟩)
        go_roundw
        case rel => exact ⟨k + 1, by omega, by go_num, hfin.out, below_step hb hb2⟩
        case measure => simp [intOf]; omega
    · obtain rfl : n = k := by omega
      have hfin := Lib.hid (show allFin bs = true by have := HA.out; rwa [List.take_of_length_le (by have := HL.out; omega)] at this)
      clear HA
      go_wp2
      go_ret
      exact ⟨by rw [hfin.out]; rfl, hb⟩
theorem areFinite1_any (b : Nat) (w : World) : Calls Try.prog 129 #[.float .f32 b] w fun e w' => e = .returned (.bool (!finB b)) ∧ Below w.heap.size w w' := by
  go_enter Try.func129, Try.ntmps129
  go_wp2_with (go_at_call 69; refine (isFinite_any b _).mono ?_; rintro e w' ⟨rfl, hb2⟩)
  go_ret
  exact ⟨rfl, hb2⟩
def findN {α : Type} (p : α → Bool) (zs : List α) : Int := match zs.findIdx? p with | some i => (i : Int) | none => -1
theorem findN_miss {α : Type} {p : α → Bool} {zs : List α} (h : zs.any p = false) : findN p zs = -1 := by
  have : zs.findIdx? p = none := by
    rw [List.findIdx?_eq_none_iff]
    intro x hx
    rw [List.any_eq_false] at h
    simpa using h x hx
  simp [findN, this]
theorem findN_hit {α : Type} {p : α → Bool} {zs : List α} {k : Nat} (d : α) (h : (zs.take k).any p = false) (hk : k < zs.length) (hp : p (zs[k]?.getD d) = true) : findN p zs = k := by
  have : zs.findIdx? p = some k := by
    rw [List.findIdx?_eq_some_iff_getElem]
    rw [List.getElem?_eq_getElem hk] at hp
    refine ⟨hk, hp, fun j hj => ?_⟩
    rw [List.any_eq_false] at h
    have hm : zs[j] ∈ zs.take k := by
      rw [List.mem_take_iff_getElem]
      exact ⟨j, by omega, rfl⟩
    simpa using h _ hm
  simp [findN, this]
theorem findN_nonneg {α : Type} {p : α → Bool} {zs : List α} : decide (0 ≤ findN p zs) = zs.any p := by
  unfold findN
  cases h : zs.findIdx? p with
  | none =>
    have h2 : zs.any p = false := by
      rw [List.findIdx?_eq_none_iff] at h
      rw [List.any_eq_false]
      intro x hx
      simp [h x hx]
    rw [h2]; decide
  | some i =>
    have h2 : zs.any p = true := by
      rw [List.findIdx?_eq_some_iff_getElem] at h
      obtain ⟨h1, h3, _⟩ := h
      rw [List.any_eq_true]
      exact ⟨zs[i], List.getElem_mem h1, h3⟩
    rw [h2]; simp
set_option maxHeartbeats 400000 in
theorem index_areFinite (A : Option Addr) (n c : Nat) (bs : List Nat) (w : World) (hr : Rd w w.heap.size 1 A n (flts bs)) (hn : n ≤ 1048576) :
    Calls Try.prog 106 #[.slice A n c, .func (.func 129) #[] #[]] w fun e w' => e = .returned (.int .i64 (findN (fun b => !finB b) bs)) ∧ Below w.heap.size w w' := by
  have HL := Lib.hid hr.flen
  go_enter Try.func106, Try.ntmps106
  go_wp2
  go_loopw [5, 8] (fun _ i wr => ∃ k : Nat, k ≤ n ∧ i = .int .i64 k ∧ (bs.take k).any (fun b => !finB b) = false ∧ Below w.heap.size w wr) (fun _ i _ => n - (intOf i).toNat)
  case atStart => exact ⟨0, Nat.zero_le _, rfl, rfl, Below.refl _ _⟩
  case round =>
    obtain ⟨k, hk, rfl, ha, hb⟩ := hrel
    have HA := Lib.hid ha
    clear ha
    by_cases hlt : k < n
    · obtain ⟨ad, rfl, hc⟩ := (hr.below hb).flt hlt
      clear hr
      obtain ⟨b, hbb⟩ : ∃ b, b = bs[k]?.getD 0 := ⟨_, rfl⟩
      rw [← hbb] at hc
      have HB := Lib.hid hbb
      clear hbb
      cases h0 : (fun b => !finB b) b
      · have hfin := Lib.hid (show (bs.take (k + 1)).any (fun b => !finB b) = false by
          rw [take_snoc bs k 0 (by have := HL.out; omega), List.any_append, HA.out, ← HB.out]; simp [h0])
        go_wp2_with (go_at_call 129; refine (areFinite1_any b _).mono ?_; rintro e w' ⟨rfl, hb2⟩)
        go_roundw
        case rel => exact ⟨k + 1, by omega, by go_num, hfin.out, below_step hb hb2⟩
        case measure => simp [intOf]; omega
      · have hfin := Lib.hid (findN_hit (p := fun b => !finB b) 0 HA.out (by have := HL.out; omega) (by rw [← HB.out]; exact h0))
        go_wp2_with (go_at_call 129; refine (areFinite1_any b _).mono ?_; rintro e w' ⟨rfl, hb2⟩)
        go_ret
        exact ⟨by rw [hfin.out]; rfl, below_step hb hb2⟩
    · obtain rfl : n = k := by omega
      have hfin := Lib.hid (findN_miss (p := fun b => !finB b) (zs := bs) (by have := HA.out; rwa [List.take_of_length_le (by have := HL.out; omega)] at this))
      clear HA
      go_wp2
      go_ret
      exact ⟨by rw [hfin.out]; rfl, hb⟩
theorem contains_areFinite (A : Option Addr) (n c : Nat) (bs : List Nat) (w : World) (hr : Rd w w.heap.size 1 A n (flts bs)) (hn : n ≤ 1048576) :
    Calls Try.prog 64 #[.slice A n c, .func (.func 129) #[] #[]] w fun e w' => e = .returned (.bool (bs.any (fun b => !finB b))) ∧ Below w.heap.size w w' := by
  have hfin := Lib.hid (findN_nonneg (p := fun b => !finB b) (zs := bs))
  go_enter Try.func64, Try.ntmps64
  go_wp2_with (go_at_call 106; refine (index_areFinite _ _ _ bs _ hr hn).mono ?_; rintro e w' ⟨rfl, hb2⟩)
  go_ret
  exact ⟨ret_bool (by rw [← hfin.out]), hb2⟩
theorem any_not_all (bs : List Nat) : (!bs.any fun b => !finB b) = allFin bs := by
  simp [allFin, List.any_eq_not_all_not]
theorem areFinite_any (A : Option Addr) (n c : Nat) (bs : List Nat) (w : World) (hr : Rd w w.heap.size 1 A n (flts bs)) (hn : n ≤ 1048576) :
    Calls Try.prog 109 #[.slice A n c] w fun e w' => e = .returned (.bool (allFin bs)) ∧ Below w.heap.size w w' := by
  have hfin := Lib.hid (any_not_all bs)
  go_enter Try.func109, Try.ntmps109
  go_wp2_with (go_at_call 64; refine (contains_areFinite _ _ _ bs _ hr hn).mono ?_; rintro e w' ⟨rfl, hb2⟩)
  go_ret
  exact ⟨ret_bool (by rw [← hfin.out]), hb2⟩
end Go.Proofs.Ytkdiegplbloccaa
