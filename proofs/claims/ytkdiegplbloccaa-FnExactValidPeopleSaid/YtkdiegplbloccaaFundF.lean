/-
  FUNDS: operations on words of 32 bits of which some may be no numbers; which funds are such.
-/
import Derived.Test.YtkdiegplbloccaaAreF
import Derived.Test.YtkdiegplbloccaaAppF
namespace Go.Proofs.Ytkdiegplbloccaa
open Fl
open Go.ChangeShapes Go.WideShapes Go.ChangeAt Go.RowKit
set_option linter.unusedVariables false
set_option linter.unusedSimpArgs false

/-! ### any word: a number is known, of a NaN only that it is one -/
/-- the word b is what o says: this number, or else some NaN -/
def Says (o : Option Nat) (b : Nat) : Prop := match o with | some r => b = r | none => nan32 b = true
def resA (x y : Nat) (w : World) : Nat := (Ieee.single.add x y).getD (nanOf32 x y w)
def numA (x y : Nat) : Nat := if (Ieee.single.add x y).isSome then 0 else 1
theorem run_anyA {P : Program} (t : TypeId) (x y : Nat) (w : World) : (binOp .add t (.float .f32 x) (.float .f32 y)).run P w = .ok (.float .f32 (resA x y w)) (w.drewN (numA x y)) := by
  unfold resA numA
  cases h : Ieee.single.add x y with
  | some r =>
    have := run_float_arith (P := P) w .add t .f32 x y r h
    exact this
  | none =>
    have h' : FloatKind.f32.format.add x y = none := h
    show _ = Result.ok (Value.float .f32 (nanOf32 x y w)) w.drew
    simp [binOp, Op.floatArith, h', nanOf32, Question.forced]
theorem nan_lA {x : Nat} (y : Nat) (h : nan32 x = true) : Ieee.single.add x y = none := by
  obtain ⟨s, t, hr⟩ := read_nan (nan_iff.1 h)
  unfold Ieee.Format.add
  rw [hr]; cases Ieee.single.read y <;> rfl
theorem nan_rA (x : Nat) {y : Nat} (h : nan32 y = true) : Ieee.single.add x y = none := by
  obtain ⟨s, t, hr⟩ := read_nan (nan_iff.1 h)
  unfold Ieee.Format.add
  rw [hr]; cases Ieee.single.read x <;> rfl
def oA (p q : Option Nat) : Option Nat := p.bind fun x => q.bind fun y => Ieee.single.add x y
theorem sayA {p q : Option Nat} {x y : Nat} (hp : Says p x) (hq : Says q y) (w : World) : Says (oA p q) (resA x y w) := by
  unfold resA oA
  cases p with
  | none => rw [nan_lA y hp]; exact nanOf32_nan _ _ _
  | some a =>
    cases q with
    | none => rw [nan_rA x hq]; exact nanOf32_nan _ _ _
    | some b =>
      obtain rfl : x = a := hp
      obtain rfl : y = b := hq
      show Says (Ieee.single.add x y) _
      cases h : Ieee.single.add x y with
      | some r => rfl
      | none => exact nanOf32_nan _ _ _
def resS (x y : Nat) (w : World) : Nat := (Ieee.single.sub x y).getD (nanOf32 x y w)
def numS (x y : Nat) : Nat := if (Ieee.single.sub x y).isSome then 0 else 1
theorem run_anyS {P : Program} (t : TypeId) (x y : Nat) (w : World) : (binOp .sub t (.float .f32 x) (.float .f32 y)).run P w = .ok (.float .f32 (resS x y w)) (w.drewN (numS x y)) := by
  unfold resS numS
  cases h : Ieee.single.sub x y with
  | some r =>
    have := run_float_arith (P := P) w .sub t .f32 x y r h
    exact this
  | none =>
    have h' : FloatKind.f32.format.sub x y = none := h
    show _ = Result.ok (Value.float .f32 (nanOf32 x y w)) w.drew
    simp [binOp, Op.floatArith, h', nanOf32, Question.forced]
theorem nan_lS {x : Nat} (y : Nat) (h : nan32 x = true) : Ieee.single.sub x y = none := by
  obtain ⟨s, t, hr⟩ := read_nan (nan_iff.1 h)
  unfold Ieee.Format.sub
  rw [hr]; cases Ieee.single.read y <;> rfl
theorem nan_rS (x : Nat) {y : Nat} (h : nan32 y = true) : Ieee.single.sub x y = none := by
  obtain ⟨s, t, hr⟩ := read_nan (nan_iff.1 h)
  unfold Ieee.Format.sub
  rw [hr]; cases Ieee.single.read x <;> rfl
def oS (p q : Option Nat) : Option Nat := p.bind fun x => q.bind fun y => Ieee.single.sub x y
theorem sayS {p q : Option Nat} {x y : Nat} (hp : Says p x) (hq : Says q y) (w : World) : Says (oS p q) (resS x y w) := by
  unfold resS oS
  cases p with
  | none => rw [nan_lS y hp]; exact nanOf32_nan _ _ _
  | some a =>
    cases q with
    | none => rw [nan_rS x hq]; exact nanOf32_nan _ _ _
    | some b =>
      obtain rfl : x = a := hp
      obtain rfl : y = b := hq
      show Says (Ieee.single.sub x y) _
      cases h : Ieee.single.sub x y with
      | some r => rfl
      | none => exact nanOf32_nan _ _ _
def resM (x y : Nat) (w : World) : Nat := (Ieee.single.mul x y).getD (nanOf32 x y w)
def numM (x y : Nat) : Nat := if (Ieee.single.mul x y).isSome then 0 else 1
theorem run_anyM {P : Program} (t : TypeId) (x y : Nat) (w : World) : (binOp .mul t (.float .f32 x) (.float .f32 y)).run P w = .ok (.float .f32 (resM x y w)) (w.drewN (numM x y)) := by
  unfold resM numM
  cases h : Ieee.single.mul x y with
  | some r =>
    have := run_float_arith (P := P) w .mul t .f32 x y r h
    exact this
  | none =>
    have h' : FloatKind.f32.format.mul x y = none := h
    show _ = Result.ok (Value.float .f32 (nanOf32 x y w)) w.drew
    simp [binOp, Op.floatArith, h', nanOf32, Question.forced]
theorem nan_lM {x : Nat} (y : Nat) (h : nan32 x = true) : Ieee.single.mul x y = none := by
  obtain ⟨s, t, hr⟩ := read_nan (nan_iff.1 h)
  unfold Ieee.Format.mul
  rw [hr]; cases Ieee.single.read y <;> rfl
theorem nan_rM (x : Nat) {y : Nat} (h : nan32 y = true) : Ieee.single.mul x y = none := by
  obtain ⟨s, t, hr⟩ := read_nan (nan_iff.1 h)
  unfold Ieee.Format.mul
  rw [hr]; cases Ieee.single.read x <;> rfl
def oM (p q : Option Nat) : Option Nat := p.bind fun x => q.bind fun y => Ieee.single.mul x y
theorem sayM {p q : Option Nat} {x y : Nat} (hp : Says p x) (hq : Says q y) (w : World) : Says (oM p q) (resM x y w) := by
  unfold resM oM
  cases p with
  | none => rw [nan_lM y hp]; exact nanOf32_nan _ _ _
  | some a =>
    cases q with
    | none => rw [nan_rM x hq]; exact nanOf32_nan _ _ _
    | some b =>
      obtain rfl : x = a := hp
      obtain rfl : y = b := hq
      show Says (Ieee.single.mul x y) _
      cases h : Ieee.single.mul x y with
      | some r => rfl
      | none => exact nanOf32_nan _ _ _
def resD (x y : Nat) (w : World) : Nat := (Ieee.single.div x y).getD (nanOf32 x y w)
def numD (x y : Nat) : Nat := if (Ieee.single.div x y).isSome then 0 else 1
theorem run_anyD {P : Program} (t : TypeId) (x y : Nat) (w : World) : (binOp .quo t (.float .f32 x) (.float .f32 y)).run P w = .ok (.float .f32 (resD x y w)) (w.drewN (numD x y)) := by
  unfold resD numD
  cases h : Ieee.single.div x y with
  | some r =>
    have := run_float_arith (P := P) w .quo t .f32 x y r h
    exact this
  | none =>
    have h' : FloatKind.f32.format.div x y = none := h
    show _ = Result.ok (Value.float .f32 (nanOf32 x y w)) w.drew
    simp [binOp, Op.floatArith, h', nanOf32, Question.forced]
theorem nan_lD {x : Nat} (y : Nat) (h : nan32 x = true) : Ieee.single.div x y = none := by
  obtain ⟨s, t, hr⟩ := read_nan (nan_iff.1 h)
  unfold Ieee.Format.div
  rw [hr]; cases Ieee.single.read y <;> rfl
theorem nan_rD (x : Nat) {y : Nat} (h : nan32 y = true) : Ieee.single.div x y = none := by
  obtain ⟨s, t, hr⟩ := read_nan (nan_iff.1 h)
  unfold Ieee.Format.div
  rw [hr]; cases Ieee.single.read x <;> rfl
def oD (p q : Option Nat) : Option Nat := p.bind fun x => q.bind fun y => Ieee.single.div x y
theorem sayD {p q : Option Nat} {x y : Nat} (hp : Says p x) (hq : Says q y) (w : World) : Says (oD p q) (resD x y w) := by
  unfold resD oD
  cases p with
  | none => rw [nan_lD y hp]; exact nanOf32_nan _ _ _
  | some a =>
    cases q with
    | none => rw [nan_rD x hq]; exact nanOf32_nan _ _ _
    | some b =>
      obtain rfl : x = a := hp
      obtain rfl : y = b := hq
      show Says (Ieee.single.div x y) _
      cases h : Ieee.single.div x y with
      | some r => rfl
      | none => exact nanOf32_nan _ _ _
def finO (o : Option Nat) : Bool := match o with | some b => finB b | none => false
theorem nan_fin {b : Nat} (h : nan32 b = true) : finB b = false := by have := nan_iff.1 h; simp [finB]; omega
theorem says_fin {o : Option Nat} {b : Nat} (h : Says o b) : finB b = finO o := by
  cases o with
  | none => exact nan_fin h
  | some r => obtain rfl : b = r := h; rfl
theorem says_some {o : Option Nat} {b : Nat} (h : Says o b) (hf : finB b = true) : o = some b := by
  cases o with
  | none => rw [nan_fin h] at hf; cases hf
  | some r => obtain rfl : b = r := h; rfl

/-! ### funds -/
def leM1 (b : Nat) : Bool := Ieee.single.order b 3212836864 == some .lt || Ieee.single.order b 3212836864 == some .eq
def gtM1 (b : Nat) : Bool := Ieee.single.order b 3212836864 == some .gt
theorem F_m1 : F 3212836864 := F_iff.2 (by rw [rk_eq]; decide)
theorem le_gt {b : Nat} (h : finB b = true) : leM1 b = !gtM1 b := by
  have ho := order_fin (finB_iff.1 h) F_m1
  unfold leM1 gtM1
  rw [ho]
  cases compare (val b) (val 3212836864) <;> rfl
def retsOk (rs : List Nat) : Bool := allFin rs && !rs.any leM1
theorem rets_eq (rs : List Nat) : retsOk rs = (allFin rs && rs.all gtM1) := by
  unfold retsOk
  cases h : allFin rs
  · rfl
  · simp only [Bool.true_and]
    unfold allFin at h
    rw [List.all_eq_true] at h
    rw [Bool.eq_iff_iff]
    simp only [Bool.not_eq_true', List.any_eq_false, List.all_eq_true]
    refine forall_congr' fun b => forall_congr' fun hb => ?_
    rw [le_gt (h b hb)]
    cases gtM1 b <;> simp
def lenOk (n : Nat) : Bool := decide (1 ≤ n) && decide (n ≤ 64)
def fundOk (st : Nat) (ls : List (List Nat)) (rs : List Nat) : Bool := finB st && (lenOk rs.length && (retsOk rs && ls.all fun l => decide (l.length = rs.length) && allFin l))
theorem gt_is {b : Nat} {x : Bool} (h : gtM1 b = x) : (FloatKind.f32.format.order b 3212836864 == some Ordering.gt) = x := h
theorem le_is {b : Nat} {x : Bool} (h : leM1 b = x) : (FloatKind.f32.format.order b 3212836864 == some Ordering.lt || FloatKind.f32.format.order b 3212836864 == some Ordering.eq) = x := h
/-- a slice of floats, as a value -/
structure Fls where
  A : Option Addr
  n : Nat
  c : Nat
  bs : List Nat
def Fls.V (l : Fls) : Value := .slice l.A l.n l.c
def badL (k : Nat) (l : Fls) : Bool := !decide (l.n = k) || !allFin l.bs
def FlsRd (w : World) (ls : List Fls) : Prop := ∀ l ∈ ls, Rd w w.heap.size 1 l.A l.n (flts l.bs) ∧ l.n ≤ 1048576
theorem FlsRd.below {w w' : World} {ls : List Fls} (h : FlsRd w ls) (hb : Below w.heap.size w w') : FlsRd w' ls := fun l hl => ⟨((h l hl).1.below hb).more hb.size, (h l hl).2⟩
theorem FlsRd.alloc {w : World} {ls : List Fls} (h : FlsRd w ls) (o : Obj) : FlsRd (w.alloc o) ls := h.below ((Below.refl _ _).alloc (Nat.le_refl _) _)
theorem Rd.val {w : World} {B n k : Nat} {A : Option Addr} {vs : List Value} {v : Value} (h : Rd w B 1 A n vs) (hk : vs[k]? = some v) : ∃ ad, A = some ad ∧ ad.block < B ∧ w.cell? (ad.add k) = some v := by
  have h1 : k < vs.length := (List.getElem?_eq_some_iff.1 hk).1
  have h2 := h.1
  obtain ⟨ad, e, hb, hc⟩ := h.2 (by omega)
  exact ⟨ad, e, hb, hc k v hk⟩
theorem isFund1_any (b : Nat) (w : World) : Calls Try.prog 110 #[.float .f32 b] w fun e w' => e = .returned (.bool (leM1 b)) ∧ Below w.heap.size w w' := by
  cases h : leM1 b
  · have f := le_is h
    clear h
    go_enter Try.func110, Try.ntmps110
    go_wp2
    go_ret
    exact ⟨rfl, Below.refl _ _⟩
  · have f := le_is h
    clear h
    go_enter Try.func110, Try.ntmps110
    go_wp2
    go_ret
    exact ⟨rfl, Below.refl _ _⟩
set_option maxHeartbeats 400000 in
theorem index_isFund1 (A : Option Addr) (n c : Nat) (bs : List Nat) (w : World) (hr : Rd w w.heap.size 1 A n (flts bs)) (hn : n ≤ 1048576) :
    Calls Try.prog 106 #[.slice A n c, .func (.func 110) #[] #[]] w fun e w' => e = .returned (.int .i64 (findN (fun b => leM1 b) bs)) ∧ Below w.heap.size w w' := by
  have HL := Lib.hid hr.flen
  go_enter Try.func106, Try.ntmps106
  go_wp2
  go_loopw [5, 8] (fun _ i wr => ∃ k : Nat, k ≤ n ∧ i = .int .i64 k ∧ (bs.take k).any (fun b => leM1 b) = false ∧ Below w.heap.size w wr) (fun _ i _ => n - (intOf i).toNat)
  case atStart => exact ⟨0, Nat.zero_le _, rfl, rfl, Below.refl _ _⟩
  case round =>
    obtain ⟨k, hk, rfl, ha, hb⟩ := hrel
    have HA := Lib.hid ha
    clear ha
    by_cases hlt : k < n
    · obtain ⟨ad, rfl, hc⟩ := (hr.below hb).flt hlt
      clear hr
      obtain ⟨b, hbb⟩ : ∃ b, b = bs[k]?.getD 0 := ⟨_, rfl⟩
      rw [← hbb] at hc
      have HB := Lib.hid hbb
      clear hbb
      cases h0 : (fun b => leM1 b) b
      · have hfin := Lib.hid (show (bs.take (k + 1)).any (fun b => leM1 b) = false by
          rw [take_snoc bs k 0 (by have := HL.out; omega), List.any_append, HA.out, ← HB.out]; simp [h0])
        go_wp2_with (go_at_call 110; refine (isFund1_any b _).mono ?_; rintro e w' ⟨rfl, hb2⟩)
        go_roundw
        case rel => exact ⟨k + 1, by omega, by go_num, hfin.out, below_step hb hb2⟩
        case measure => simp [intOf]; omega
      · have hfin := Lib.hid (findN_hit (p := fun b => leM1 b) 0 HA.out (by have := HL.out; omega) (by rw [← HB.out]; exact h0))
        go_wp2_with (go_at_call 110; refine (isFund1_any b _).mono ?_; rintro e w' ⟨rfl, hb2⟩)
        go_ret
        exact ⟨by rw [hfin.out]; rfl, below_step hb hb2⟩
    · obtain rfl : n = k := by omega
      have hfin := Lib.hid (findN_miss (p := fun b => leM1 b) (zs := bs) (by have := HA.out; rwa [List.take_of_length_le (by have := HL.out; omega)] at this))
      clear HA
      go_wp2
      go_ret
      exact ⟨by rw [hfin.out]; rfl, hb⟩
theorem contains_isFund1 (A : Option Addr) (n c : Nat) (bs : List Nat) (w : World) (hr : Rd w w.heap.size 1 A n (flts bs)) (hn : n ≤ 1048576) :
    Calls Try.prog 64 #[.slice A n c, .func (.func 110) #[] #[]] w fun e w' => e = .returned (.bool (bs.any (fun b => leM1 b))) ∧ Below w.heap.size w w' := by
  have hfin := Lib.hid (findN_nonneg (p := fun b => leM1 b) (zs := bs))
  go_enter Try.func64, Try.ntmps64
  go_wp2_with (go_at_call 106; refine (index_isFund1 _ _ _ bs _ hr hn).mono ?_; rintro e w' ⟨rfl, hb2⟩)
  go_ret
  exact ⟨ret_bool (by rw [← hfin.out]), hb2⟩
theorem isFund2_any (l : Fls) (g : Nat) (A : Option Addr) (n c : Nat) (w : World) (hr : Rd w w.heap.size 1 l.A l.n (flts l.bs)) (hn : l.n ≤ 1048576) (hc : w.cell? ⟨g, 0, none⟩ = some (.slice A n c)) (hn2 : n ≤ 1048576) :
    Calls Try.prog 112 #[l.V, .pointer (some ⟨g, 0, none⟩)] w fun e w' => e = .returned (.bool (badL n l)) ∧ Below w.heap.size w w' := by
  obtain ⟨lA, ln, lc, bs⟩ := l
  dsimp only at hr hn
  by_cases h : ln = n
  · subst h
    have hfin := Lib.hid (show badL ln ⟨lA, ln, lc, bs⟩ = !allFin bs by simp [badL])
    show Calls Try.prog 112 #[.slice lA ln lc, .pointer (some ⟨g, 0, none⟩)] w _
    go_enter Try.func112, Try.ntmps112
    go_wp2_with (go_at_call 109; refine (areFinite_any _ _ _ bs _ hr hn).mono ?_; rintro e w' ⟨rfl, hb2⟩)
    go_ret
    exact ⟨by rw [hfin.out]; rfl, hb2⟩
  · have hfin := Lib.hid (show badL n ⟨lA, ln, lc, bs⟩ = true by simp [badL, h])
    have h2 : ((ln : Int) != (n : Int)) = true := by simp; omega
    clear h
    show Calls Try.prog 112 #[.slice lA ln lc, .pointer (some ⟨g, 0, none⟩)] w _
    go_enter Try.func112, Try.ntmps112
    go_wp2_with fail
    go_ret
    exact ⟨by rw [hfin.out]; rfl, Below.refl _ _⟩
set_option maxHeartbeats 800000 in
theorem indexFund_any (B : Option Addr) (m d : Nat) (ls : List Fls) (g : Nat) (A : Option Addr) (n c : Nat) (w : World) (hr : Rd w w.heap.size 1 B m (ls.map Fls.V)) (hl : FlsRd w ls) (hm : m ≤ 1048576) (hc : w.cell? ⟨g, 0, none⟩ = some (.slice A n c)) (hg : g < w.heap.size) (hn : n ≤ 1048576) :
    Calls Try.prog 130 #[.slice B m d, .func (.func 112) #[] #[.pointer (some ⟨g, 0, none⟩)]] w fun e w' => e = .returned (.int .i64 (findN (badL n) ls)) ∧ Below w.heap.size w w' := by
  have HLN := Lib.hid (show ls.length = m by have := hr.1; simpa using this)
  have HR := Lib.hid hr
  have HL := Lib.hid hl
  have HC := Lib.hid hc
  clear hr hl hc
  go_enter Try.func130, Try.ntmps130
  go_wp2
  go_loopw [5, 8] (fun _ i wr => ∃ k : Nat, k ≤ m ∧ i = .int .i64 k ∧ (ls.take k).any (badL n) = false ∧ Below w.heap.size w wr) (fun _ i _ => m - (intOf i).toNat)
  case atStart => exact ⟨0, Nat.zero_le _, rfl, rfl, Below.refl _ _⟩
  case round =>
    obtain ⟨k, hk, rfl, ha, hb⟩ := hrel
    have HA := Lib.hid ha
    clear ha
    by_cases hlt : k < m
    · have hkl : ls[k]? = some (ls[k]'(by have := HLN.out; omega)) := List.getElem?_eq_getElem _
      obtain ⟨l, hle⟩ : ∃ l, l = ls[k]'(by have := HLN.out; omega) := ⟨_, rfl⟩
      rw [← hle] at hkl
      have hmem := List.mem_of_getElem? hkl
      obtain ⟨ad, rfl, _, hcl⟩ := ((HR.out.below hb).more hb.size).val (k := k) (v := l.V) (by rw [List.getElem?_map, hkl]; rfl)
      have HLR := Lib.hid ((HL.out.below hb) l hmem)
      have HCG := Lib.hid (show wr.cell? ⟨g, 0, none⟩ = some (.slice A n c) from (hb.cell hg).trans HC.out)
      have HKL := Lib.hid hkl
      obtain ⟨lA, ln, lc, bs⟩ := l
      have hcl2 : wr.cell? (ad.add k) = some (.slice lA ln lc) := hcl
      clear hle hkl hmem hcl
      cases h0 : badL n ⟨lA, ln, lc, bs⟩
      · have hfin := Lib.hid (show (ls.take (k + 1)).any (badL n) = false by
          rw [List.take_add_one, HKL.out, List.any_append, HA.out]; simp [h0])
        have HB0 := Lib.hid h0
        clear h0
        go_wp2_with (go_at_call 112; refine (isFund2_any ⟨lA, ln, lc, bs⟩ g A n c _ HLR.out.1 HLR.out.2 HCG.out hn).mono ?_; rintro e w' ⟨rfl, hb2⟩; rw [HB0.out])
        go_roundw
        case rel => exact ⟨k + 1, by omega, by go_num, hfin.out, below_step hb hb2⟩
        case measure => simp [intOf]; omega
      · have hfin := Lib.hid (show findN (badL n) ls = k from findN_hit (p := badL n) ⟨none, 0, 0, []⟩ HA.out (by have := HLN.out; omega) (by rw [HKL.out]; exact h0))
        have HB0 := Lib.hid h0
        clear h0
        go_wp2_with (go_at_call 112; refine (isFund2_any ⟨lA, ln, lc, bs⟩ g A n c _ HLR.out.1 HLR.out.2 HCG.out hn).mono ?_; rintro e w' ⟨rfl, hb2⟩; rw [HB0.out])
        go_ret
        exact ⟨by rw [hfin.out]; rfl, below_step hb hb2⟩
    · obtain rfl : m = k := by omega
      have hfin := Lib.hid (findN_miss (p := badL n) (zs := ls) (by have := HA.out; rwa [List.take_of_length_le (by have := HLN.out; omega)] at this))
      clear HA
      go_wp2
      go_ret
      exact ⟨by rw [hfin.out]; rfl, hb⟩
theorem containsFund_any (B : Option Addr) (m d : Nat) (ls : List Fls) (g : Nat) (A : Option Addr) (n c : Nat) (w : World) (hr : Rd w w.heap.size 1 B m (ls.map Fls.V)) (hl : FlsRd w ls) (hm : m ≤ 1048576) (hc : w.cell? ⟨g, 0, none⟩ = some (.slice A n c)) (hg : g < w.heap.size) (hn : n ≤ 1048576) :
    Calls Try.prog 111 #[.slice B m d, .func (.func 112) #[] #[.pointer (some ⟨g, 0, none⟩)]] w fun e w' => e = .returned (.bool (ls.any (badL n))) ∧ Below w.heap.size w w' := by
  have hfin := Lib.hid (findN_nonneg (p := badL n) (zs := ls))
  have H := Lib.hid (indexFund_any B m d ls g A n c w hr hl hm hc hg hn)
  clear hr hl hc
  go_enter Try.func111, Try.ntmps111
  go_wp2_with (go_at_call 130; refine H.out.mono ?_; rintro e w' ⟨rfl, hb2⟩)
  go_ret
  exact ⟨ret_bool (by rw [← hfin.out]), hb2⟩
def fundR (rs : List Nat) (n : Nat) (ls : List Fls) : Bool := lenOk n && (retsOk rs && !ls.any (badL n))
set_option maxHeartbeats 800000 in
theorem isFund_any (A : Option Addr) (n c : Nat) (rs : List Nat) (B : Option Addr) (m d : Nat) (ls : List Fls) (w : World) (hs : Rd w w.heap.size 1 A n (flts rs)) (hr : Rd w w.heap.size 1 B m (ls.map Fls.V)) (hl : FlsRd w ls) (hm : m ≤ 1048576) (hn : n ≤ 1048576) :
    Calls Try.prog 70 #[.slice A n c, .slice B m d] w fun e w' => e = .returned (.bool (fundR rs n ls)) ∧ Below w.heap.size w w' := by
  have hmf : ∀ (fn : Fn) (first cap : Array Value) (w : World), (Instr.makeFunc fn first cap).run Try.prog w = .ok (.func fn first cap) w := fun _ _ _ _ => rfl
  have HL := Lib.hid (hl.alloc (.cells #[.slice A n c] 22))
  have hB := (Below.refl w.heap.size w).alloc (Nat.le_refl _) (.cells #[.slice A n c] 22)
  have HS := Lib.hid (hs.on hB)
  have HR := Lib.hid (hr.on hB)
  have hcb : (w.alloc (.cells #[.slice A n c] 22)).cell? ⟨w.heap.size, 0, none⟩ = some (.slice A n c) := cell_new _ _ _
  have hgb : w.heap.size < (w.alloc (.cells #[.slice A n c] 22)).heap.size := by simp
  clear hs hr hl
  by_cases h1 : n < 1
  · have hfin := Lib.hid (show fundR rs n ls = false by simp [fundR, lenOk]; omega)
    go_enter Try.func70, Try.ntmps70
    go_wp2_with fail
    go_ret
    exact ⟨by rw [hfin.out]; rfl, hB⟩
  by_cases h2 : 64 < n
  · have hfin := Lib.hid (show fundR rs n ls = false by simp [fundR, lenOk]; omega)
    go_enter Try.func70, Try.ntmps70
    go_wp2_with fail
    go_ret
    exact ⟨by rw [hfin.out]; rfl, hB⟩
  have hlen : lenOk n = true := by simp [lenOk]; omega
  cases h3 : allFin rs
  · have hfin := Lib.hid (show fundR rs n ls = false by simp [fundR, retsOk, h3])
    go_enter Try.func70, Try.ntmps70
    go_wp2_with fail
    refine (areFinite_any _ _ _ rs _ HS.out hn).mono ?_
    rintro e w' ⟨rfl, hb2⟩
    rw [h3]
    go_wp2_with fail
    go_ret
    exact ⟨by rw [hfin.out]; rfl, below_step hB hb2⟩
  cases h4 : rs.any fun b => leM1 b
  · have hfin := Lib.hid (show fundR rs n ls = !ls.any (badL n) by simp [fundR, retsOk, h3, h4, hlen])
    go_enter Try.func70, Try.ntmps70
    go_wp2_with fail
    refine (areFinite_any _ _ _ rs _ HS.out hn).mono ?_
    rintro e w1 ⟨rfl, hb2⟩
    rw [h3]
    have hc1 : w1.cell? ⟨w.heap.size, 0, none⟩ = some (.slice A n c) := (hb2.cell (p := ⟨w.heap.size, 0, none⟩) hgb).trans hcb
    have HB2 := Lib.hid hb2
    clear hb2
    go_wp2_with fail
    have hb2 := HB2.out
    refine (contains_isFund1 _ _ _ rs _ ((HS.out.below hb2).more hb2.size) hn).mono ?_
    rintro e w2 ⟨rfl, hb3⟩
    rw [h4]
    have HB4 := Lib.hid (hb2.trans (hb3.mono hb2.size))
    have hc2 := Lib.hid ((HB4.out.cell (p := ⟨w.heap.size, 0, none⟩) hgb).trans hcb)
    have HG := Lib.hid (Nat.lt_of_lt_of_le hgb HB4.out.size)
    have HBB := Lib.hid (below_step hB HB4.out)
    clear hb2 hb3 hcb hgb hB
    go_wp2_with fail
    refine (containsFund_any _ _ _ ls w.heap.size A n c _ ((HR.out.below HB4.out).more HB4.out.size) (HL.out.below HB4.out) hm hc2.out HG.out hn).mono ?_
    rintro e w3 ⟨rfl, hb5⟩
    go_wp2_with fail
    go_ret
    exact ⟨ret_bool hfin.out.symm, below_step HBB.out hb5⟩
  · have hfin := Lib.hid (show fundR rs n ls = false by simp [fundR, retsOk, h3, h4])
    go_enter Try.func70, Try.ntmps70
    go_wp2_with fail
    refine (areFinite_any _ _ _ rs _ HS.out hn).mono ?_
    rintro e w1 ⟨rfl, hb2⟩
    rw [h3]
    have hc1 : w1.cell? ⟨w.heap.size, 0, none⟩ = some (.slice A n c) := (hb2.cell (p := ⟨w.heap.size, 0, none⟩) hgb).trans hcb
    have HB2 := Lib.hid hb2
    clear hb2
    go_wp2_with fail
    have hb2 := HB2.out
    refine (contains_isFund1 _ _ _ rs _ ((HS.out.below hb2).more hb2.size) hn).mono ?_
    rintro e w2 ⟨rfl, hb3⟩
    rw [h4]
    go_wp2_with fail
    go_ret
    exact ⟨by rw [hfin.out]; rfl, below_step hB (hb2.trans (hb3.mono hb2.size))⟩
end Go.Proofs.Ytkdiegplbloccaa
