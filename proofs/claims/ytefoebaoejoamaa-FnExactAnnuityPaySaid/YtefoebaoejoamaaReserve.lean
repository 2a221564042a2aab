/-
  ReserveRow: what the program's and the reference's function return.
-/
import Derived.Test.YtefoebaoejoamaaAlive
namespace Go.Proofs.Ytefoebaoejoamaa
open Fl
open Go.ChangeShapes Go.WideShapes Go.ChangeAt Go.RowKit
set_option linter.unusedVariables false

/-- 1 / (1 + rate) -/
def factorOf (r : Nat) : Nat := fdiv 1065353216 (fadd 1065353216 r)
theorem factor_ok {r : Nat} (h : In1 r) : okA 1065353216 r ∧ okD 1065353216 (fadd 1065353216 r) ∧ In1 (factorOf r) := by
  obtain ⟨a, b, c⟩ := one_add h.bd h.nn (by decide)
  obtain ⟨d, e⟩ := one_div c (b.fin (by decide))
  exact ⟨a, d, e⟩
/-- the reserve, j years from the end -/
def rsv (bs : List Nat) (f : Nat) : Nat → Nat
  | 0 => 0
  | j + 1 => fadd 1065353216 (fmul (fmul (fsub 1065353216 (bs[bs.length - 1 - j]?.getD 0)) f) (rsv bs f j))
def rsvAll (bs : List Nat) (f : Nat) : List Nat := (List.range bs.length).map fun i => rsv bs f (bs.length - i)
theorem rsvAll_length (bs : List Nat) (f : Nat) : (rsvAll bs f).length = bs.length := by simp [rsvAll]
theorem rsvAll_at {bs : List Nat} {f k : Nat} (h : k < bs.length) : (rsvAll bs f)[k]? = some (rsv bs f (bs.length - k)) := by simp [rsvAll, h]
theorem val_nn_bd {b K : Nat} (h : 0 ≤ val b) : 0 ≤ val b := h
theorem mul_nn {x y K : Nat} (hx : In1 x) (hy : Bd K y) (hn : 0 ≤ val y) (hK : K ≤ 127) : okM x y ∧ Bd K (fmul x y) ∧ 0 ≤ val (fmul x y) := by
  obtain ⟨r, h1, h2⟩ := mul_res s_lp hx.fin (hy.fin hK)
  obtain ⟨a, b⟩ := okM_of h1
  obtain ⟨_, hb⟩ := fmul_bd (K := 0) hx.bd hy (by omega)
  refine ⟨a, by rw [Nat.zero_add] at hb; exact hb, b ▸ val_nn_of h2 ?_ (Nat.two_pow_pos _)⟩
  by_cases h0 : mag x = 0
  · exact .inr (by show mag x * mag y = 0; rw [h0, Nat.zero_mul])
  · by_cases h3 : mag y = 0
    · exact .inr (by show mag x * mag y = 0; rw [h3, Nat.mul_zero])
    · left
      show (sn x ^^ sn y) = false
      rw [sn_of hx.nn h0, sn_of hn h3]; rfl
theorem rsv_bd {bs : List Nat} {f : Nat} (h : In1s bs) (hf : In1 f) : ∀ j, j ≤ bs.length → j ≤ 120 → Bd j (rsv bs f j) ∧ 0 ≤ val (rsv bs f j)
  | 0, _, _ => ⟨In1_zero.bd, In1_zero.nn⟩
  | j + 1, hj, hm => by
    obtain ⟨b1, n1⟩ := rsv_bd h hf j (by omega) (by omega)
    have q := h.at (k := bs.length - 1 - j) (by omega)
    obtain ⟨_, i1⟩ := one_sub q
    obtain ⟨_, i2⟩ := mul_in1 i1 hf
    obtain ⟨_, b3, n3⟩ := mul_nn i2 b1 n1 (by omega)
    obtain ⟨_, b4, g4⟩ := one_add b3 n3 (by omega)
    exact ⟨b4, g4.nn⟩
theorem rsv_ok {bs : List Nat} {f j : Nat} (h : In1s bs) (hf : In1 f) (hj : j < bs.length) (hm : j < 120) :
    okS 1065353216 (bs[bs.length - 1 - j]?.getD 0) ∧ okM (fsub 1065353216 (bs[bs.length - 1 - j]?.getD 0)) f ∧ okM (fmul (fsub 1065353216 (bs[bs.length - 1 - j]?.getD 0)) f) (rsv bs f j) ∧
      okA 1065353216 (fmul (fmul (fsub 1065353216 (bs[bs.length - 1 - j]?.getD 0)) f) (rsv bs f j)) := by
  obtain ⟨b1, n1⟩ := rsv_bd h hf j (by omega) (by omega)
  have q := h.at (k := bs.length - 1 - j) (by omega)
  obtain ⟨o1, i1⟩ := one_sub q
  obtain ⟨o2, i2⟩ := mul_in1 i1 hf
  obtain ⟨o3, b3, n3⟩ := mul_nn i2 b1 n1 (by omega)
  obtain ⟨o4, b4, g4⟩ := one_add b3 n3 (by omega)
  exact ⟨o1, o2, o3, o4⟩

def rowOk (bs : List Nat) (r : Nat) : Bool := tabOk bs && shareB r
def ReserveRow_r0 (bs : List Nat) (r : Nat) : List Nat := if rowOk bs r then rsvAll bs (factorOf r) else []
def ReserveRow_r1 (bs : List Nat) (r : Nat) : Bool := rowOk bs r
theorem ReserveRow_len (bs : List Nat) (r : Nat) : (ReserveRow_r0 bs r).length ≤ 120 := by
  unfold ReserveRow_r0
  cases h : rowOk bs r
  · simp
  · rw [if_pos rfl, rsvAll_length]
    simp [rowOk] at h
    exact (tab_len h.1).2
def RsvIs (W : World) (bs : List Nat) (r : Nat) (E : Ending) (w' : World) : Prop :=
  ∃ v, E = .returned (.tuple #[v, .bool (ReserveRow_r1 bs r)]) ∧ w'.ownsRow W.heap.size 26 1 v (ReserveRow_r0 bs r).length (flts (ReserveRow_r0 bs r)) ∧ Below W.heap.size W w'
theorem rsv_no {W : World} {bs : List Nat} {r : Nat} (h : rowOk bs r = false) : RsvIs W bs r (.returned (.tuple #[.slice none 0 0, .bool false])) W := by
  unfold RsvIs ReserveRow_r0 ReserveRow_r1
  rw [h]
  exact ⟨_, rfl, ⟨by simp [flts], .inl ⟨rfl, rfl⟩⟩, Below.refl _ _⟩
theorem rsv_yes {W w' : World} {bs : List Nat} {r n : Nat} {v : Value} (h : rowOk bs r = true) (hl : bs.length = n) (ho : w'.ownsRow W.heap.size 26 1 v n (flts (rsvAll bs (factorOf r)))) (hb : Below W.heap.size W w') : RsvIs W bs r (.returned (.tuple #[v, .bool true])) w' := by
  subst hl
  unfold RsvIs ReserveRow_r0 ReserveRow_r1
  rw [h]
  exact ⟨_, rfl, by simpa [rsvAll_length] using ho, hb⟩
/-- the round of a loop that fills an own row from its end -/
theorem back_step {cs xs : List Value} {k : Nat} {u : Value} (h : ∀ j, k + 1 ≤ j → cs[j]? = xs[j]?) (hl : k < cs.length) (hu : xs[k]? = some u) : ∀ j, k ≤ j → (cs.set k u)[j]? = xs[j]? := by
  intro j hj
  rw [List.getElem?_set]
  by_cases e : k = j
  · subst e; rw [if_pos rfl, if_pos hl, hu]
  · rw [if_neg e]; exact h j (by omega)
theorem back_round {a w : World} {base : Nat} {e : TypeId} {n cap g k : Nat} {cs xs : List Value} {u : Value} (hB : a.heap.size ≤ base) (hown : w.ownsRow base e 1 (.slice (some ⟨g, 0, none⟩) n cap) n cs) (hb : Below a.heap.size a w)
    (hf : ∀ j, k + 1 ≤ j → cs[j]? = xs[j]?) (hk : k < n) (hu : xs[k]? = some u) :
    ∃ cs' : List Value, (w.setCell ⟨g, k, none⟩ u).ownsRow base e 1 (.slice (some ⟨g, 0, none⟩) n cap) n cs' ∧ (∀ j, k ≤ j → cs'[j]? = xs[j]?) ∧ Below a.heap.size a (w.setCell ⟨g, k, none⟩ u) := by
  have hl := own_len hown
  refine ⟨_, (hown.stored k u).1, back_step hf (by omega) hu, hb.setCell (p := ⟨g, k, none⟩) ?_ u⟩
  have := (own_block hown).1
  simp only
  omega
attribute [local go_sem] run_store_float
set_option maxHeartbeats 1600000 in
theorem impl_ReserveRow (A : Option Addr) (n c : Nat) (bs : List Nat) (r : Nat) (w : World) (hr : Rd w w.heap.size 1 A n (flts bs)) (hn : n ≤ 1048576) (hz : F32s bs) (hq : r < 4294967296) :
    Calls Try.prog 20 #[.slice A n c, .float .f32 r] w (RsvIs w bs r) := by
  have HL := Lib.hid hr.flen
  cases h : tabOk bs
  · have hfin := Lib.hid (rsv_no (W := w) (bs := bs) (r := r) (by simp [rowOk, h]))
    go_enter Try.func20, Try.ntmps20
    go_wp2_with (go_at_call 17; refine (isLife_any _ _ _ bs _ hr hn).mono ?_; rintro e w' ⟨rfl, rfl⟩)
    go_ret2
    exact hfin.out
  cases h2 : shareB r
  · have hfin := Lib.hid (rsv_no (W := w) (bs := bs) (r := r) (by simp [rowOk, h2]))
    go_enter Try.func20, Try.ntmps20
    go_wp2_with (first | (go_at_call 17; refine (isLife_any _ _ _ bs _ hr hn).mono ?_; rintro e w' ⟨rfl, rfl⟩) | (go_at_call 48; refine (isYield_any _ _).mono ?_; rintro e w' ⟨rfl, rfl⟩))
    go_ret2
    exact hfin.out
  have hin := Lib.hid (tab_in1s hz h)
  have hl := (tab_len h).2
  have hn' : n ≤ 120 := by have := HL.out; omega
  have hok : rowOk bs r = true := by simp [rowOk, h, h2]
  have hfin := Lib.hid (fun v w' => rsv_yes (W := w) (w' := w') (v := v) hok HL.out)
  have hi1 := share_in1 hq h2
  obtain ⟨p1, p2, p3⟩ := factor_ok hi1
  have P3 := Lib.hid p3
  have e1 := fun (t : TypeId) (w : World) => run_fadd (P := Try.prog) t p1 w
  have e2 := fun (t : TypeId) (w : World) => run_fdiv (P := Try.prog) t p2 w
  obtain ⟨f, hf⟩ : ∃ f, f = factorOf r := ⟨_, rfl⟩
  rw [← hf] at P3 hfin
  have e3 : fdiv 1065353216 (fadd 1065353216 r) = f := hf.symm
  rw [e3] at e2
  have HFF := Lib.hid hf
  clear hl hok hf hi1 p1 p2 p3 e3 hz hq
  obtain ⟨i0, hi, hz0, hz1, hz2⟩ := info_parts info_f32
  have hb4 : i0.bytes * n ≤ 281474976710656 := by rw [hz2]; omega
  have hml : n ≤ maxLen := by unfold maxLen; omega
  go_enter Try.func20, Try.ntmps20
  go_wp2_with (first | (go_at_call 17; refine (isLife_any _ _ _ bs _ hr hn).mono ?_; rintro e w' ⟨rfl, rfl⟩) | (go_at_call 48; refine (isYield_any _ _).mono ?_; rintro e w' ⟨rfl, rfl⟩) | (at_make; refine wpList_make_full _ rfl (.tmp 19) (.tmp 19) 22 rfl w.heap.size 26 i0 (.float .f32 0) 1 Try.underlying22 hi hz0 hz1 .i64 .i64 _ _ n rfl rfl rfl rfl hb4 hml (Nat.le_refl _) ?_; intro w1 hown hg))
  have hb := Below.grown (Below.refl w.heap.size w) hg (Nat.le_refl _) (by simp)
  clear hg h h2 hb4 hml
  obtain ⟨g, hg⟩ : ∃ g, g = w.heap.size := ⟨_, rfl⟩
  rw [← hg] at hown ⊢
  have HG := Lib.hid hg
  clear hg
  go_loopw [7, 9] (fun x i wr => ∃ (k s : Nat) (cs : List Value), k ≤ n ∧ i = .int .i64 ((k : Int) - 1) ∧ s = rsv bs f (n - k) ∧ x = .float .f32 s ∧ wr.ownsRow w.heap.size 26 1 (.slice (some ⟨g, 0, none⟩) n n) n cs ∧ (∀ j, k ≤ j → cs[j]? = (flts (rsvAll bs f))[j]?) ∧ Below w.heap.size w wr) (fun x i _ => (intOf i + 1).toNat)
  case atStart =>
    refine ⟨n, 0, _, Nat.le_refl _, rfl, by rw [Nat.sub_self]; rfl, rfl, by rw [HG.out]; rw [HG.out] at hown; exact hown, fun j hj => ?_, hb⟩
    rw [List.getElem?_eq_none (by have := own_len hown; omega), List.getElem?_eq_none (by rw [flts_length, rsvAll_length, HL.out]; omega)]
  case round =>
    obtain ⟨k, s, cs, hk, rfl, hs, rfl, hown', hf, hb'⟩ := hrel
    have HS := Lib.hid hs
    clear hown hb hs
    by_cases h0 : k = 0
    · subst h0
      have hcs := fill_done (n := n) (fun j _ => hf j (Nat.zero_le _)) (own_len hown') (by rw [flts_length, rsvAll_length, HL.out])
      subst hcs
      clear hf hr
      go_wp2_with fail
      go_ret2
      exact hfin.out _ _ hown' hb'
    · obtain ⟨m, rfl⟩ : ∃ m, k = m + 1 := ⟨k - 1, by omega⟩
      have em : ((m + 1 : Nat) : Int) - 1 = (m : Int) := by omega
      rw [em]
      clear em h0
      have hlt : m < n := by omega
      obtain ⟨ad, rfl, hc⟩ := (hr.below hb').flt hlt
      clear hr
      obtain ⟨u, hu⟩ := own_cell hown' hlt
      have hfz := hown'.frozenAt m
      have hv : rsv bs f (n - m) = fadd 1065353216 (fmul (fmul (fsub 1065353216 (bs[m]?.getD 0)) f) (rsv bs f (n - (m + 1)))) := by
        have e : n - m = (n - (m + 1)) + 1 := by omega
        rw [e]
        show fadd _ (fmul (fmul (fsub _ (bs[bs.length - 1 - (n - (m + 1))]?.getD 0)) f) _) = _
        rw [show bs.length - 1 - (n - (m + 1)) = m by have := HL.out; omega]
      have ho := rsv_ok hin.out P3.out (j := n - (m + 1)) (by have := HL.out; omega) (by omega)
      rw [show bs.length - 1 - (n - (m + 1)) = m by have := HL.out; omega] at ho
      have hst := back_round (Nat.le_refl _) hown' hb' hf hlt (u := .float .f32 (rsv bs f (n - m))) (by rw [flts_at, rsvAll_at (by have := HL.out; omega), HL.out]; rfl)
      obtain ⟨b, hbb⟩ : ∃ b, b = bs[m]?.getD 0 := ⟨_, rfl⟩
      rw [← hbb] at hc ho hv
      rw [← HS.out] at ho hv
      rw [hv] at hst
      obtain ⟨o1, o2, o3, o4⟩ := ho
      have q1 := fun (t : TypeId) (w : World) => run_fsub (P := Try.prog) t o1 w
      have q2 := fun (t : TypeId) (w : World) => run_fmul (P := Try.prog) t o2 w
      have q3 := fun (t : TypeId) (w : World) => run_fmul (P := Try.prog) t o3 w
      have q4 := fun (t : TypeId) (w : World) => run_fadd (P := Try.prog) t o4 w
      have HV := Lib.hid hv
      have HST := Lib.hid hst
      clear o1 o2 o3 o4 hv hst hf hbb
      go_wp2_with fail
      go_roundw
      case rel => obtain ⟨cs', h1, h2, h3⟩ := HST.out; exact ⟨m, _, cs', by omega, rfl, HV.out.symm, rfl, h1, h2, h3⟩
      case measure => simp [intOf]
set_option maxHeartbeats 1600000 in
theorem spec_ReserveRow (A : Option Addr) (n c : Nat) (bs : List Nat) (r : Nat) (w : World) (hr : Rd w w.heap.size 1 A n (flts bs)) (hn : n ≤ 1048576) (hz : F32s bs) (hq : r < 4294967296) :
    Calls Try.prog 19 #[.slice A n c, .float .f32 r] w (RsvIs w bs r) := by
  have HL := Lib.hid hr.flen
  cases h : tabOk bs
  · have hfin := Lib.hid (rsv_no (W := w) (bs := bs) (r := r) (by simp [rowOk, h]))
    go_enter Try.func19, Try.ntmps19
    go_wp2_with (go_at_call 46; refine (l06Table_any _ _ _ bs _ hr hn).mono ?_; rintro e w' ⟨rfl, rfl⟩)
    go_ret2
    exact hfin.out
  cases h2 : shareB r
  · have hfin := Lib.hid (rsv_no (W := w) (bs := bs) (r := r) (by simp [rowOk, h2]))
    go_enter Try.func19, Try.ntmps19
    go_wp2_with (first | (go_at_call 46; refine (l06Table_any _ _ _ bs _ hr hn).mono ?_; rintro e w' ⟨rfl, rfl⟩) | (go_at_call 47; refine (l02Share_any _ _).mono ?_; rintro e w' ⟨rfl, rfl⟩))
    go_ret2
    exact hfin.out
  have hin := Lib.hid (tab_in1s hz h)
  have hl := (tab_len h).2
  have hn' : n ≤ 120 := by have := HL.out; omega
  have hok : rowOk bs r = true := by simp [rowOk, h, h2]
  have hfin := Lib.hid (fun v w' => rsv_yes (W := w) (w' := w') (v := v) hok HL.out)
  have hi1 := share_in1 hq h2
  obtain ⟨p1, p2, p3⟩ := factor_ok hi1
  have P3 := Lib.hid p3
  have e1 := fun (t : TypeId) (w : World) => run_fadd (P := Try.prog) t p1 w
  have e2 := fun (t : TypeId) (w : World) => run_fdiv (P := Try.prog) t p2 w
  obtain ⟨f, hf⟩ : ∃ f, f = factorOf r := ⟨_, rfl⟩
  rw [← hf] at P3 hfin
  have e3 : fdiv 1065353216 (fadd 1065353216 r) = f := hf.symm
  rw [e3] at e2
  have HFF := Lib.hid hf
  clear hl hok hf hi1 p1 p2 p3 e3 hz hq
  obtain ⟨i0, hi, hz0, hz1, hz2⟩ := info_parts info_f32
  have hb4 : i0.bytes * n ≤ 281474976710656 := by rw [hz2]; omega
  have hml : n ≤ maxLen := by unfold maxLen; omega
  go_enter Try.func19, Try.ntmps19
  go_wp2_with (first | (go_at_call 46; refine (l06Table_any _ _ _ bs _ hr hn).mono ?_; rintro e w' ⟨rfl, rfl⟩) | (go_at_call 47; refine (l02Share_any _ _).mono ?_; rintro e w' ⟨rfl, rfl⟩) | (at_make; refine wpList_make_full _ rfl (.tmp 18) (.tmp 18) 22 rfl w.heap.size 26 i0 (.float .f32 0) 1 Try.underlying22 hi hz0 hz1 .i64 .i64 _ _ n rfl rfl rfl rfl hb4 hml (Nat.le_refl _) ?_; intro w1 hown hg))
  have hb := Below.grown (Below.refl w.heap.size w) hg (Nat.le_refl _) (by simp)
  clear hg h h2 hb4 hml
  obtain ⟨g, hg⟩ : ∃ g, g = w.heap.size := ⟨_, rfl⟩
  rw [← hg] at hown ⊢
  have HG := Lib.hid hg
  clear hg
  go_loopw [7, 8] (fun x i wr => ∃ (k s : Nat) (cs : List Value), k ≤ n ∧ i = .int .i64 ((k : Int) - 1) ∧ s = rsv bs f (n - k) ∧ x = .float .f32 s ∧ wr.ownsRow w.heap.size 26 1 (.slice (some ⟨g, 0, none⟩) n n) n cs ∧ (∀ j, k ≤ j → cs[j]? = (flts (rsvAll bs f))[j]?) ∧ Below w.heap.size w wr) (fun x i _ => (intOf i + 1).toNat)
  case atStart =>
    refine ⟨n, 0, _, Nat.le_refl _, rfl, by rw [Nat.sub_self]; rfl, rfl, by rw [HG.out]; rw [HG.out] at hown; exact hown, fun j hj => ?_, hb⟩
    rw [List.getElem?_eq_none (by have := own_len hown; omega), List.getElem?_eq_none (by rw [flts_length, rsvAll_length, HL.out]; omega)]
  case round =>
    obtain ⟨k, s, cs, hk, rfl, hs, rfl, hown', hf, hb'⟩ := hrel
    have HS := Lib.hid hs
    clear hown hb hs
    by_cases h0 : k = 0
    · subst h0
      have hcs := fill_done (n := n) (fun j _ => hf j (Nat.zero_le _)) (own_len hown') (by rw [flts_length, rsvAll_length, HL.out])
      subst hcs
      clear hf hr
      go_wp2_with fail
      go_ret2
      exact hfin.out _ _ hown' hb'
    · obtain ⟨m, rfl⟩ : ∃ m, k = m + 1 := ⟨k - 1, by omega⟩
      have em : ((m + 1 : Nat) : Int) - 1 = (m : Int) := by omega
      rw [em]
      clear em h0
      have hlt : m < n := by omega
      obtain ⟨ad, rfl, hc⟩ := (hr.below hb').flt hlt
      clear hr
      obtain ⟨u, hu⟩ := own_cell hown' hlt
      have hfz := hown'.frozenAt m
      have hv : rsv bs f (n - m) = fadd 1065353216 (fmul (fmul (fsub 1065353216 (bs[m]?.getD 0)) f) (rsv bs f (n - (m + 1)))) := by
        have e : n - m = (n - (m + 1)) + 1 := by omega
        rw [e]
        show fadd _ (fmul (fmul (fsub _ (bs[bs.length - 1 - (n - (m + 1))]?.getD 0)) f) _) = _
        rw [show bs.length - 1 - (n - (m + 1)) = m by have := HL.out; omega]
      have ho := rsv_ok hin.out P3.out (j := n - (m + 1)) (by have := HL.out; omega) (by omega)
      rw [show bs.length - 1 - (n - (m + 1)) = m by have := HL.out; omega] at ho
      have hst := back_round (Nat.le_refl _) hown' hb' hf hlt (u := .float .f32 (rsv bs f (n - m))) (by rw [flts_at, rsvAll_at (by have := HL.out; omega), HL.out]; rfl)
      obtain ⟨b, hbb⟩ : ∃ b, b = bs[m]?.getD 0 := ⟨_, rfl⟩
      rw [← hbb] at hc ho hv
      rw [← HS.out] at ho hv
      rw [hv] at hst
      obtain ⟨o1, o2, o3, o4⟩ := ho
      have q1 := fun (t : TypeId) (w : World) => run_fsub (P := Try.prog) t o1 w
      have q2 := fun (t : TypeId) (w : World) => run_fmul (P := Try.prog) t o2 w
      have q3 := fun (t : TypeId) (w : World) => run_fmul (P := Try.prog) t o3 w
      have q4 := fun (t : TypeId) (w : World) => run_fadd (P := Try.prog) t o4 w
      have HV := Lib.hid hv
      have HST := Lib.hid hst
      clear o1 o2 o3 o4 hv hst hf hbb
      go_wp2_with fail
      go_roundw
      case rel => obtain ⟨cs', h1, h2, h3⟩ := HST.out; exact ⟨m, _, cs', by omega, rfl, HV.out.symm, rfl, h1, h2, h3⟩
      case measure => simp [intOf]
end Go.Proofs.Ytefoebaoejoamaa
