/-
  RunFund, WorthNow: the contracts.
-/
import Derived.Test.YtkdiegplbloccaaFundW
namespace Go.Proofs.Ytkdiegplbloccaa
open Fl
open Go.ChangeShapes Go.WideShapes Go.ChangeAt Go.RowKit
set_option linter.unusedVariables false
set_option linter.unusedSimpArgs false

theorem rd_two_v (w : World) (u v : Value) (t : TypeId) : Rd (w.alloc (.cells #[u, v] t)) (w.alloc (.cells #[u, v] t)).heap.size 1 (some ⟨w.heap.size, 0, none⟩) 2 [u, v] := by
  refine ⟨rfl, fun _ => ⟨_, rfl, by simp, fun j x hx => ?_⟩⟩
  have hj : j < 2 := by
    have := (List.getElem?_eq_some_iff.1 hx).1
    simpa using this
  have e : (⟨w.heap.size, 0, none⟩ : Addr).add j = ⟨w.heap.size, j, none⟩ := by cases j <;> simp [Addr.add]
  rw [e, World.cell?_alloc_at _ _ _ _ rfl]
  match j, hj with
  | 0, _ => exact hx
  | 1, _ => exact hx
theorem rd_one_v (w : World) (u : Value) (t : TypeId) : Rd (w.alloc (.cells #[u] t)) (w.alloc (.cells #[u] t)).heap.size 1 (some ⟨w.heap.size, 0, none⟩) 1 [u] := by
  refine ⟨rfl, fun _ => ⟨_, rfl, by simp, fun j x hx => ?_⟩⟩
  have hj : j < 1 := by
    have := (List.getElem?_eq_some_iff.1 hx).1
    simpa using this
  obtain rfl : j = 0 := by omega
  rw [show (⟨w.heap.size, 0, none⟩ : Addr).add 0 = ⟨w.heap.size, 0, none⟩ from rfl, World.cell?_alloc_at _ _ _ _ rfl]
  exact hx
theorem fund_two {st p n m : Nat} {A B : Option Addr} {c d : Nat} {is os rs : List Nat} (hn : is.length = n) (hm : os.length = m) (hp : rs.length = p) : fundB st is os rs = (finB st && fundR rs p [⟨A, n, c, is⟩, ⟨B, m, d, os⟩]) := by
  subst hn hm hp
  unfold fundB fundOk fundR badL
  simp only [List.all_cons, List.all_nil, List.any_cons, List.any_nil, Bool.or_false, Bool.and_true, Bool.not_or, Bool.not_not]
theorem fund_one {p n : Nat} {A : Option Addr} {c : Nat} {os rs : List Nat} (hn : os.length = n) (hp : rs.length = p) : fundOk 0 [os] rs = fundR rs p [⟨A, n, c, os⟩] := by
  subst hn hp
  unfold fundOk fundR badL
  simp only [List.all_cons, List.all_nil, List.any_cons, List.any_nil, Bool.or_false, Bool.and_true, Bool.not_or, Bool.not_not]
  rw [finB_iff.2 F_zero]; rfl
theorem fls_two {w : World} {n m : Nat} {A B : Option Addr} {c d : Nat} {is os : List Nat} (hi : Rd w w.heap.size 1 A n (flts is)) (ho : Rd w w.heap.size 1 B m (flts os)) (hn : n ≤ 1048576) (hm : m ≤ 1048576) : FlsRd w [⟨A, n, c, is⟩, ⟨B, m, d, os⟩] := by
  intro l hl
  rcases List.mem_cons.1 hl with rfl | hl
  · exact ⟨hi, hn⟩
  · rcases List.mem_cons.1 hl with rfl | hl
    · exact ⟨ho, hm⟩
    · cases hl
theorem fls_one {w : World} {n : Nat} {A : Option Addr} {c : Nat} {is : List Nat} (hi : Rd w w.heap.size 1 A n (flts is)) (hn : n ≤ 1048576) : FlsRd w [⟨A, n, c, is⟩] := by
  intro l hl
  rcases List.mem_cons.1 hl with rfl | hl
  · exact ⟨hi, hn⟩
  · cases hl
set_option maxHeartbeats 1600000 in
theorem impl_RunFund (st : Nat) (A : Option Addr) (n c : Nat) (is : List Nat) (B : Option Addr) (m d : Nat) (os : List Nat) (C : Option Addr) (p q : Nat) (rs : List Nat) (w : World) (b0 : st < 4294967296)
    (hi : Rd w w.heap.size 1 A n (flts is)) (hn : n ≤ 1048576) (hzi : F32s is) (ho : Rd w w.heap.size 1 B m (flts os)) (hm : m ≤ 1048576) (hzo : F32s os) (hr : Rd w w.heap.size 1 C p (flts rs)) (hp : p ≤ 1048576) (hzr : F32s rs) :
    Calls Try.prog 24 #[.float .f32 st, .slice A n c, .slice B m d, .slice C p q] w (RunIs w st is os rs) := by
  have HFB := Lib.hid (fund_two (st := st) (A := A) (B := B) (c := c) (d := d) hi.flen ho.flen hr.flen)
  have HP := Lib.hid hr.flen
  have HIL := Lib.hid hi.flen
  have HOL := Lib.hid ho.flen
  cases h1 : finB st
  · have hfin := Lib.hid (fun w' hb => run_no (W := w) (w' := w') (st := st) (is := is) (os := os) (rs := rs) (by unfold RunFund_r1; rw [HFB.out, h1]; rfl) hb)
    go_enter Try.func24, Try.ntmps24
    go_wp2_with fail
    refine (isFinite_any st _).mono ?_
    rintro e w1 ⟨rfl, hb⟩
    rw [h1]
    go_wp2_with fail
    go_ret2
    exact hfin.out _ hb
  cases h2 : fundR rs p [⟨A, n, c, is⟩, ⟨B, m, d, os⟩]
  · have hfin := Lib.hid (fun w' hb => run_no (W := w) (w' := w') (st := st) (is := is) (os := os) (rs := rs) (by unfold RunFund_r1; rw [HFB.out, h1, h2]; rfl) hb)
    go_enter Try.func24, Try.ntmps24
    go_wp2_with fail
    refine (isFinite_any st _).mono ?_
    rintro e w1 ⟨rfl, hb⟩
    rw [h1]
    have HB := Lib.hid hb
    clear hb
    go_wp2_with fail
    have hbA := (Below.refl w1.heap.size w1).alloc (Nat.le_refl _) (.cells #[.slice A n c, .slice B m d] 22)
    refine (isFund_any C p q rs _ 2 2 [⟨A, n, c, is⟩, ⟨B, m, d, os⟩] _ ((hr.on HB.out).on hbA) (rd_two_v _ _ _ _) (fls_two ((hi.on HB.out).on hbA) ((ho.on HB.out).on hbA) hn hm) (by decide) hp).mono ?_
    rintro e w2 ⟨rfl, hb2⟩
    rw [h2]
    have HB2 := Lib.hid (below_step HB.out (below_step hbA hb2))
    clear hbA hb2
    go_wp2_with fail
    go_ret2
    exact hfin.out _ HB2.out
  have hfb : fundB st is os rs = true := by rw [HFB.out, h1, h2]; rfl
  obtain ⟨hF, hp64⟩ := fund_all hfb HP.out hzr
  have HF := Lib.hid hF
  have hnp : n = p := by have := hF.li; have := HIL.out; omega
  have hmp : m = p := by have := hF.lo; have := HOL.out; omega
  have HNP := Lib.hid hnp
  have HMP := Lib.hid hmp
  have hfy := Lib.hid (fun v w' hf ho hb => run_yes (W := w) (w' := w') (st := st) (n := p) (is := is) (os := os) (rs := rs) (v := v) hfb HP.out hf ho hb)
  have hfn := Lib.hid (fun w' (hf : allFin (runL st is os rs p) = false) hb => run_no (W := w) (w' := w') (st := st) (is := is) (os := os) (rs := rs) (by unfold RunFund_r1; rw [HP.out, hf, Bool.and_false]) hb)
  clear hnp hmp hF hfb
  go_enter Try.func24, Try.ntmps24
  go_wp2_with fail
  refine (isFinite_any st _).mono ?_
  rintro e w1 ⟨rfl, hb⟩
  rw [h1]
  have HB := Lib.hid hb
  clear hb
  go_wp2_with fail
  have hbA := (Below.refl w1.heap.size w1).alloc (Nat.le_refl _) (.cells #[.slice A n c, .slice B m d] 22)
  refine (isFund_any C p q rs _ 2 2 [⟨A, n, c, is⟩, ⟨B, m, d, os⟩] _ ((hr.on HB.out).on hbA) (rd_two_v _ _ _ _) (fls_two ((hi.on HB.out).on hbA) ((ho.on HB.out).on hbA) hn hm) (by decide) hp).mono ?_
  rintro e w2 ⟨rfl, hb2⟩
  rw [h2]
  have HB2 := Lib.hid (below_step HB.out (below_step hbA hb2))
  clear hbA hb2
  go_wp2_with fail
  refine (funded_loop st A n c is B m d os C p q rs _ (hi.on HB2.out) (ho.on HB2.out) (hr.on HB2.out) hp64 HF.out HNP.out HMP.out).mono ?_
  rintro e w3 ⟨v, rfl, hown, hb3⟩
  have HO := Lib.hid (own_base hown HB2.out.size)
  have HB3 := Lib.hid (below_step HB2.out hb3)
  clear hown hb3 hi ho hr
  cases h3 : allFin (runL st is os rs p)
  · go_wp2_with fail
    go_ret2
    exact hfn.out _ h3 HB3.out
  · go_wp2_with fail
    go_ret2
    exact hfy.out _ _ h3 HO.out HB3.out
set_option maxHeartbeats 1600000 in
theorem spec_RunFund (st : Nat) (A : Option Addr) (n c : Nat) (is : List Nat) (B : Option Addr) (m d : Nat) (os : List Nat) (C : Option Addr) (p q : Nat) (rs : List Nat) (w : World) (b0 : st < 4294967296)
    (hi : Rd w w.heap.size 1 A n (flts is)) (hn : n ≤ 1048576) (hzi : F32s is) (ho : Rd w w.heap.size 1 B m (flts os)) (hm : m ≤ 1048576) (hzo : F32s os) (hr : Rd w w.heap.size 1 C p (flts rs)) (hp : p ≤ 1048576) (hzr : F32s rs) :
    Calls Try.prog 22 #[.float .f32 st, .slice A n c, .slice B m d, .slice C p q] w (RunIs w st is os rs) := by
  have HP := Lib.hid hr.flen
  have HIL := Lib.hid hi.flen
  have HOL := Lib.hid ho.flen
  cases h1 : fundB st is os rs
  · have hfin := Lib.hid (fun w' hb => run_no (W := w) (w' := w') (st := st) (is := is) (os := os) (rs := rs) (by unfold RunFund_r1; rw [h1]; rfl) hb)
    go_enter Try.func22, Try.ntmps22
    go_wp2_with fail
    refine (l07Fund_any st A n c is B m d os C p q rs _ hi ho hr hn hm hp).mono ?_
    rintro e w1 ⟨rfl, hb⟩
    rw [h1]
    go_wp2_with fail
    go_ret2
    exact hfin.out _ hb
  obtain ⟨hF, hp64⟩ := fund_all h1 HP.out hzr
  have HF := Lib.hid hF
  have hnp : n = p := by have := hF.li; have := HIL.out; omega
  have hmp : m = p := by have := hF.lo; have := HOL.out; omega
  have HNP := Lib.hid hnp
  have HMP := Lib.hid hmp
  have hfy := Lib.hid (fun v w' hf ho hb => run_yes (W := w) (w' := w') (st := st) (n := p) (is := is) (os := os) (rs := rs) (v := v) h1 HP.out hf ho hb)
  have hfn := Lib.hid (fun w' (hf : allFin (runL st is os rs p) = false) hb => run_no (W := w) (w' := w') (st := st) (is := is) (os := os) (rs := rs) (by unfold RunFund_r1; rw [HP.out, hf, Bool.and_false]) hb)
  clear hnp hmp hF
  go_enter Try.func22, Try.ntmps22
  go_wp2_with fail
  refine (l07Fund_any st A n c is B m d os C p q rs _ hi ho hr hn hm hp).mono ?_
  rintro e w1 ⟨rfl, hb⟩
  rw [h1]
  have HB2 := Lib.hid hb
  clear hb
  go_wp2_with fail
  refine (run_loop st A n c is B m d os C p q rs _ (hi.on HB2.out) (ho.on HB2.out) (hr.on HB2.out) hp64 HF.out HNP.out HMP.out).mono ?_
  rintro e w3 ⟨v, rfl, hown, hb3⟩
  obtain ⟨A3, c3, rfl, hr3⟩ := own_rd hown rfl
  have HO := Lib.hid (own_base hown HB2.out.size)
  have HB3 := Lib.hid (below_step HB2.out hb3)
  have hR2 : p ≤ 1048576 := by omega
  clear hown hb3 hi ho hr
  go_wp2_with fail
  refine (l02Finite_any _ _ _ (runL st is os rs p) _ hr3 hR2).mono ?_
  rintro e w4 ⟨rfl, hb4⟩
  have HO4 := Lib.hid (own_on HO.out hb4)
  have HB4 := Lib.hid (below_step HB3.out hb4)
  clear hb4 hr3
  cases h3 : allFin (runL st is os rs p)
  · go_wp2_with fail
    go_ret2
    exact hfn.out _ h3 HB4.out
  · go_wp2_with fail
    go_ret2
    exact hfy.out _ _ h3 HO4.out HB4.out
/-! ### WorthNow -/
set_option maxRecDepth 100000 in
set_option maxHeartbeats 1600000 in
theorem impl_WorthNow (A : Option Addr) (n c : Nat) (os : List Nat) (C : Option Addr) (p q : Nat) (rs : List Nat) (w : World) (ho : Rd w w.heap.size 1 A n (flts os)) (hn : n ≤ 1048576) (hzo : F32s os) (hr : Rd w w.heap.size 1 C p (flts rs)) (hp : p ≤ 1048576) (hzr : F32s rs) :
    Calls Try.prog 29 #[.slice A n c, .slice C p q] w (WorIs w os rs) := by
  have HP := Lib.hid hr.flen
  have HOL := Lib.hid ho.flen
  have HFB := Lib.hid (fund_one (A := A) (c := c) ho.flen hr.flen)
  have HTW := Lib.hid (show fundB 0 os os rs = fundOk 0 [os] rs by
    unfold fundB fundOk; simp only [List.all_cons, List.all_nil, Bool.and_true, Bool.and_self])
  cases h1 : fundOk 0 [os] rs
  · have hfin := Lib.hid (fun w' hb => wor_no (W := w) (w' := w') (os := os) (rs := rs) h1 hb)
    go_enter Try.func29, Try.ntmps29
    go_wp2_with fail
    have hbA := (Below.refl w.heap.size w).alloc (Nat.le_refl _) (.cells #[.slice A n c] 22)
    refine (isFund_any C p q rs _ 1 1 [⟨A, n, c, os⟩] _ (hr.on hbA) (rd_one_v _ _ _) (fls_one (ho.on hbA) hn) (by decide) hp).mono ?_
    rintro e w1 ⟨rfl, hb⟩
    rw [← HFB.out, h1]
    have HB := Lib.hid (below_step hbA hb)
    clear hbA hb
    go_wp2_with fail
    go_ret2
    exact hfin.out _ HB.out
  have hl : n = p ∧ p ≤ 64 := by
    have h := h1
    unfold fundOk lenOk at h
    simp at h
    have := HP.out
    have := HOL.out
    omega
  have hfin := Lib.hid (fun s w' hs hb => wor_yes (W := w) (w' := w') (os := os) (rs := rs) (n := p) (s := s) h1 HP.out hs hb)
  obtain ⟨hnp, hp64⟩ := hl
  obtain rfl : p = n := hnp.symm
  go_enter Try.func29, Try.ntmps29
  go_wp2_with fail
  have hbA := (Below.refl w.heap.size w).alloc (Nat.le_refl _) (.cells #[.slice A p c] 22)
  refine (isFund_any C p q rs _ 1 1 [⟨A, p, c, os⟩] _ (hr.on hbA) (rd_one_v _ _ _) (fls_one (ho.on hbA) hn) (by decide) hp).mono ?_
  rintro e w1 ⟨rfl, hb⟩
  rw [← HFB.out, h1]
  have HB := Lib.hid (below_step hbA hb)
  clear hbA hb
  clear h1
  go_wp2_with fail
  go_loopw [6, 7, 8, 9, 17] (fun sv pv _ _ i wr => ∃ (k s pr : Nat), k ≤ p ∧ i = .int .i64 k ∧ sv = .float .f32 s ∧ pv = .float .f32 pr ∧ Says (wStep os rs k).1 s ∧ Says (wStep os rs k).2 pr ∧ Below w.heap.size w wr) (fun _ _ _ _ i _ => p - (intOf i).toNat)
  case atStart => exact ⟨0, 0, 1065353216, Nat.zero_le _, rfl, rfl, rfl, rfl, rfl, HB.out⟩
  case round =>
    obtain ⟨k, s, pr, hk, rfl, rfl, rfl, hs, hpr, hbw⟩ := hrel
    have HS := Lib.hid hs
    have HPR := Lib.hid hpr
    clear hs hpr
    by_cases hlt : k < p
    · have hlt2 : k < p := hlt
      obtain ⟨ae, rfl, hc2⟩ := (ho.below hbw).flt hlt2
      obtain ⟨af, rfl, hc3⟩ := (hr.below hbw).flt hlt
      have i1 : (0 : Int) ≤ k := by omega
      have i2 : (k : Int) < p := by omega
      obtain ⟨x2, e2⟩ : ∃ x, x = os[k]?.getD 0 := ⟨_, rfl⟩
      obtain ⟨x3, e3⟩ : ∃ x, x = rs[k]?.getD 0 := ⟨_, rfl⟩
      rw [← e2] at hc2
      rw [← e3] at hc3
      have H2 := Lib.hid (show Says (atN os k) x2 from e2)
      have H3 := Lib.hid (show Says (atN rs k) x3 from e3)
      have qA := fun (t : TypeId) (x y : Nat) (w : World) => run_anyA (P := Try.prog) t x y w
      have qM := fun (t : TypeId) (x y : Nat) (w : World) => run_anyM (P := Try.prog) t x y w
      have qD := fun (t : TypeId) (x y : Nat) (w : World) => run_anyD (P := Try.prog) t x y w
      have HB2 := Lib.hid hbw
      clear ho hr e2 e3 hbw
      go_wp2_with fail
      go_roundw
      case rel => exact ⟨k + 1, _, _, by omega, by go_num, rfl, rfl, sayA HS.out (sayD H2.out HPR.out _) _, sayM HPR.out (sayA (p := some 1065353216) (x := 1065353216) rfl H3.out _) _, by repeat first | exact HB2.out | apply bl_drew⟩
      case measure => simp [intOf]; omega
    · obtain rfl : p = k := by omega
      clear ho hr
      have HB2 := Lib.hid hbw
      clear hbw
      have HG := Lib.hid (finite_any s)
      cases hf : finB s
      · have HF := Lib.hid hf
        go_wp2_with (go_at_call 73; refine (HG.out _).mono ?_; rintro e w4 ⟨rfl, hb4⟩; rw [HF.out])
        go_ret2
        have := hfin.out _ _ HS.out (below_step HB2.out hb4)
        rw [HF.out] at this
        exact this
      · have HF := Lib.hid hf
        go_wp2_with (go_at_call 73; refine (HG.out _).mono ?_; rintro e w4 ⟨rfl, hb4⟩; rw [HF.out])
        go_ret2
        have := hfin.out _ _ HS.out (below_step HB2.out hb4)
        rw [HF.out] at this
        exact this
set_option maxRecDepth 100000 in
set_option maxHeartbeats 1600000 in
theorem spec_WorthNow (A : Option Addr) (n c : Nat) (os : List Nat) (C : Option Addr) (p q : Nat) (rs : List Nat) (w : World) (ho : Rd w w.heap.size 1 A n (flts os)) (hn : n ≤ 1048576) (hzo : F32s os) (hr : Rd w w.heap.size 1 C p (flts rs)) (hp : p ≤ 1048576) (hzr : F32s rs) :
    Calls Try.prog 28 #[.slice A n c, .slice C p q] w (WorIs w os rs) := by
  have HP := Lib.hid hr.flen
  have HOL := Lib.hid ho.flen
  have HFB := Lib.hid (fund_one (A := A) (c := c) ho.flen hr.flen)
  have HTW := Lib.hid (show fundB 0 os os rs = fundOk 0 [os] rs by
    unfold fundB fundOk; simp only [List.all_cons, List.all_nil, Bool.and_true, Bool.and_self])
  cases h1 : fundOk 0 [os] rs
  · have hfin := Lib.hid (fun w' hb => wor_no (W := w) (w' := w') (os := os) (rs := rs) h1 hb)
    go_enter Try.func28, Try.ntmps28
    go_wp2_with fail
    refine (l07Fund_any 0 A n c os A n c os C p q rs _ ho ho hr hn hn hp).mono ?_
    rintro e w1 ⟨rfl, hb⟩
    rw [HTW.out, h1]
    have HB := Lib.hid hb
    clear hb
    go_wp2_with fail
    go_ret2
    exact hfin.out _ HB.out
  have hl : n = p ∧ p ≤ 64 := by
    have h := h1
    unfold fundOk lenOk at h
    simp at h
    have := HP.out
    have := HOL.out
    omega
  have hfin := Lib.hid (fun s w' hs hb => wor_yes (W := w) (w' := w') (os := os) (rs := rs) (n := p) (s := s) h1 HP.out hs hb)
  obtain ⟨hnp, hp64⟩ := hl
  obtain rfl : p = n := hnp.symm
  go_enter Try.func28, Try.ntmps28
  go_wp2_with fail
  refine (l07Fund_any 0 A p c os A p c os C p q rs _ ho ho hr hn hn hp).mono ?_
  rintro e w1 ⟨rfl, hb⟩
  rw [HTW.out, h1]
  have HB := Lib.hid hb
  clear hb
  clear h1
  go_wp2_with fail
  go_loopw [6, 7, 8, 9, 17] (fun sv pv _ _ i wr => ∃ (k s pr : Nat), k ≤ p ∧ i = .int .i64 k ∧ sv = .float .f32 s ∧ pv = .float .f32 pr ∧ Says (wStep os rs k).1 s ∧ Says (wStep os rs k).2 pr ∧ Below w.heap.size w wr) (fun _ _ _ _ i _ => p - (intOf i).toNat)
  case atStart => exact ⟨0, 0, 1065353216, Nat.zero_le _, rfl, rfl, rfl, rfl, rfl, HB.out⟩
  case round =>
    obtain ⟨k, s, pr, hk, rfl, rfl, rfl, hs, hpr, hbw⟩ := hrel
    have HS := Lib.hid hs
    have HPR := Lib.hid hpr
    clear hs hpr
    by_cases hlt : k < p
    · have hlt2 : k < p := hlt
      obtain ⟨ae, rfl, hc2⟩ := (ho.below hbw).flt hlt2
      obtain ⟨af, rfl, hc3⟩ := (hr.below hbw).flt hlt
      have i1 : (0 : Int) ≤ k := by omega
      have i2 : (k : Int) < p := by omega
      obtain ⟨x2, e2⟩ : ∃ x, x = os[k]?.getD 0 := ⟨_, rfl⟩
      obtain ⟨x3, e3⟩ : ∃ x, x = rs[k]?.getD 0 := ⟨_, rfl⟩
      rw [← e2] at hc2
      rw [← e3] at hc3
      have H2 := Lib.hid (show Says (atN os k) x2 from e2)
      have H3 := Lib.hid (show Says (atN rs k) x3 from e3)
      have qA := fun (t : TypeId) (x y : Nat) (w : World) => run_anyA (P := Try.prog) t x y w
      have qM := fun (t : TypeId) (x y : Nat) (w : World) => run_anyM (P := Try.prog) t x y w
      have qD := fun (t : TypeId) (x y : Nat) (w : World) => run_anyD (P := Try.prog) t x y w
      have HB2 := Lib.hid hbw
      clear ho hr e2 e3 hbw
      go_wp2_with fail
      go_roundw
      case rel => exact ⟨k + 1, _, _, by omega, by go_num, rfl, rfl, sayA HS.out (sayD H2.out HPR.out _) _, sayM HPR.out (sayA (p := some 1065353216) (x := 1065353216) rfl H3.out _) _, by repeat first | exact HB2.out | apply bl_drew⟩
      case measure => simp [intOf]; omega
    · obtain rfl : p = k := by omega
      clear ho hr
      have HB2 := Lib.hid hbw
      clear hbw
      have HG := Lib.hid (l02Number_any s)
      cases hf : finB s
      · have HF := Lib.hid hf
        go_wp2_with (go_at_call 72; refine (HG.out _).mono ?_; rintro e w4 ⟨rfl, hb4⟩; rw [HF.out])
        go_ret2
        have := hfin.out _ _ HS.out (below_step HB2.out hb4)
        rw [HF.out] at this
        exact this
      · have HF := Lib.hid hf
        go_wp2_with (go_at_call 72; refine (HG.out _).mono ?_; rintro e w4 ⟨rfl, hb4⟩; rw [HF.out])
        go_ret2
        have := hfin.out _ _ HS.out (below_step HB2.out hb4)
        rw [HF.out] at this
        exact this
end Go.Proofs.Ytkdiegplbloccaa
