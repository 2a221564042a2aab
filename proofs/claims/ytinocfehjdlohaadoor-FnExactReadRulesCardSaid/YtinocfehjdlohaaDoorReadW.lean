/-
  READING A RULE: the reference's l05Digits, l05Skip.
-/
import Derived.Test.YtinocfehjdlohaaDoorReadS
namespace Go.Proofs.YtinocfehjdlohaaDoor
open Go.ChangeShapes Go.WideShapes Go.ChangeAt Go.RowKit
set_option linter.unusedVariables false
set_option linter.unusedSimpArgs false

theorem l05Skip_is (l : List UInt8) (a : Int) (sep : ByteArray) (t : List UInt8) (ht : sep.data.toList = t) (hs : t.length ≤ 10) (w : World) (hl : l.length ≤ 1048576) (ha : -1 ≤ a ∧ a ≤ l.length) :
    Calls Tryd.prog 56 #[.string (txB l), .int .i64 a, .string sep] w fun e w' => e = .returned (.int .i64 (skpI l a t)) ∧ w = w' := by
  have hz : (txB l).size = l.length := txB_size l
  have hq : sep.size = t.length := by rw [← ht]; rfl
  by_cases h0 : a < 0
  · have hfin := Lib.hid (show skpI l a t = -1 by unfold skpI; rw [if_pos h0])
    go_enter Tryd.func56, Tryd.ntmps56
    go_wp2
    go_ret
    exact ⟨by rw [hfin.out]; rfl, rfl⟩
  · obtain ⟨n, rfl⟩ : ∃ n : Nat, a = n := ⟨a.toNat, by omega⟩
    by_cases h1 : l.length < n + t.length
    · have hfin := Lib.hid (show skpI l n t = -1 by
        refine skp_no ?_
        cases h : t.isPrefixOf (l.drop n) with
        | false => rfl
        | true =>
          rw [List.isPrefixOf_iff_prefix] at h
          have := h.length_le
          rw [List.length_drop] at this
          omega)
      have i1 : (l.length : Int) < n + t.length := by omega
      go_enter Tryd.func56, Tryd.ntmps56
      go_wp2_with fail
      go_ret
      exact ⟨by rw [hfin.out]; rfl, rfl⟩
    · obtain ⟨e, he0⟩ : ∃ e, e = n + t.length := ⟨_, rfl⟩
      have hE : (n : Int) + t.length = e := by omega
      have i1 : ¬ (l.length : Int) < e := by omega
      have i2 : (e : Int) ≤ l.length := by omega
      have i3 : (n : Int) ≤ e := by omega
      have i4 : (0 : Int) ≤ n := by omega
      have hx : ((txB l).extract n (n + t.length)).toList = (l.drop n).take t.length := by
        rw [Go.ByteArray.toList_eq, Lib.extract_data, txB_data]; simp
      have hp : t.isPrefixOf (l.drop n) = ((l.drop n).take t.length == t) := by
        rw [Bool.eq_iff_iff, List.isPrefixOf_iff_prefix, beq_iff_eq, List.prefix_iff_eq_take]
        exact eq_comm
      have ht2 : sep.toList = t := by rw [Go.ByteArray.toList_eq]; exact ht
      cases hb : ((l.drop n).take t.length == t)
      · have hfin := Lib.hid (show skpI l n t = -1 from skp_no (by rw [hp, hb]))
        have he : (((txB l).extract n e).toList == sep.toList) = false := by rw [he0, hx, ht2, hb]
        clear hx hp ht2 ht hb he0 h1
        go_enter Tryd.func56, Tryd.ntmps56
        go_wp2_with fail
        go_ret
        exact ⟨by rw [hfin.out]; rfl, rfl⟩
      · have hfin := Lib.hid (show skpI l n t = (e : Int) by unfold skpI; rw [if_neg (by omega), Int.toNat_natCast, hp, hb, he0]; simp)
        have he : (((txB l).extract n e).toList == sep.toList) = true := by rw [he0, hx, ht2, hb]
        clear hx hp ht2 ht hb he0 h1
        go_enter Tryd.func56, Tryd.ntmps56
        go_wp2_with fail
        go_ret
        exact ⟨by rw [hfin.out]; rfl, rfl⟩
def gB (l : List UInt8) (i : Nat) : UInt8 := l[i]?.getD 0
theorem idx_is (l : List UInt8) (i : Nat) (h : i < (txB l).size) : (txB l)[i] = gB l i := by
  have h2 : i < l.length := by rw [← txB_size l]; exact h
  unfold gB
  rw [List.getElem?_eq_getElem h2]
  rfl
theorem drop_at (l : List UInt8) (n i : Nat) : (l.drop n)[i]?.getD 0 = gB l (n + i) := by unfold gB; rw [List.getElem?_drop]
theorem digL_of {t : List UInt8} {j : Nat} (hj : j ≤ 6) (hl : j ≤ t.length) (hd : (t.take j).all isDg = true) (hs : j = 6 ∨ j = t.length ∨ isDg (t[j]?.getD 0) = false) : digL t = t.take j := by
  have hd' : ∀ c ∈ t.take j, isDg c = true := fun c hc => List.all_eq_true.1 hd c hc
  rcases hs with rfl | rfl | hs
  · unfold digL
    have := List.takeWhile_append_of_pos (l₂ := []) hd'
    simpa using this
  · have := digL_front (ds := t.take t.length) (rest := []) hd' (by simp; omega) (by intro c hc; cases hc)
    rw [List.append_nil, List.take_length] at this
    rw [List.take_length]; exact this
  · have := digL_front (ds := t.take j) (rest := t.drop j) hd' (by simp; omega) (by
      intro c hc
      rw [List.head?_drop] at hc
      rw [hc] at hs; exact hs)
    rw [List.take_append_drop] at this
    exact this
theorem digV_acc (ds : List UInt8) : ∀ acc : Nat, ds.all isDg = true → ds.foldl (fun n c => 10 * n + (c.toNat - 48)) acc < (acc + 1) * 10 ^ ds.length := by
  induction ds with
  | nil => intro acc _; simp
  | cons c ds ih =>
    intro acc h
    rw [List.all_cons, Bool.and_eq_true] at h
    have h2 := h.1
    unfold isDg at h2
    simp at h2
    have h1 := ih (10 * acc + (c.toNat - 48)) h.2
    rw [List.foldl_cons, List.length_cons, Nat.pow_succ]
    refine Nat.lt_of_lt_of_le h1 ?_
    rw [show (acc + 1) * (10 ^ ds.length * 10) = (acc + 1) * 10 * 10 ^ ds.length by rw [Nat.mul_assoc, Nat.mul_comm 10]]
    exact Nat.mul_le_mul_right _ (by omega)
theorem digV_lt (ds : List UInt8) (h : ds.all isDg = true) : digV ds < 10 ^ ds.length := by
  have := digV_acc ds 0 h
  unfold digV; omega
theorem digV_6 {ds : List UInt8} (h : ds.all isDg = true) (hl : ds.length ≤ 6) : digV ds < 1000000 := by
  have h1 := digV_lt ds h
  have h2 : 10 ^ ds.length ≤ 10 ^ 6 := Nat.pow_le_pow_right (by decide) hl
  omega
theorem take_next {t : List UInt8} {j : Nat} (h : j < t.length) : t.take (j + 1) = t.take j ++ [t[j]?.getD 0] := take_snoc t j 0 h
theorem ret3_eq {a b c d : Int} {x y : Bool} (h1 : a = b) (h2 : c = d) (h3 : x = y) : Ending.returned (.tuple #[.int .i64 a, .int .i64 c, .bool x]) = .returned (.tuple #[.int .i64 b, .int .i64 d, .bool y]) := by subst h1 h2 h3; rfl
/-- the loop's end -/
def dEnd (l : List UInt8) (m j : Nat) (mn : Bool) : Int × Nat × Bool := (if mn then -(digV ((l.drop m).take j) : Int) else (digV ((l.drop m).take j) : Int), m + j, decide (0 < j))
theorem digs_end {l : List UInt8} {n m j : Nat} {mn : Bool} (hn : n ≤ l.length) (hm : m = n + digN (l.drop n)) (hmn : mn = decide ((l.drop n).head? = some 45)) (hj : j ≤ 6) (hl : m + j ≤ l.length) (hd : ((l.drop m).take j).all isDg = true) (hs : j = 6 ∨ m + j = l.length ∨ isDg (gB l (m + j)) = false) :
    ((digs (l.drop n)).1, n + (digs (l.drop n)).2.1, (digs (l.drop n)).2.2) = dEnd l m j mn := by
  have hdl := digL_of (t := l.drop m) hj (by rw [List.length_drop]; omega) hd (by
    rw [drop_at, List.length_drop]
    rcases hs with h | h | h
    · exact .inl h
    · right; left; omega
    · exact .inr (.inr h))
  have hlen : ((l.drop m).take j).length = j := by rw [List.length_take, List.length_drop]; omega
  unfold digs dEnd
  by_cases h : (l.drop n).head? = some 45
  · have hN : digN (l.drop n) = 1 := by unfold digN; rw [if_pos h]
    have hm' : m = n + 1 := by omega
    have hmt : mn = true := by rw [hmn]; simp [h]
    rw [if_pos h, hN, hmt, List.drop_drop, ← hm', hdl, hlen]
    simp; omega
  · have hN : digN (l.drop n) = 0 := by unfold digN; rw [if_neg h]
    have hm' : m = n := by omega
    have hmt : mn = false := by rw [hmn]; exact decide_eq_false h
    rw [if_neg h, hN, hmt, List.drop_drop, Nat.add_zero, ← hm', hdl, hlen]
    simp
set_option maxHeartbeats 800000 in
theorem l05Digits_is (l : List UInt8) (n : Nat) (w : World) (hl : l.length ≤ 1048576) (hn : n ≤ l.length) :
    Calls Tryd.prog 55 #[.string (txB l), .int .i64 n] w fun e w' => e = .returned (.tuple #[.int .i64 (digs (l.drop n)).1, .int .i64 (n + (digs (l.drop n)).2.1 : Nat), .bool (digs (l.drop n)).2.2]) ∧ w = w' := by
  have hz : (txB l).size = l.length := txB_size l
  by_cases hmn : (l.drop n).head? = some 45
  · have hnl : n < l.length := by
      rcases Nat.lt_or_ge n l.length with h | h
      · exact h
      · rw [List.drop_of_length_le h] at hmn; cases hmn
    have hg : gB l n = 45 := by
      have := drop_at l n 0
      rw [List.head?_eq_getElem?] at hmn
      rw [hmn] at this; exact this.symm
    have i1 : (n : Int) < l.length := by omega
    have hg2 : ((gB l n).toNat : Int) = 45 := by rw [hg]; rfl
    have hix0 : ((txB l)[n]'(by rw [hz]; exact hnl)) = gB l n := idx_is l _ _
    clear hg
    obtain ⟨m, hm⟩ : ∃ m, m = n + 1 := ⟨_, rfl⟩
    have HM := Lib.hid (show m = n + digN (l.drop n) by unfold digN; rw [if_pos hmn, hm])
    have HMN := Lib.hid (show true = decide ((l.drop n).head? = some 45) by simp [hmn])
    have hm1 : (n : Int) + 1 = m := by omega
    have hml : m ≤ l.length := by omega
    clear hmn hm
    go_enter Tryd.func55, Tryd.ntmps55
    go_wp2_with fail
    clear hg2 hix0 i1 hm1
    go_loopw [7, 9] (fun v k wr => ∃ j : Nat, j ≤ 6 ∧ m + j ≤ l.length ∧ v = .int .i64 (digV ((l.drop m).take j) : Nat) ∧ k = .int .i64 ((m + j : Nat) : Int) ∧ ((l.drop m).take j).all isDg = true ∧ w = wr) (fun _ k _ => l.length - (intOf k).toNat)
    case atStart => exact ⟨0, by omega, by omega, by simp [digV], by simp, by simp, rfl⟩
    case round =>
      obtain ⟨j, hj6, hjl, rfl, rfl, hall, rfl⟩ := hrel
      have hv6 := digV_6 hall (by rw [List.length_take]; omega)
      have HALL := Lib.hid hall
      obtain ⟨V, hV⟩ : ∃ V, V = digV ((l.drop m).take j) := ⟨_, rfl⟩
      rw [← hV] at hv6 ⊢
      have HV := Lib.hid hV
      clear hall hV
      have end_ : (j = 6 ∨ m + j = l.length ∨ isDg (gB l (m + j)) = false) → Hid (digs (l.drop n) = ((if true then -(V : Int) else (V : Int)), m + j - n, decide (0 < j))) := fun hs => Lib.hid (by
        have h := digs_end hn HM.out HMN.out hj6 hjl HALL.out hs
        unfold dEnd at h
        rw [← HV.out] at h
        simp only [Prod.mk.injEq] at h
        obtain ⟨e1, e2, e3⟩ := h
        exact Prod.ext e1 (Prod.ext (by simp only; omega) e3))
      obtain ⟨k, hk⟩ : ∃ k, k = m + j := ⟨_, rfl⟩
      rw [← hk] at hjl end_ ⊢
      have hnm : n ≤ m := by have := HM.out; omega
      have HNK := Lib.hid (show (n : Int) + ((k - n : Nat) : Int) = (k : Int) by omega)
      have HMK := Lib.hid (show decide (m < k) = decide (0 < j) by apply decide_eq_decide.2; omega)
      have hkm : (m : Int) ≤ k := by omega
      have hk6 : (k : Int) ≤ m + 6 := by omega
      by_cases e1 : k < l.length
      · have a1 : (k : Int) < l.length := by omega
        by_cases e2 : j < 6
        · have a2 : (k : Int) < m + 6 := by omega
          obtain ⟨c, hc⟩ : ∃ c, c = gB l k := ⟨_, rfl⟩
          have hix : ((txB l)[k]'(by rw [hz]; exact e1)) = c := by rw [hc]; exact idx_is l _ _
          obtain ⟨q, hq⟩ : ∃ q, c.toNat = q := ⟨_, rfl⟩
          by_cases e3 : 48 ≤ q
          · have a3 : (48 : Int) ≤ q := by omega
            by_cases e4 : q ≤ 57
            · have a4 : (q : Int) ≤ 57 := by omega
              have hst : digV ((l.drop m).take (j + 1)) = 10 * V + (q - 48) := by
                rw [take_next (by rw [List.length_drop]; omega), digV_append, ← HV.out, drop_at, ← hk, ← hc, hq]
              have hal2 : ((l.drop m).take (j + 1)).all isDg = true := by
                rw [take_next (by rw [List.length_drop]; omega), List.all_append, HALL.out, drop_at, ← hk, ← hc]
                simp [isDg, hq, e3, e4]
              have HST := Lib.hid hst
              have HAL := Lib.hid hal2
              have HKJ := Lib.hid hk
              obtain ⟨b, hb⟩ : ∃ b : Nat, (q : Int) - 48 = b := ⟨q - 48, by omega⟩
              have hb9 : b ≤ 9 := by omega
              have w1 : IntKind.u8.wrap (b : Int) = b := by rw [IntKind.wrap_u8]; omega
              have HQB := Lib.hid (show q - 48 = b by omega)
              clear hst hal2 hk end_ hc
              go_wp2_with fail
              go_roundw
              case rel => exact ⟨j + 1, by omega, by have := HKJ.out; omega, by rw [HST.out, HQB.out]; go_num, by have := HKJ.out; go_num, HAL.out, by first | rfl | trivial⟩
              case measure => simp [intOf]; omega
            · have a4 : ¬ (q : Int) ≤ 57 := by omega
              have hng : isDg (gB l k) = false := by rw [← hc]; unfold isDg; rw [hq]; simp; omega
              clear hk hc
              (
              have hE := end_ (.inr (.inr hng))
              go_wp2_with fail
              go_ret3
              exact ⟨by rw [hE.out]; exact ret3_eq rfl HNK.out.symm HMK.out, rfl⟩)
          · have a3 : ¬ (48 : Int) ≤ q := by omega
            have hng : isDg (gB l k) = false := by rw [← hc]; unfold isDg; rw [hq]; simp; omega
            clear hk hc
            (
              have hE := end_ (.inr (.inr hng))
              go_wp2_with fail
              go_ret3
              exact ⟨by rw [hE.out]; exact ret3_eq rfl HNK.out.symm HMK.out, rfl⟩)
        · have a2 : ¬ (k : Int) < m + 6 := by omega
          have hj : j = 6 := by omega
          clear hk
          (
              have hE := end_ (.inl hj)
              go_wp2_with fail
              go_ret3
              exact ⟨by rw [hE.out]; exact ret3_eq rfl HNK.out.symm HMK.out, rfl⟩)
      · have a1 : ¬ (k : Int) < l.length := by omega
        have hkl : k = l.length := by omega
        have hE0 := end_ (.inr (.inl hkl))
        clear hk hkl
        go_wp2_with fail
        go_ret3
        exact ⟨by rw [hE0.out]; exact ret3_eq rfl HNK.out.symm HMK.out, rfl⟩
  · have hMN := Lib.hid (show false = decide ((l.drop n).head? = some 45) from (decide_eq_false hmn).symm)
    have HMN := hMN
    obtain ⟨m, hm⟩ : ∃ m, m = n := ⟨_, rfl⟩
    have HM := Lib.hid (show m = n + digN (l.drop n) by unfold digN; rw [if_neg hmn, hm]; rfl)
    have hml : m ≤ l.length := by omega
    have hmn2 : (n : Int) = m := by omega
    by_cases hnl : n < l.length
    · have i1 : (n : Int) < l.length := by omega
      have hne : ¬ ((gB l n).toNat : Int) = 45 := by
        intro h
        apply hmn
        have h2 := drop_at l n 0
        rw [Nat.add_zero] at h2
        rw [List.head?_eq_getElem?]
        have h3 : (l.drop n)[0]? = some (gB l n) := by
          rw [← h2, List.getElem?_eq_getElem (by rw [List.length_drop]; omega)]; rfl
        rw [h3]
        congr 1
        apply UInt8.toNat_inj.1
        show (gB l n).toNat = 45
        omega
      have hix0 : ((txB l)[n]'(by rw [hz]; exact hnl)) = gB l n := idx_is l _ _
      have hbe : (((gB l n).toNat : Int) == 45) = false := by rw [beq_eq_false_iff_ne]; exact hne
      have HMN2 := Lib.hid hmn2
      clear hmn hMN hne hm hmn2
      go_enter Tryd.func55, Tryd.ntmps55
      go_wp2_with fail
      clear hbe hix0 i1
      rw [HMN2.out]
      go_loopw [7, 9] (fun v k wr => ∃ j : Nat, j ≤ 6 ∧ m + j ≤ l.length ∧ v = .int .i64 (digV ((l.drop m).take j) : Nat) ∧ k = .int .i64 ((m + j : Nat) : Int) ∧ ((l.drop m).take j).all isDg = true ∧ w = wr) (fun _ k _ => l.length - (intOf k).toNat)
      case atStart => exact ⟨0, by omega, by omega, by simp [digV], by simp, by simp, rfl⟩
      case round =>
        obtain ⟨j, hj6, hjl, rfl, rfl, hall, rfl⟩ := hrel
        have hv6 := digV_6 hall (by rw [List.length_take]; omega)
        have HALL := Lib.hid hall
        obtain ⟨V, hV⟩ : ∃ V, V = digV ((l.drop m).take j) := ⟨_, rfl⟩
        rw [← hV] at hv6 ⊢
        have HV := Lib.hid hV
        clear hall hV
        have end_ : (j = 6 ∨ m + j = l.length ∨ isDg (gB l (m + j)) = false) → Hid (digs (l.drop n) = ((if false then -(V : Int) else (V : Int)), m + j - n, decide (0 < j))) := fun hs => Lib.hid (by
          have h := digs_end hn HM.out HMN.out hj6 hjl HALL.out hs
          unfold dEnd at h
          rw [← HV.out] at h
          simp only [Prod.mk.injEq] at h
          obtain ⟨e1, e2, e3⟩ := h
          exact Prod.ext e1 (Prod.ext (by simp only; omega) e3))
        obtain ⟨k, hk⟩ : ∃ k, k = m + j := ⟨_, rfl⟩
        rw [← hk] at hjl end_ ⊢
        have hnm : n ≤ m := by have := HM.out; omega
        have HNK := Lib.hid (show (n : Int) + ((k - n : Nat) : Int) = (k : Int) by omega)
        have HMK := Lib.hid (show decide (m < k) = decide (0 < j) by apply decide_eq_decide.2; omega)
        have hkm : (m : Int) ≤ k := by omega
        have hk6 : (k : Int) ≤ m + 6 := by omega
        by_cases e1 : k < l.length
        · have a1 : (k : Int) < l.length := by omega
          by_cases e2 : j < 6
          · have a2 : (k : Int) < m + 6 := by omega
            obtain ⟨c, hc⟩ : ∃ c, c = gB l k := ⟨_, rfl⟩
            have hix : ((txB l)[k]'(by rw [hz]; exact e1)) = c := by rw [hc]; exact idx_is l _ _
            obtain ⟨q, hq⟩ : ∃ q, c.toNat = q := ⟨_, rfl⟩
            by_cases e3 : 48 ≤ q
            · have a3 : (48 : Int) ≤ q := by omega
              by_cases e4 : q ≤ 57
              · have a4 : (q : Int) ≤ 57 := by omega
                have hst : digV ((l.drop m).take (j + 1)) = 10 * V + (q - 48) := by
                  rw [take_next (by rw [List.length_drop]; omega), digV_append, ← HV.out, drop_at, ← hk, ← hc, hq]
                have hal2 : ((l.drop m).take (j + 1)).all isDg = true := by
                  rw [take_next (by rw [List.length_drop]; omega), List.all_append, HALL.out, drop_at, ← hk, ← hc]
                  simp [isDg, hq, e3, e4]
                have HST := Lib.hid hst
                have HAL := Lib.hid hal2
                have HKJ := Lib.hid hk
                obtain ⟨b, hb⟩ : ∃ b : Nat, (q : Int) - 48 = b := ⟨q - 48, by omega⟩
                have hb9 : b ≤ 9 := by omega
                have w1 : IntKind.u8.wrap (b : Int) = b := by rw [IntKind.wrap_u8]; omega
                have HQB := Lib.hid (show q - 48 = b by omega)
                clear hst hal2 hk end_ hc
                go_wp2_with fail
                go_roundw
                case rel => exact ⟨j + 1, by omega, by have := HKJ.out; omega, by rw [HST.out, HQB.out]; go_num, by have := HKJ.out; go_num, HAL.out, by first | rfl | trivial⟩
                case measure => simp [intOf]; omega
              · have a4 : ¬ (q : Int) ≤ 57 := by omega
                have hng : isDg (gB l k) = false := by rw [← hc]; unfold isDg; rw [hq]; simp; omega
                clear hk hc
                (
              have hE := end_ (.inr (.inr hng))
              go_wp2_with fail
              go_ret3
              exact ⟨by rw [hE.out]; exact ret3_eq rfl HNK.out.symm HMK.out, rfl⟩)
            · have a3 : ¬ (48 : Int) ≤ q := by omega
              have hng : isDg (gB l k) = false := by rw [← hc]; unfold isDg; rw [hq]; simp; omega
              clear hk hc
              (
              have hE := end_ (.inr (.inr hng))
              go_wp2_with fail
              go_ret3
              exact ⟨by rw [hE.out]; exact ret3_eq rfl HNK.out.symm HMK.out, rfl⟩)
          · have a2 : ¬ (k : Int) < m + 6 := by omega
            have hj : j = 6 := by omega
            clear hk
            (
              have hE := end_ (.inl hj)
              go_wp2_with fail
              go_ret3
              exact ⟨by rw [hE.out]; exact ret3_eq rfl HNK.out.symm HMK.out, rfl⟩)
        · have a1 : ¬ (k : Int) < l.length := by omega
          have hkl : k = l.length := by omega
          have hE0 := end_ (.inr (.inl hkl))
          clear hk hkl
          go_wp2_with fail
          go_ret3
          exact ⟨by rw [hE0.out]; exact ret3_eq rfl HNK.out.symm HMK.out, rfl⟩
    · have i1 : ¬ (n : Int) < l.length := by omega
      have HMN2 := Lib.hid hmn2
      clear hmn hMN hm hmn2
      go_enter Tryd.func55, Tryd.ntmps55
      go_wp2_with fail
      clear i1
      rw [HMN2.out]
      go_loopw [7, 9] (fun v k wr => ∃ j : Nat, j ≤ 6 ∧ m + j ≤ l.length ∧ v = .int .i64 (digV ((l.drop m).take j) : Nat) ∧ k = .int .i64 ((m + j : Nat) : Int) ∧ ((l.drop m).take j).all isDg = true ∧ w = wr) (fun _ k _ => l.length - (intOf k).toNat)
      case atStart => exact ⟨0, by omega, by omega, by simp [digV], by simp, by simp, rfl⟩
      case round =>
        obtain ⟨j, hj6, hjl, rfl, rfl, hall, rfl⟩ := hrel
        have hv6 := digV_6 hall (by rw [List.length_take]; omega)
        have HALL := Lib.hid hall
        obtain ⟨V, hV⟩ : ∃ V, V = digV ((l.drop m).take j) := ⟨_, rfl⟩
        rw [← hV] at hv6 ⊢
        have HV := Lib.hid hV
        clear hall hV
        have end_ : (j = 6 ∨ m + j = l.length ∨ isDg (gB l (m + j)) = false) → Hid (digs (l.drop n) = ((if false then -(V : Int) else (V : Int)), m + j - n, decide (0 < j))) := fun hs => Lib.hid (by
          have h := digs_end hn HM.out HMN.out hj6 hjl HALL.out hs
          unfold dEnd at h
          rw [← HV.out] at h
          simp only [Prod.mk.injEq] at h
          obtain ⟨e1, e2, e3⟩ := h
          exact Prod.ext e1 (Prod.ext (by simp only; omega) e3))
        obtain ⟨k, hk⟩ : ∃ k, k = m + j := ⟨_, rfl⟩
        rw [← hk] at hjl end_ ⊢
        have hnm : n ≤ m := by have := HM.out; omega
        have HNK := Lib.hid (show (n : Int) + ((k - n : Nat) : Int) = (k : Int) by omega)
        have HMK := Lib.hid (show decide (m < k) = decide (0 < j) by apply decide_eq_decide.2; omega)
        have hkm : (m : Int) ≤ k := by omega
        have hk6 : (k : Int) ≤ m + 6 := by omega
        by_cases e1 : k < l.length
        · have a1 : (k : Int) < l.length := by omega
          by_cases e2 : j < 6
          · have a2 : (k : Int) < m + 6 := by omega
            obtain ⟨c, hc⟩ : ∃ c, c = gB l k := ⟨_, rfl⟩
            have hix : ((txB l)[k]'(by rw [hz]; exact e1)) = c := by rw [hc]; exact idx_is l _ _
            obtain ⟨q, hq⟩ : ∃ q, c.toNat = q := ⟨_, rfl⟩
            by_cases e3 : 48 ≤ q
            · have a3 : (48 : Int) ≤ q := by omega
              by_cases e4 : q ≤ 57
              · have a4 : (q : Int) ≤ 57 := by omega
                have hst : digV ((l.drop m).take (j + 1)) = 10 * V + (q - 48) := by
                  rw [take_next (by rw [List.length_drop]; omega), digV_append, ← HV.out, drop_at, ← hk, ← hc, hq]
                have hal2 : ((l.drop m).take (j + 1)).all isDg = true := by
                  rw [take_next (by rw [List.length_drop]; omega), List.all_append, HALL.out, drop_at, ← hk, ← hc]
                  simp [isDg, hq, e3, e4]
                have HST := Lib.hid hst
                have HAL := Lib.hid hal2
                have HKJ := Lib.hid hk
                obtain ⟨b, hb⟩ : ∃ b : Nat, (q : Int) - 48 = b := ⟨q - 48, by omega⟩
                have hb9 : b ≤ 9 := by omega
                have w1 : IntKind.u8.wrap (b : Int) = b := by rw [IntKind.wrap_u8]; omega
                have HQB := Lib.hid (show q - 48 = b by omega)
                clear hst hal2 hk end_ hc
                go_wp2_with fail
                go_roundw
                case rel => exact ⟨j + 1, by omega, by have := HKJ.out; omega, by rw [HST.out, HQB.out]; go_num, by have := HKJ.out; go_num, HAL.out, by first | rfl | trivial⟩
                case measure => simp [intOf]; omega
              · have a4 : ¬ (q : Int) ≤ 57 := by omega
                have hng : isDg (gB l k) = false := by rw [← hc]; unfold isDg; rw [hq]; simp; omega
                clear hk hc
                (
              have hE := end_ (.inr (.inr hng))
              go_wp2_with fail
              go_ret3
              exact ⟨by rw [hE.out]; exact ret3_eq rfl HNK.out.symm HMK.out, rfl⟩)
            · have a3 : ¬ (48 : Int) ≤ q := by omega
              have hng : isDg (gB l k) = false := by rw [← hc]; unfold isDg; rw [hq]; simp; omega
              clear hk hc
              (
              have hE := end_ (.inr (.inr hng))
              go_wp2_with fail
              go_ret3
              exact ⟨by rw [hE.out]; exact ret3_eq rfl HNK.out.symm HMK.out, rfl⟩)
          · have a2 : ¬ (k : Int) < m + 6 := by omega
            have hj : j = 6 := by omega
            clear hk
            (
              have hE := end_ (.inl hj)
              go_wp2_with fail
              go_ret3
              exact ⟨by rw [hE.out]; exact ret3_eq rfl HNK.out.symm HMK.out, rfl⟩)
        · have a1 : ¬ (k : Int) < l.length := by omega
          have hkl : k = l.length := by omega
          have hE0 := end_ (.inr (.inl hkl))
          clear hk hkl
          go_wp2_with fail
          go_ret3
          exact ⟨by rw [hE0.out]; exact ret3_eq rfl HNK.out.symm HMK.out, rfl⟩
end Go.Proofs.YtinocfehjdlohaaDoor
