/-
  OpenOf: what the program's and the reference's functions return.
-/
import Derived.Test.YtinocfehjdlohaaAnsC
import Derived.Lib.SliceRun
namespace Go.Proofs.Ytinocfehjdlohaa
open Go.ChangeShapes Go.WideShapes Go.ChangeAt Go.RowKit
set_option linter.unusedVariables false
set_option linter.unusedSimpArgs false

def saidB (y n : Int → Bool) (z : Int) : Bool := y z || n z
section
variable {cb : Nat} {A : Option Addr} {m c : Nat} {B : Option Addr} {k d : Nat} {bp bn : Nat} {rs : List Ru} {fs : List Int} {y n : Int → Bool}
theorem open1_is {b : Bool} (z : Int) (g : Nat) (w : World) (hC : Court w cb A m c B k d bp bn rs fs y n) (hg : w.cell? ⟨g, 0, none⟩ = some (.pointer (some ⟨cb, 0, none⟩))) (hz : I64b z) (h : saidB y n z = b) :
    Calls Try.prog 64 #[.int .i64 z, .pointer (some ⟨g, 0, none⟩)] w fun e w' => e = .returned (.bool b) ∧ w = w' := by
  have h3 := hC.c3
  have h4 := hC.c4
  have hy := hC.my.look hz
  have hn := hC.mn.look hz
  unfold saidB at h
  clear hC
  rcases Bool.eq_false_or_eq_true (y z) with ty | ty
  · have HF := Lib.hid (show true = b by rw [← h, ty]; rfl)
    rw [ty] at hy
    clear h ty
    go_enter Try.func64, Try.ntmps64
    go_wp2_with fail
    go_ret
    exact ⟨ret_bool HF.out, rfl⟩
  · have HF := Lib.hid (show n z = b by rw [← h, ty]; rfl)
    rw [ty] at hy
    rw [HF.out] at hn
    clear h ty
    go_enter Try.func64, Try.ntmps64
    go_wp2_with fail
    go_ret
    exact ⟨rfl, rfl⟩
set_option maxHeartbeats 800000 in
theorem open_index (D : Option Addr) (q e : Nat) (zs : List Int) (g : Nat) (w : World) (hr : Rd w w.heap.size 1 D q (ints zs)) (hq : q ≤ 1048576) (hz : I64s zs)
    (hC : Court w cb A m c B k d bp bn rs fs y n) (hg : w.cell? ⟨g, 0, none⟩ = some (.pointer (some ⟨cb, 0, none⟩))) :
    Calls Try.prog 87 #[.slice D q e, .func (.func 64) #[] #[.pointer (some ⟨g, 0, none⟩)]] w fun e w' => e = .returned (.int .i64 (findI (saidB y n) zs)) ∧ w = w' := by
  have HC := Lib.hid hC
  have HB := Lib.hid hz
  have HG := Lib.hid hg
  clear hC hz hg
  go_enter Try.func87, Try.ntmps87
  go_wp2
  go_loop [5, 8] (fun _ i => ∃ k : Nat, k ≤ q ∧ i = .int .i64 k ∧ (zs.take k).any (saidB y n) = false) (fun _ i => q - (intOf i).toNat)
  case atStart => exact ⟨0, Nat.zero_le _, rfl, rfl⟩
  case round =>
    obtain ⟨k, hk, rfl, ha⟩ := hrel
    have HA := Lib.hid ha
    clear ha
    have hlen := hr.ilen
    have HL := Lib.hid hlen
    by_cases hlt : k < q
    · obtain ⟨ad, rfl, hcz⟩ := hr.int hlt
      have hzb := HB.out _ (getD_mem (zs := zs) (k := k) (by omega))
      clear hr hlen
      obtain ⟨z, hz⟩ : ∃ z, z = zs[k]?.getD 0 := ⟨_, rfl⟩
      rw [← hz] at hcz hzb
      have HZ := Lib.hid hz
      have HZB := Lib.hid hzb
      clear hz hzb
      cases ho : saidB y n z
      · have hs := Lib.hid (any_snoc (p := saidB y n) 0 HA.out (by have := HL.out; omega) (by rw [← HZ.out]; exact ho))
        have HO := Lib.hid ho
        clear ho
        go_wp2_with (go_at_call 64; refine (open1_is z g _ HC.out HG.out HZB.out HO.out).mono ?_; rintro e w' ⟨rfl, rfl⟩)
        go_round
        case rel => exact ⟨k + 1, by omega, by go_num, hs.out⟩
        case measure => simp [intOf]; omega
      · have hfin := Lib.hid (findI_hit (p := saidB y n) 0 HA.out (by have := HL.out; omega) (by rw [← HZ.out]; exact ho))
        have HO := Lib.hid ho
        clear ho
        go_wp2_with (go_at_call 64; refine (open1_is z g _ HC.out HG.out HZB.out HO.out).mono ?_; rintro e w' ⟨rfl, rfl⟩)
        go_ret
        exact ⟨by rw [hfin.out]; rfl, rfl⟩
    · obtain rfl : q = k := by omega
      have hfin := Lib.hid (findI_miss (p := saidB y n) (zs := zs) (by have := HA.out; rwa [List.take_of_length_le (by have := HL.out; omega)] at this))
      clear HA hlen
      go_wp2
      go_ret
      exact ⟨by rw [hfin.out]; rfl, rfl⟩
/-- the found place: nothing, or the first -/
theorem findI_spec (p : Int → Bool) (zs : List Int) : (findI p zs = -1 ∧ zs.any p = false) ∨ ∃ i : Nat, findI p zs = i ∧ i < zs.length ∧ (zs.take i).any p = false ∧ p (zs[i]?.getD 0) = true := by
  cases h : zs.any p
  · exact .inl ⟨findI_miss h, rfl⟩
  · right
    obtain ⟨x, hx, hp⟩ := List.any_eq_true.1 h
    obtain ⟨i, hi1, hi2, hi3⟩ : ∃ i, i < zs.length ∧ (zs.take i).any p = false ∧ p (zs[i]?.getD 0) = true := by
      clear h
      induction zs with
      | nil => cases hx
      | cons a zs ih =>
        cases ha : p a
        · rcases List.mem_cons.1 hx with rfl | hx
          · rw [ha] at hp; cases hp
          · obtain ⟨i, h1, h2, h3⟩ := ih hx
            exact ⟨i + 1, by simp; omega, by simp [ha, h2], by simpa using h3⟩
        · exact ⟨0, by simp, rfl, by simpa using ha⟩
    exact ⟨i, findI_hit 0 hi2 hi1 hi3, hi1, hi2, hi3⟩
theorem setCells_own {base g n c i : Nat} : ∀ (us : List Value) (o : Nat) (w : World) (xs : List Value), w.ownsRow base tI 1 (.slice (some ⟨g, 0, none⟩) n c) n xs → i ≤ o →
    ∃ xs', (w.setCells g o us).ownsRow base tI 1 (.slice (some ⟨g, 0, none⟩) n c) n xs' ∧ xs'.take i = xs.take i ∧ w.grownBy (w.setCells g o us) (some g)
  | [], o, w, xs, h, _ => ⟨xs, h, rfl, grown_below (Below.refl _ _) _⟩
  | u :: us, o, w, xs, h, hi => by
    have h1 := h.stored o u
    obtain ⟨xs', a, b, c⟩ := setCells_own us (o + 1) _ _ h1.1 (by omega : i ≤ o + 1)
    exact ⟨xs', a, b.trans (by rw [List.take_set_of_le (by omega)]), h1.2.trans c⟩
theorem own_cut {w : World} {base n k c : Nat} {e : TypeId} {A : Option Addr} {xs : List Value} (h : w.ownsRow base e 1 (.slice A n c) n xs) (hk : k ≤ n) : w.ownsRow base e 1 (.slice A k c) k (xs.take k) := by
  have hl := own_len h
  refine ⟨by rw [List.length_take]; omega, ?_⟩
  rcases h.2 with ⟨hnil, h1⟩ | ⟨g, cap, cur, hv, hbase, hb1, h1, h2, h3, h4⟩
  · injection hnil with e1 e2 e3
    obtain rfl : k = 0 := by omega
    exact .inl ⟨by rw [e1, e3], rfl⟩
  · injection hv with e1 e2 e3
    subst e1 e3
    refine .inr ⟨g, c, cur, rfl, hbase, hb1, by omega, h2, h3, ?_⟩
    rw [← h4, List.take_take]
    congr 1
    omega
theorem zeroI (w : World) : (zeroValue tI).run Try.prog w = .ok (.int .i64 0) w := by kernel_rfl
set_option maxRecDepth 100000 in
set_option maxHeartbeats 3200000 in
theorem delete_is (base gb c' : Nat) (zs : List Int) (g : Nat) (W0 w : World) (hown : w.ownsRow base tI 1 (.slice (some ⟨gb, 0, none⟩) 32 c') 32 (ints zs)) (hz : I64s zs)
    (hC : Court W0 cb A m c B k d bp bn rs fs y n) (hg : W0.cell? ⟨g, 0, none⟩ = some (.pointer (some ⟨cb, 0, none⟩))) (hgl : g < W0.heap.size) (hb : Below W0.heap.size W0 w) (hbase : W0.heap.size ≤ base) :
    Calls Try.prog 63 #[.slice (some ⟨gb, 0, none⟩) 32 c', .func (.func 64) #[] #[.pointer (some ⟨g, 0, none⟩)]] w fun e w' =>
      ∃ q, e = .returned (.slice (some ⟨gb, 0, none⟩) q c') ∧ w'.ownsRow base tI 1 (.slice (some ⟨gb, 0, none⟩) q c') q (ints (zs.filter fun z => !saidB y n z)) ∧ Below W0.heap.size W0 w' := by
  have hlen : zs.length = 32 := by have := own_len hown; simpa [ints] using this
  have hcc : 32 ≤ c' := by
    rcases hown.2 with ⟨h1, _⟩ | ⟨_, _, _, h1, _, _, h2, _⟩
    · cases h1
    · injection h1 with _ _ e; omega
  have HC := Lib.hid (fun (w1 : World) (h1 : Below W0.heap.size W0 w1) => And.intro (hC.on h1) ((h1.cell (p := ⟨g, 0, none⟩) hgl).trans hg))
  have HOWN := Lib.hid hown
  have HB := Lib.hid hb
  have HZ := Lib.hid hz
  have HL := Lib.hid hlen
  have hgb := Nat.le_trans hbase (hown.lt gb rfl).1
  clear hC hg hown hb hz hbase hlen
  rcases findI_spec (saidB y n) zs with ⟨h1, h2⟩ | ⟨i0, h1, h2, h3, h4⟩
  · have hf := Lib.hid (show zs.filter (fun z => !saidB y n z) = zs by
      rw [List.filter_eq_self]; intro a ha
      have := List.any_eq_false.1 h2 a ha
      simpa using this)
    have H1 := Lib.hid h1
    clear h1 h2
    go_enter Try.func63, Try.ntmps63
    go_wp2_with (go_at_call 87; refine (open_index _ _ _ zs g _ (Rd.of_own HOWN.out) (by omega) HZ.out (HC.out _ HB.out).1 (HC.out _ HB.out).2).mono ?_; rintro e w' ⟨rfl, rfl⟩; rw [H1.out])
    go_ret
    exact ⟨32, rfl, by rw [hf.out]; exact HOWN.out, HB.out⟩
  · have H1 := Lib.hid h1
    have hi0 : i0 < 32 := by have := HL.out; omega
    have H4 := Lib.hid (show (zs.take (i0 + 1)).filter (fun z => !saidB y n z) = zs.take i0 by
      rw [take_snoc zs i0 0 h2, List.filter_append]
      have e1 : (zs.take i0).filter (fun z => !saidB y n z) = zs.take i0 := by
        rw [List.filter_eq_self]; intro a ha
        have := List.any_eq_false.1 h3 a ha
        simpa using this
      rw [e1]; simp [h4])
    clear h1 h2 h3 h4
    go_enter Try.func63, Try.ntmps63
    go_wp2_with (go_at_call 87; refine (open_index _ _ _ zs g _ (Rd.of_own HOWN.out) (by omega) HZ.out (HC.out _ HB.out).1 (HC.out _ HB.out).2).mono ?_; rintro e w' ⟨rfl, rfl⟩; rw [H1.out])
    go_loopw [5, 6, 7] (fun v5 v6 _ wr => ∃ (i j : Nat) (cur : List Int), i < j ∧ j ≤ 32 ∧ v5 = .int .i64 i ∧ v6 = .int .i64 j ∧ wr.ownsRow base tI 1 (.slice (some ⟨gb, 0, none⟩) 32 c') 32 (ints cur) ∧ cur.take i = (zs.take j).filter (fun z => !saidB y n z) ∧ cur.drop j = zs.drop j ∧ Below W0.heap.size W0 wr) (fun _ v6 _ _ => 32 - (intOf v6).toNat)
    case atStart => exact ⟨i0, i0 + 1, zs, by omega, by omega, rfl, by go_num, HOWN.out, H4.out.symm, rfl, HB.out⟩
    case round =>
      obtain ⟨i, j, cur, hij, hj, rfl, rfl, hown, htk, hdr, hb⟩ := hrel
      have HO := Lib.hid hown
      have HB2 := Lib.hid hb
      have HT := Lib.hid htk
      have HD := Lib.hid hdr
      have hcl : cur.length = 32 := by have := own_len hown; simpa [ints] using this
      have HCL := Lib.hid hcl
      by_cases hlj : j < 32
      · have hjz : cur[j]? = zs[j]? := by
          have h1 := congrArg (fun l : List Int => l[0]?) hdr
          simpa using h1
        obtain ⟨z, hz2⟩ : ∃ z, z = zs[j]?.getD 0 := ⟨_, rfl⟩
        have hjs : zs[j]? = some z := by rw [hz2, List.getElem?_eq_getElem (by have := HL.out; omega)]; rfl
        have hc := hown.cellAt j (by omega)
        rw [show (ints cur)[j]? = some (.int .i64 z) by unfold ints; rw [List.getElem?_map, hjz, hjs]; rfl] at hc
        have hci := hown.cellAt i (by omega)
        obtain ⟨vi, hvi⟩ : ∃ vi, (ints cur)[i]? = some vi := ⟨_, List.getElem?_eq_getElem (by unfold ints; rw [List.length_map]; omega)⟩
        rw [hvi] at hci
        have hfi := hown.frozenAt i
        have hzb := HZ.out z (List.mem_of_getElem? hjs)
        have HZB := Lib.hid (show I64b z from hzb)
        have HTK := Lib.hid (show (zs.take (j + 1)).filter (fun z => !saidB y n z) = cur.take i ++ [z].filter (fun z => !saidB y n z) by rw [List.take_add_one, hjs, List.filter_append, HT.out]; rfl)
        have HDR := Lib.hid (show cur.drop (j + 1) = zs.drop (j + 1) by rw [← List.drop_drop, ← List.drop_drop, hdr])
        have i1 : (0 : Int) ≤ i := by omega
        have i2 : (i : Int) < 32 := by omega
        have i3 : (0 : Int) ≤ j := by omega
        have i4 : (j : Int) < 32 := by omega
        clear hown hb htk hdr hjz hz2 hjs hvi hcl
        cases ho : saidB y n z
        · have HOO := Lib.hid ho
          have HK := Lib.hid (show (zs.take (j + 1)).filter (fun z => !saidB y n z) = cur.take i ++ [z] by rw [HTK.out]; simp [ho])
          have HS := Lib.hid (HO.out.stored i (.int .i64 z))
          clear ho
          go_wp2_with (go_at_call 64; refine (open1_is z g _ (HC.out _ HB2.out).1 (HC.out _ HB2.out).2 HZB.out HOO.out).mono ?_; rintro e w' ⟨rfl, rfl⟩)
          go_roundw
          case rel =>
            refine ⟨_, _, _, _, _, _, _, _, _, _, _, _, _, _, _, _, _, _, _, _, _, _, _, ?_, rfl⟩
            refine ⟨i + 1, j + 1, cur.set i z, by omega, by omega, by go_num, by go_num, by rw [← ints_set]; exact HS.out.1, ?_, ?_, below_setFar HB2.out (p := ⟨gb, i, none⟩) _ hgb⟩
            · rw [HK.out, List.take_add_one, List.take_set_of_le (by omega), List.getElem?_set_self (by have := HCL.out; omega)]; rfl
            · rw [List.drop_set_of_lt (by omega)]; exact HDR.out
          case measure => simp [intOf]; omega
        · have HOO := Lib.hid ho
          have HK := Lib.hid (show (zs.take (j + 1)).filter (fun z => !saidB y n z) = cur.take i by rw [HTK.out]; simp [ho])
          clear ho
          go_wp2_with (go_at_call 64; refine (open1_is z g _ (HC.out _ HB2.out).1 (HC.out _ HB2.out).2 HZB.out HOO.out).mono ?_; rintro e w' ⟨rfl, rfl⟩)
          go_roundw
          case rel =>
            refine ⟨_, _, _, _, _, _, _, _, _, _, _, _, _, _, _, _, _, _, _, _, _, _, _, ?_, rfl⟩
            exact ⟨i, j + 1, cur, by omega, by omega, rfl, by go_num, HO.out, HK.out.symm, HDR.out, HB2.out⟩
          case measure => simp [intOf]; omega
      · obtain rfl : j = 32 := by omega
        have HF := Lib.hid (show cur.take i = zs.filter (fun z => !saidB y n z) by rw [HT.out, List.take_of_length_le (by have := HL.out; omega)])
        have hrun := fun ty => Lib.run_clear_slice (P := Try.prog) wr 24 tI ty (.int .i64 0) Try.underlying24 zeroI rfl rfl gb i (32 - i) (c' - i) (by omega)
          (fun t ht => by rw [HO.out.cellAt (i + t) (by omega)]; unfold ints; rw [List.getElem?_map, List.getElem?_eq_getElem (by have := HCL.out; omega)]; rfl) (fun t ht => HO.out.frozenAt (i + t))
        obtain ⟨xs', q1, q2, q3⟩ := setCells_own (i := i) (List.replicate (32 - i) (.int .i64 0)) i wr (ints cur) HO.out (Nat.le_refl _)
        have HQ := Lib.hid (And.intro q1 (And.intro q2 q3))
        have i1 : (0 : Int) ≤ i := by omega
        have i2 : (i : Int) ≤ 32 := by omega
        clear hown hb htk hdr hcl q1 q2 q3
        go_wp2_with fail
        go_ret
        exact ⟨i, rfl, by
          have h := own_cut HQ.out.1 (show i ≤ 32 by omega)
          rw [HQ.out.2.1, ints_take, HF.out] at h
          exact h, HB2.out.grown HQ.out.2.2 HB2.out.size (fun g2 hg2 => by injection hg2 with hg2; omega)⟩
end
end Go.Proofs.Ytinocfehjdlohaa
