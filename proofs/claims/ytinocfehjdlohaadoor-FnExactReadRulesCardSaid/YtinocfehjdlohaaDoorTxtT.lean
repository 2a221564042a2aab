/-
  RULES AS TEXTS: the reference's l05Text.
-/
import Derived.Test.YtinocfehjdlohaaDoorTxtS
namespace Go.Proofs.YtinocfehjdlohaaDoor
open Go.ChangeShapes Go.WideShapes Go.ChangeAt Go.RowKit
set_option linter.unusedVariables false
set_option linter.unusedSimpArgs false

theorem AtP.below {w w' : World} {p : Addr} {r : Ru} {B : Nat} (h : AtP w p r) (hb : Below B w w') (hp : p.block < B) : AtP w' p r :=
  ⟨(hb.cell (p := p) hp).trans h.c0, (hb.cell (p := { block := p.block, off := p.off + 1 }) hp).trans h.c1, (hb.cell (p := { block := p.block, off := p.off + 2 }) hp).trans h.c2,
    (hb.cell (p := { block := p.block, off := p.off + 3 }) hp).trans h.c3, (hb.cell (p := { block := p.block, off := p.off + 4 }) hp).trans h.c4⟩
theorem join_snoc (xs : List (List UInt8)) (x sep : List UInt8) (h : xs ≠ []) : Lib.join (xs ++ [x]) sep = Lib.join xs sep ++ sep ++ x := by
  cases xs with
  | nil => exact absurd rfl h
  | cons a xs =>
    rw [List.cons_append, Lib.join_cons, Lib.join_cons]
    unfold Lib.joinTail
    simp [List.append_assoc]
theorem ifsTx_zero (zs : List Int) : ifsTx (zs.take 0) = [] := rfl
theorem ifsTx_one {zs : List Int} (h : 0 < zs.length) : ifsTx (zs.take 1) = itoa (zs[0]?.getD 0) := by
  rw [take_snoc zs 0 0 h]
  simp [ifsTx, Lib.join_one]
theorem ifsTx_succ {zs : List Int} {k : Nat} (h : k < zs.length) (hk : 0 < k) : ifsTx (zs.take (k + 1)) = ifsTx (zs.take k) ++ [32, 38, 32] ++ itoa (zs[k]?.getD 0) := by
  rw [take_snoc zs k 0 h]
  unfold ifsTx
  rw [List.map_append]
  refine join_snoc _ _ _ ?_
  intro e
  have := congrArg List.length e
  rw [List.length_map, List.length_take, List.length_nil] at this
  omega
/-- what a valid rule's numbers are bounded by -/
structure RlV (d : Rl) : Prop where
  hd : -1000000 ≤ d.hd ∧ d.hd ≤ 1000000
  fr : 0 ≤ d.fr ∧ d.fr ≤ 100000
  tt : 0 ≤ d.tt ∧ d.tt ≤ 100000
  rk : 0 ≤ d.rk ∧ d.rk ≤ 100
  ifs : ∀ z ∈ d.ifs, -16 ≤ z ∧ z ≤ 16
  n : d.ifs.length ≤ 6
theorem rlV {d : Rl} (h : validB d = true) : RlV d := by
  unfold validB at h
  simp only [Bool.and_eq_true, decide_eq_true_eq] at h
  obtain ⟨h1, ⟨h2, h3⟩, h4, h5, h6, h7⟩ := h
  have b1 := wordB_iff.1 h1
  simp [inB] at h4 h5 h7
  refine ⟨⟨by omega, by omega⟩, h4, h5, h7, fun z hz => ?_, by omega⟩
  obtain ⟨i, hi⟩ := List.getElem?_of_mem hz
  have hl : i < d.ifs.length := (List.getElem?_eq_some_iff.1 hi).1
  have h8 := wordsTo_word (k := d.ifs.length) h2 hl
  rw [hi] at h8
  have := wordB_iff.1 h8
  simp only [Option.getD_some] at this
  omega
theorem RlV.i64 {d : Rl} (h : RlV d) : I64s d.ifs := fun z hz => by have := h.ifs z hz; omega
def preTx (d : Rl) : List UInt8 := itoa d.fr ++ [45] ++ itoa d.tt ++ [32, 114] ++ itoa d.rk ++ [58, 32]
theorem preTx_len {d : Rl} (h : RlV d) : (preTx d).length ≤ 100 := by
  have h1 := itoa_len (n := d.fr) (by have := h.fr; omega)
  have h2 := itoa_len (n := d.tt) (by have := h.tt; omega)
  have h3 := itoa_len (n := d.rk) (by have := h.rk; omega)
  unfold preTx
  simp only [List.length_append, List.length_cons, List.length_nil]
  omega
theorem ruleTx_pre (d : Rl) : ruleTx d = preTx d ++ ifsTx2 d.ifs ++ [61, 62, 32] ++ itoa d.hd := rfl
theorem ifsTake_len {zs : List Int} (h : I64s zs) (hn : zs.length ≤ 6) (k : Nat) : (ifsTx (zs.take k)).length ≤ 144 := by
  have := ifsTx_len (zs := zs.take k) (fun z hz => h z (List.mem_of_mem_take hz))
  have h2 : (zs.take k).length ≤ zs.length := by rw [List.length_take]; omega
  omega
theorem cN_of {w : World} {z : Int} (hz : -9223372036854775807 ≤ z ∧ z ≤ 9223372036854775807) (d : Nat) (os : Array _root_.Go.Obj) :
    Calls Tryd.prog 46 #[.int .i64 z] (Sort.grow (redrawn w d) os) fun e w'' => e = .returned (.string (txB (itoa z))) ∧ ∃ p : Regrown, w'' = Sort.grow (redrawn w p.d) p.os :=
  Calls.regrown_of (l05Number_is z hz _)
theorem pre_join (a b c : List UInt8) : txB a ++ ⟨#[45]⟩ ++ txB b ++ ⟨#[32, 114]⟩ ++ txB c ++ ⟨#[58, 32]⟩ = txB (a ++ [45] ++ b ++ [32, 114] ++ c ++ [58, 32]) := by
  simp only [← txB_append]; rfl
set_option maxRecDepth 100000 in
set_option maxHeartbeats 4000000 in
theorem l05Text_is (p : Addr) (r : Ru) (w : World) (hp : AtP w p r) (hpl : p.block < w.heap.size) (hr : Rd w w.heap.size 1 r.A r.n (ints r.ifs)) (hv : RlV r.dat) :
    Calls Tryd.prog 27 #[.pointer (some p)] w fun e w' => e = .returned (.string (txB (ruleTx r.dat))) ∧ Below w.heap.size w w' := by
  have HP := Lib.hid hp
  obtain ⟨c0, c1, c2, c3, c4⟩ := hp
  have HL := Lib.hid hr.ilen
  have HR := Lib.hid hr
  have HV := Lib.hid hv
  have hn6 := hv.n
  clear hr hv
  obtain ⟨hd, fr, tt, rk, A, n, c, ifs⟩ := r
  dsimp only at c0 c1 c2 c3 c4 HL HR
  have hn : n ≤ 6 := by have := HL.out; change ifs.length ≤ 6 at hn6; omega
  have bfr := HV.out.fr
  have btt := HV.out.tt
  have brk := HV.out.rk
  have bhd := HV.out.hd
  change 0 ≤ fr ∧ fr ≤ 100000 at bfr
  change 0 ≤ tt ∧ tt ≤ 100000 at btt
  change 0 ≤ rk ∧ rk ≤ 100 at brk
  change -1000000 ≤ hd ∧ hd ≤ 1000000 at bhd
  obtain ⟨sa, ea⟩ : ∃ s, txB (itoa fr) = s := ⟨_, rfl⟩
  obtain ⟨sb, eb⟩ : ∃ s, txB (itoa tt) = s := ⟨_, rfl⟩
  obtain ⟨sc, ec⟩ : ∃ s, txB (itoa rk) = s := ⟨_, rfl⟩
  have za : sa.size ≤ 21 := by rw [← ea, txB_size]; exact itoa_len (by omega)
  have zb : sb.size ≤ 21 := by rw [← eb, txB_size]; exact itoa_len (by omega)
  have zc : sc.size ≤ 21 := by rw [← ec, txB_size]; exact itoa_len (by omega)
  have n1 : ¬ 9223372036854775807 < sa.size + 1 := by omega
  have n2 : ¬ 9223372036854775807 < sa.size + 1 + sb.size := by omega
  have n3 : ¬ 9223372036854775807 < sa.size + 1 + sb.size + 2 := by omega
  have n4 : ¬ 9223372036854775807 < sa.size + 1 + sb.size + 2 + sc.size := by omega
  have n5 : ¬ 9223372036854775807 < sa.size + 1 + sb.size + 2 + sc.size + 2 := by omega
  have k2 := cell_regrown c2
  have k3 := cell_regrown c3
  have k4 := cell_regrown c4
  have cF := fun d os => cN_of (w := w) (z := fr) (by omega) d os
  have cT := fun d os => cN_of (w := w) (z := tt) (by omega) d os
  have cK := fun d os => cN_of (w := w) (z := rk) (by omega) d os
  rw [ea] at cF
  rw [eb] at cT
  rw [ec] at cK
  have hpre : txB (preTx (Ru.dat ⟨hd, fr, tt, rk, A, n, c, ifs⟩)) = sa ++ ⟨#[45]⟩ ++ sb ++ ⟨#[32, 114]⟩ ++ sc ++ ⟨#[58, 32]⟩ := by
    rw [← ea, ← eb, ← ec, pre_join]; rfl
  have HPRE := Lib.hid hpre
  clear ea eb ec hpre c0 c1 c2 c3 c4
  go_enter Tryd.func27, Tryd.ntmps27
  go_wp2_with fail
  refine wp_region_quiet_below (by kernel_rfl) (by kernel_rfl) ?_
  repeat (quiet_step (first | (go_at_call_of 46 fr; exact cF _ _) | (go_at_call_of 46 tt; exact cT _ _) | (go_at_call_of 46 rk; exact cK _ _)))
  refine wpQuiet_nil ?_
  intro _ hw'
  obtain ⟨⟨dq, osq⟩, hw''⟩ := hw'
  subst hw''
  have hB := below_regrown w dq osq
  generalize Sort.grow (redrawn w dq) osq = w1 at hB ⊢
  have HB := Lib.hid hB
  have hp1 := HP.out.below hB hpl
  obtain ⟨c0, c1, c2, c3, c4⟩ := hp1
  dsimp only at c0 c1
  clear k2 k3 k4 cF cT cK n1 n2 n3 n4 n5 za zb zc hB c2 c3 c4
  rw [← HPRE.out]
  obtain ⟨pr, hpr⟩ : ∃ l, l = preTx (Ru.dat ⟨hd, fr, tt, rk, A, n, c, ifs⟩) := ⟨_, rfl⟩
  have zp : pr.length ≤ 100 := by rw [hpr]; exact preTx_len HV.out
  rw [← hpr] at HPRE ⊢
  have HPR := Lib.hid hpr
  clear hpr HPRE
  have HPP := Lib.hid hpl
  clear hn6 hpl bfr btt brk
  go_wp2_with fail
  clear c0 c1
  go_loopw [3, 4, 30] (fun v _ i wr => ∃ k : Nat, k ≤ n ∧ i = .int .i64 k ∧ v = .string (txB (pr ++ ifsTx (ifs.take k))) ∧ Below w.heap.size w wr) (fun _ _ i _ => n - (intOf i).toNat)
  case atStart => exact ⟨0, Nat.zero_le _, rfl, by rw [ifsTx_zero, List.append_nil], HB.out⟩
  case round =>
    obtain ⟨k, hk, rfl, rfl, hb⟩ := hrel
    have HBR := Lib.hid hb
    have hp2 := HP.out.below hb HPP.out
    obtain ⟨c0, c1, c2, c3, c4⟩ := hp2
    dsimp only at c0 c1
    by_cases hlt : k < n
    · clear c0 c2 c3 c4
      obtain ⟨ad, rfl, hc⟩ := (HR.out.below hb).int hlt
      have hzb := HV.out.i64 (ifs[k]?.getD 0) (getD_mem (zs := ifs) (k := k) (by have := HL.out; omega))
      have hzb2 := HV.out.ifs (ifs[k]?.getD 0) (getD_mem (zs := ifs) (k := k) (by have := HL.out; omega))
      have h1 := HL.out
      have hst : ifsTx (ifs.take (k + 1)) = if k = 0 then itoa (ifs[k]?.getD 0) else ifsTx (ifs.take k) ++ [32, 38, 32] ++ itoa (ifs[k]?.getD 0) := by
        split
        · rename_i h0; subst h0; exact ifsTx_one (by omega)
        · exact ifsTx_succ (by omega) (by omega)
      have zk := ifsTake_len HV.out.i64 HV.out.n k
      change (ifsTx (ifs.take k)).length ≤ 144 at zk
      obtain ⟨z, hz⟩ : ∃ z, z = ifs[k]?.getD 0 := ⟨_, rfl⟩
      rw [← hz] at hc hst hzb2
      obtain ⟨sz, hsz⟩ : ∃ s, txB (itoa z) = s := ⟨_, rfl⟩
      have zz : sz.size ≤ 21 := by rw [← hsz, txB_size]; exact itoa_len (by omega)
      obtain ⟨sk, hsk⟩ : ∃ s, txB (pr ++ ifsTx (ifs.take k)) = s := ⟨_, rfl⟩
      have zs : sk.size ≤ 1000 := by rw [← hsk, txB_size, List.length_append]; omega
      rw [hsk]
      have hfin : txB (pr ++ ifsTx (ifs.take (k + 1))) = if k = 0 then sk ++ sz else sk ++ ⟨#[32, 38, 32]⟩ ++ sz := by
        rw [hst]
        split
        · rename_i h0
          rw [← hsk, ← hsz, h0, ifsTx_zero, List.append_nil, txB_append]
        · rw [← hsk, ← hsz, show (⟨#[32, 38, 32]⟩ : ByteArray) = txB [32, 38, 32] from rfl, txB_append, txB_append]
          simp only [List.append_assoc]
      have HF := Lib.hid hfin
      have hcN := l05Number_is z (by omega)
      rw [hsz] at hcN
      have HN := Lib.hid hcN
      clear hfin hst hsz hsk hzb hzb2 hz hcN hb h1 zk
      by_cases h0 : k = 0
      · have hf2 := Lib.hid (show txB (pr ++ ifsTx (ifs.take (k + 1))) = sk ++ sz by rw [HF.out, if_pos h0])
        have i1 : ¬ (0 : Int) < k := by omega
        have i2 : (0 : Int) ≤ k := by omega
        have i3 : (k : Int) < n := by omega
        subst h0
        rw [add_zero_] at hc
        clear HF
        go_wp2_with fail
        refine (HN.out _).mono ?_
        rintro e w2 ⟨rfl, hb2⟩
        have HB2 := Lib.hid (below_step HBR.out hb2)
        clear hb2
        go_wp2_with fail
        go_roundw
        case rel => exact ⟨0 + 1, by omega, by go_num, by rw [hf2.out], HB2.out⟩
        case measure => simp [intOf]; omega
      · have hf2 := Lib.hid (show txB (pr ++ ifsTx (ifs.take (k + 1))) = sk ++ ⟨#[32, 38, 32]⟩ ++ sz by rw [HF.out, if_neg h0])
        have i1 : (0 : Int) < k := by omega
        have i2 : (0 : Int) ≤ k := by omega
        have i3 : (k : Int) < n := by omega
        clear HF
        go_wp2_with fail
        refine (HN.out _).mono ?_
        rintro e w2 ⟨rfl, hb2⟩
        have HB2 := Lib.hid (below_step HBR.out hb2)
        clear hb2
        go_wp2_with fail
        go_roundw
        case rel => exact ⟨k + 1, by omega, by go_num, by rw [hf2.out], HB2.out⟩
        case measure => simp [intOf]; omega
    · obtain rfl : k = n := by omega
      clear c2 c3 c4
      have h1 := HL.out
      have h2 : (ifsTx ifs).length ≤ 144 := by
        have := ifsTake_len HV.out.i64 HV.out.n k
        change (ifsTx (ifs.take k)).length ≤ 144 at this
        rwa [List.take_of_length_le (by omega)] at this
      rw [List.take_of_length_le (by omega)]
      obtain ⟨sk, hsk⟩ : ∃ s, txB (pr ++ ifsTx ifs) = s := ⟨_, rfl⟩
      have zs : sk.size ≤ 1000 := by rw [← hsk, txB_size, List.length_append]; omega
      obtain ⟨sd, hsd⟩ : ∃ s, txB (itoa hd) = s := ⟨_, rfl⟩
      have zd : sd.size ≤ 21 := by rw [← hsd, txB_size]; exact itoa_len (by omega)
      have hcN := l05Number_is hd (by omega)
      rw [hsd] at hcN
      have HN := Lib.hid hcN
      rw [hsk]
      have hfin : txB (ruleTx (Ru.dat ⟨hd, fr, tt, rk, A, k, c, ifs⟩)) = if k = 0 then sk ++ ⟨#[61, 62, 32]⟩ ++ sd else sk ++ ⟨#[32]⟩ ++ ⟨#[61, 62, 32]⟩ ++ sd := by
        rw [ruleTx_pre, ← HPR.out]
        show txB (pr ++ ifsTx2 ifs ++ [61, 62, 32] ++ itoa hd) = _
        rw [← hsk, ← hsd, show (⟨#[61, 62, 32]⟩ : ByteArray) = txB [61, 62, 32] from rfl, show (⟨#[32]⟩ : ByteArray) = txB [32] from rfl]
        unfold ifsTx2
        by_cases h0 : k = 0
        · rw [if_pos h0, if_pos (List.length_eq_zero_iff.1 (by omega)), txB_append, txB_append, List.append_nil]
        · rw [if_neg h0, if_neg (by intro e; rw [e] at h1; exact h0 h1.symm), txB_append, txB_append, txB_append]
          simp only [List.append_assoc]
      have HF := Lib.hid hfin
      clear hfin hsk hsd hcN hb h1 h2
      by_cases h0 : k = 0
      · have hf2 := Lib.hid (show txB (ruleTx (Ru.dat ⟨hd, fr, tt, rk, A, k, c, ifs⟩)) = sk ++ ⟨#[61, 62, 32]⟩ ++ sd by rw [HF.out, if_pos h0])
        have i1 : ¬ (0 : Int) < k := by omega
        clear HF
        go_wp2_with fail
        refine (HN.out _).mono ?_
        rintro e w2 ⟨rfl, hb2⟩
        have HB2 := Lib.hid (below_step HBR.out hb2)
        clear hb2
        go_wp2_with fail
        go_ret
        exact ⟨by rw [hf2.out]; rfl, HB2.out⟩
      · have hf2 := Lib.hid (show txB (ruleTx (Ru.dat ⟨hd, fr, tt, rk, A, k, c, ifs⟩)) = sk ++ ⟨#[32]⟩ ++ ⟨#[61, 62, 32]⟩ ++ sd by rw [HF.out, if_neg h0])
        have i1 : (0 : Int) < k := by omega
        clear HF
        go_wp2_with fail
        refine (HN.out _).mono ?_
        rintro e w2 ⟨rfl, hb2⟩
        have HB2 := Lib.hid (below_step HBR.out hb2)
        clear hb2
        go_wp2_with fail
        go_ret
        exact ⟨by rw [hf2.out]; rfl, HB2.out⟩
end Go.Proofs.YtinocfehjdlohaaDoor
