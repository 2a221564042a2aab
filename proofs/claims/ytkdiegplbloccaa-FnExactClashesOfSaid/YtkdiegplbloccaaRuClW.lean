/-
  ClashesOf: the walks (under way).
-/
import Derived.Test.YtkdiegplbloccaaRuCl
import Derived.Test.YtkdiegplbloccaaCopy
namespace Go.Proofs.Ytkdiegplbloccaa
open Go.ChangeShapes Go.WideShapes Go.ChangeAt Go.RowKit
set_option linter.unusedVariables false
set_option linter.unusedSimpArgs false

theorem rd_two (w : World) (a b : Int) (t : TypeId) : Rd (w.alloc (.cells #[.int .i64 a, .int .i64 b] t)) (w.heap.size + 1) 1 (some ⟨w.heap.size, 0, none⟩) 2 (ints [a, b]) := by
  refine ⟨rfl, fun _ => ⟨_, rfl, by simp, fun j u hu => ?_⟩⟩
  have hj : j < 2 := by
    have := (List.getElem?_eq_some_iff.1 hu).1
    simpa [ints] using this
  have e : (⟨w.heap.size, 0, none⟩ : Addr).add j = ⟨w.heap.size, j, none⟩ := by cases j <;> simp [Addr.add]
  rw [e, World.cell?_alloc_at _ _ _ _ rfl]
  match j, hj with
  | 0, _ => exact hu
  | 1, _ => exact hu
/-- the rules' numbers are small -/
theorem valid_small {d : Rl} (h : validB d = true) : (-16 ≤ d.hd ∧ d.hd ≤ 16) ∧ ∀ z ∈ d.ifs, -1000 ≤ z ∧ z ≤ 1000 := by
  unfold validB at h
  simp only [Bool.and_eq_true] at h
  obtain ⟨h1, ⟨h2, _⟩, _⟩ := h
  refine ⟨by have := wordB_iff.1 h1; omega, fun z hz => ?_⟩
  obtain ⟨i, hi⟩ := List.getElem?_of_mem hz
  have hl : i < d.ifs.length := (List.getElem?_eq_some_iff.1 hi).1
  have := wordB_iff.1 (wordsTo_word (zs := d.ifs) (k := d.ifs.length) h2 hl)
  rw [hi] at this
  simp at this
  omega
theorem actTo_in (ds : List Rl) (day : Int) (k : Nat) : ∀ z ∈ actTo ds day k, 0 ≤ z ∧ z < k := by
  induction k with
  | zero => intro z hz; simp [actTo] at hz
  | succ k ih =>
    intro z hz
    rw [actTo] at hz
    split at hz
    · rcases List.mem_append.1 hz with h | h
      · have := ih z h; omega
      · rw [List.mem_singleton.1 h]; omega
    · have := ih z hz; omega
theorem cell_al {w : World} {p : Addr} {v : Value} (h : w.cell? p = some v) (hp : p.block < w.heap.size) : (∀ o, (w.alloc o).cell? p = some v) ∧ ∀ o o', ((w.alloc o).alloc o').cell? p = some v :=
  ⟨fun o => (World.cell?_alloc_lt w o p hp).trans h, fun o o' => (World.cell?_alloc_lt (w.alloc o) o' p (by rw [World.size_alloc]; omega)).trans ((World.cell?_alloc_lt w o p hp).trans h)⟩
theorem bl2 {w : World} (o o' : Go.Obj) : Below w.heap.size w ((w.alloc o).alloc o').drew := (((Below.refl _ _).alloc (Nat.le_refl _) _).alloc (by simp) _).drew
theorem gout_succ (f : Int → Int → List Int) (l : List Int) (n : Nat) : gout f l (n + 1) = gout f l n ++ ginn f l n (l.length - (n + 1)) := rfl
theorem ginn_succ (f : Int → Int → List Int) (l : List Int) (n t : Nat) : ginn f l n (t + 1) = ginn f l n t ++ f (l[n]?.getD 0) (l[n + 1 + t]?.getD 0) := rfl
set_option maxHeartbeats 6400000 in
theorem impl_ClashesOf (A : Option Addr) (m c : Nat) (ds : List Rl) (day : Int) (w : World) (hr : RsRd w w.heap.size A m ds) (hz : szD ds ≤ 1048576) (hb : ∀ d ∈ ds, RlB d) (hday : -9223372036854775808 ≤ day ∧ day ≤ 9223372036854775807) :
    Calls Try.prog 48 #[.slice A m c, .int .i64 day] w (SlEnds w (ClashesOf_r0 ds day) (ClashesOf_r1 ds day)) := by
  have HA := Lib.hid (impl_ActiveRules A m c ds day w hr hz hb hday)
  have HL := Lib.hid hr.len
  have hm := sz_len hz hr.len
  have HRN := Lib.hid (show ∀ rs : List Ru, (∀ r ∈ rs, r.n = r.ifs.length) → rs.map Ru.dat = ds → RuN rs from fun rs h e => ruN_of h (by rw [e]; exact hz) (by rw [e]; exact hb))
  clear hb hz
  cases h : actOk ds day
  case false =>
    have hfin := Lib.hid (cs_no h)
    have har := Lib.hid (ar_no h)
    go_enter Try.func48, Try.ntmps48
    go_wp2_with fail
    refine HA.out.mono ?_
    rintro e w1 ⟨v, rfl, ho, hb⟩
    rw [har.out.2]
    go_wp2_with fail
    go_ret2
    rw [hfin.out.1, hfin.out.2]
    exact sl_no hb
  have hfin := Lib.hid (cs_yes h HL.out)
  have har := Lib.hid (ar_yes h HL.out)
  have hin := Lib.hid (actTo_in ds day m)
  have HV := Lib.hid (show ∀ d ∈ ds, validB d = true by
    unfold actOk rulesB at h
    simp only [Bool.and_eq_true, decide_eq_true_eq] at h
    exact fun d hd => List.all_eq_true.1 h.1.2 d hd)
  have hm24 : m ≤ 24 := by
    have := HL.out
    unfold actOk rulesB at h
    simp at h
    omega
  go_enter Try.func48, Try.ntmps48
  go_wp2_with fail
  refine HA.out.mono ?_
  rintro e w1 ⟨v, rfl, ho, hb⟩
  rw [har.out.1] at ho
  rw [har.out.2]
  obtain ⟨zs, hzs⟩ : ∃ zs, zs = actTo ds day m := ⟨_, rfl⟩
  rw [← hzs] at ho hin
  have hzl : zs.length ≤ m := by rw [hzs]; exact actTo_len ds day m
  obtain ⟨A2, c2, rfl, hcap, hcm⟩ := own_form ho
  obtain ⟨n2, hn2⟩ : ∃ n2, n2 = zs.length := ⟨_, rfl⟩
  rw [← hn2] at ho hzl hcap ⊢
  have HN2 := Lib.hid hn2
  have hra := Lib.hid (Rd.of_own ho)
  have HB := Lib.hid hb
  have HZS := Lib.hid hzs
  have HR1 := Lib.hid (hr.on hb)
  have hc63 : c2 ≤ 9223372036854775807 := by have := hcm; unfold maxLen at this; omega
  have hn24 : n2 ≤ 24 := by omega
  clear hb ho hzs hn2 hr hcm h
  go_wp2_with fail
  go_loopw [8, 9, 10, 12, 13, 14, 26] (fun v _ _ _ _ _ i wr => ∃ k : Nat, k ≤ n2 ∧ i = .int .i64 k ∧ wr.ownsRow w1.heap.size 2 1 v (gout (fcl ds) zs k).length (ints (gout (fcl ds) zs k)) ∧ Below w1.heap.size w1 wr) (fun _ _ _ _ _ _ i _ => n2 - (intOf i).toNat)
  case atStart => exact ⟨0, Nat.zero_le _, rfl, own_empty _ _, (Below.refl _ _).alloc (Nat.le_refl _) _⟩
  case round =>
    obtain ⟨k, hk, rfl, hown, hbw⟩ := hrel
    by_cases hlt : k < n2
    · obtain ⟨ad2, rfl, hcz⟩ := (hra.out.below hbw).int hlt
      have hzi := hin.out _ (getD_mem (zs := zs) (k := k) (by have := HN2.out; omega))
      obtain ⟨z, hz⟩ : ∃ z, z = zs[k]?.getD 0 := ⟨_, rfl⟩
      rw [← hz] at hcz hzi
      have HZ := Lib.hid hz
      obtain ⟨i, rfl⟩ := Int.eq_ofNat_of_zero_le hzi.1
      have hi : i < m := by omega
      have hl := gout_len (fcl_len ds) zs (by have := HN2.out; omega) k
      have hst := Lib.hid (gout_succ (fcl ds) zs k)
      obtain ⟨ls, hls⟩ : ∃ ls, ls = gout (fcl ds) zs k := ⟨_, rfl⟩
      rw [← hls] at hown hl hst
      have HCUT := Lib.hid (hra.out.cut (k := k + 1) (cap := c2) (by omega) hcap)
      clear hz hzi hls
      have s1 : (k : Int) + 1 ≤ n2 := by omega
      have s2 : (n2 : Int) ≤ c2 := by omega
      have hkc : k + 1 ≤ c2 := by omega
      have HO := Lib.hid hown
      have HW := Lib.hid hbw
      clear hown hbw
      by_cases hck : c2 = k + 1
      · have hfl := Lib.hid (show ginn (fcl ds) zs k (zs.length - (k + 1)) = [] by rw [show zs.length - (k + 1) = 0 by have := HN2.out; omega, ginn])
        have hz0 : n2 - (k + 1) = 0 := by omega
        obtain rfl : n2 = k + 1 := by omega
        subst hck
        have hst2 := Lib.hid (show gout (fcl ds) zs (k + 1) = ls by rw [hst.out, hfl.out, List.append_nil])
        clear hra HCUT hfl
        go_wp2_with fail
        go_loop [8, 12, 13, 14, 36] (fun v _ _ _ i => v = u8 ∧ i = .int .i64 (0 : Nat)) (fun _ _ _ _ _ => 0)
        case atStart => exact ⟨rfl, rfl⟩
        case round =>
          obtain ⟨rfl, rfl⟩ := hrel
          go_wp2_with fail
          go_roundw
          case rel => exact ⟨k + 1, by omega, by go_num, by rw [hst2.out]; exact HO.out, HW.out⟩
          case measure => simp [intOf] <;> omega
      go_wp2_with fail
      obtain ⟨ae, hae⟩ : ∃ ae : Addr, ae = ⟨ad2.block, ad2.off + (k + 1), none⟩ := ⟨_, rfl⟩
      rw [← hae]
      have HRA := Lib.hid (show Rd w1 w1.heap.size 1 (some ae) (n2 - (k + 1)) (ints (zs.drop (k + 1))) by
        have := HCUT.out
        rw [if_neg hck, ints_drop] at this
        rw [hae]
        simpa [Addr.add] using this)
      obtain ⟨r2, hr2⟩ : ∃ r2, r2 = n2 - (k + 1) := ⟨_, rfl⟩
      rw [← hr2] at HRA ⊢
      have HR2 := Lib.hid hr2
      have hr24 : r2 ≤ 24 := by omega
      obtain ⟨cc, hcc⟩ : ∃ cc, cc = c2 - (k + 1) := ⟨_, rfl⟩
      rw [← hcc]
      clear hae hr2 hcc HCUT s2 hcap
      go_loopw [8, 12, 13, 14, 36] (fun v _ _ _ i wi => ∃ t : Nat, t ≤ r2 ∧ i = .int .i64 t ∧ wi.ownsRow w1.heap.size 2 1 v (ls ++ ginn (fcl ds) zs k t).length (ints (ls ++ ginn (fcl ds) zs k t)) ∧ Below w1.heap.size w1 wi) (fun _ _ _ _ i _ => r2 - (intOf i).toNat)
      case atStart => exact ⟨0, Nat.zero_le _, rfl, by simpa [ginn] using HO.out, HW.out⟩
      case round =>
        obtain ⟨t, ht, rfl, howni, hbi⟩ := hrel
        by_cases htl : t < r2
        · obtain ⟨ae2, hE, hcy⟩ := (HRA.out.below hbi).int htl
          cases hE
          have hyv : (zs.drop (k + 1))[t]?.getD 0 = zs[k + 1 + t]?.getD 0 := by rw [List.getElem?_drop]
          rw [hyv] at hcy
          have hyi := hin.out _ (getD_mem (zs := zs) (k := k + 1 + t) (by have := HN2.out; have := HR2.out; omega))
          obtain ⟨y, hy⟩ : ∃ y, y = zs[k + 1 + t]?.getD 0 := ⟨_, rfl⟩
          rw [← hy] at hcy hyi
          have HY := Lib.hid hy
          obtain ⟨j, rfl⟩ := Int.eq_ofNat_of_zero_le hyi.1
          have hj : j < m := by omega
          have hli := ginn_len (fcl_len ds) zs k t
          have hs2 := Lib.hid (ginn_succ (fcl ds) zs k t)
          clear hy hyi hyv
          obtain ⟨rs, hr2, hrs⟩ := HR1.out.below hbi
          obtain ⟨ad, r, rfl, ka, hrk, hc0, hc1, hc2, hc3, hc4, hri⟩ := hr2.row hi
          obtain ⟨ad', r', hE, ka', hrk', hd0, hd1, hd2, hd3, hd4, hri'⟩ := hr2.row hj
          cases hE
          have q1 := (HRN.out rs hr2.nlen hrs r (List.mem_of_getElem? hrk)).1
          have q2 := (HRN.out rs hr2.nlen hrs r' (List.mem_of_getElem? hrk')).1
          have HAT := Lib.hid (show atD ds (i : Int) = r.dat by rw [← hrs]; exact dat_at hrk)
          have HAT' := Lib.hid (show atD ds (j : Int) = r'.dat by rw [← hrs]; exact dat_at hrk')
          have HVA := valid_small (HV.out r.dat (by rw [← hrs]; exact List.mem_map_of_mem (List.mem_of_getElem? hrk)))
          have HVB := valid_small (HV.out r'.dat (by rw [← hrs]; exact List.mem_map_of_mem (List.mem_of_getElem? hrk')))
          have b1 := HVA.1
          have b2 := HVB.1
          have HVA2 := Lib.hid HVA.2
          have HRI := Lib.hid (hri.more hbi.size)
          have HRJ := Lib.hid (hri'.more hbi.size)
          have HOI := Lib.hid howni
          have HBI := Lib.hid hbi
          have hi1 : (0 : Int) ≤ i := by omega
          have hi2 : (i : Int) < m := by omega
          have hj1 : (0 : Int) ≤ j := by omega
          have hj2 : (j : Int) < m := by omega
          obtain ⟨hd, fr, tt, rk, Ai, ni, ci, ifs⟩ := r
          obtain ⟨hd', fr', tt', rk', Aj, nj, cj, jfs⟩ := r'
          dsimp only [Ru.dat] at hc0 hc1 hc2 hc3 hc4 hd0 hd1 hd2 hd3 hd4 q1 q2 HRI HRJ b1 b2 HVA2 HAT HAT'
          have kb : (ad.add (i * 5)).block < wr.heap.size := by rw [add_block]; have := hbi.size; omega
          have kb' : (ad.add (j * 5)).block < wr.heap.size := by rw [add_block]; have := hbi.size; omega
          obtain ⟨hc0a, hc0b⟩ := cell_al hc0 kb
          obtain ⟨hc1a, hc1b⟩ := cell_al hc1 kb
          obtain ⟨hc2a, hc2b⟩ := cell_al hc2 kb
          obtain ⟨hc3a, hc3b⟩ := cell_al hc3 kb
          obtain ⟨hc4a, hc4b⟩ := cell_al hc4 kb
          obtain ⟨hd0a, hd0b⟩ := cell_al hd0 kb'
          obtain ⟨hd1a, hd1b⟩ := cell_al hd1 kb'
          obtain ⟨hd2a, hd2b⟩ := cell_al hd2 kb'
          obtain ⟨hd3a, hd3b⟩ := cell_al hd3 kb'
          obtain ⟨hd4a, hd4b⟩ := cell_al hd4 kb'
          clear hr2 hrs hrk hrk' hri hri' howni hbi ka ka' HVA HVB hra kb kb'
          have hs3 := Lib.hid (show ls ++ ginn (fcl ds) zs k (t + 1) = (ls ++ ginn (fcl ds) zs k t) ++ (if clB ⟨hd, ifs, fr, tt, rk⟩ ⟨hd', jfs, fr', tt', rk'⟩ then [(i : Int), (j : Int)] else []) by
            rw [hs2.out, ← HZ.out, ← HY.out, List.append_assoc]; unfold fcl; rw [HAT.out, HAT'.out])
          obtain ⟨ol, hol⟩ : ∃ ol, ol = ls ++ ginn (fcl ds) zs k t := ⟨_, rfl⟩
          have hls : ol.length ≤ 4096 := by rw [hol, List.length_append]; omega
          rw [← hol] at HOI hs3
          have HOL := Lib.hid hol
          clear hol hs2
          rcases Bool.eq_false_or_eq_true (hd == -hd') with t1 | t1
          case inr =>
            have hv := Lib.hid (show ls ++ ginn (fcl ds) zs k (t + 1) = ol by rw [hs3.out, if_neg (by unfold clB; dsimp only; rw [t1]; simp), List.append_nil])
            go_wp2_with fail
            go_region
            all_goals go_wp2_with fail
            all_goals go_roundw
            all_goals first | (exact ⟨t + 1, by omega, by go_num, by rw [hv.out]; exact own_on HOI.out (bl2 _ _), below_step HBI.out (bl2 _ _)⟩) | (simp [intOf]; omega)
          rcases Bool.eq_false_or_eq_true (rk == rk') with t2 | t2
          case inr =>
            have hv := Lib.hid (show ls ++ ginn (fcl ds) zs k (t + 1) = ol by rw [hs3.out, if_neg (by unfold clB; dsimp only; rw [t1, t2]; simp), List.append_nil])
            go_wp2_with fail
            go_region
            all_goals go_wp2_with fail
            all_goals go_roundw
            all_goals first | (exact ⟨t + 1, by omega, by go_num, by rw [hv.out]; exact own_on HOI.out (bl2 _ _), below_step HBI.out (bl2 _ _)⟩) | (simp [intOf]; omega)
          cases t3 : opposeB ⟨hd, ifs, fr, tt, rk⟩ ⟨hd', jfs, fr', tt', rk'⟩
          case true =>
            have hv := Lib.hid (show ls ++ ginn (fcl ds) zs k (t + 1) = ol by rw [hs3.out, if_neg (by unfold clB; dsimp only; rw [t1, t2, t3]; decide), List.append_nil])
            have HO3 := Lib.hid t3
            clear t3
            go_wp2_with fail
            go_region
            all_goals go_wp2_with (go_at_call 89; refine (oppose_is hd fr tt rk hd' fr' tt' rk' Ai Aj ni ci nj cj ifs jfs _ (HRI.out.on (bl2 _ _)) (HRJ.out.on (bl2 _ _)) q1 q2 HVA2.out HO3.out).mono ?_; rintro e w3 ⟨rfl, hb3⟩)
            all_goals go_roundw
            all_goals first | (exact ⟨t + 1, by omega, by go_num, by rw [hv.out]; exact own_on (own_on HOI.out (bl2 _ _)) hb3, below_step (below_step HBI.out (bl2 _ _)) hb3⟩) | (simp [intOf]; omega)
          case false =>
            have hv := Lib.hid (show ls ++ ginn (fcl ds) zs k (t + 1) = ol ++ [(i : Int), (j : Int)] by rw [hs3.out, if_pos (by unfold clB; dsimp only; rw [t1, t2, t3]; rfl)])
            have HO3 := Lib.hid t3
            clear t3
            go_wp2_with fail
            go_region
            all_goals go_wp2_with fail
            all_goals refine (oppose_is hd fr tt rk hd' fr' tt' rk' Ai Aj ni ci nj cj ifs jfs _ (HRI.out.on (bl2 _ _)) (HRJ.out.on (bl2 _ _)) q1 q2 HVA2.out HO3.out).mono ?_
            all_goals rintro e w3 ⟨rfl, hb3⟩
            all_goals have HO4 := Lib.hid (own_on (own_on HOI.out (bl2 _ _)) hb3)
            all_goals have HB4 := Lib.hid (below_step (below_step HBI.out (bl2 _ _)) hb3)
            all_goals clear hb3
            all_goals go_wp2_with (at_builtin; refine append_ints rfl (.tmp 67) (.tmp 70) rfl w1 _ ol.length ol rfl (HO4.out.alloc _) (HB4.out.alloc HB4.out.size _) _ 2 2 [(i : Int), (j : Int)] rfl (rd_two _ _ _ _) (by omega) ?_; intro v' w' ho2 hb2 _)
            all_goals go_roundw
            all_goals first | (exact ⟨t + 1, by omega, by go_num, by rw [hv.out]; simpa using ho2, hb2⟩) | (simp [intOf]; omega)
        · obtain rfl : r2 = t := by omega
          have hfx := Lib.hid (show gout (fcl ds) zs (k + 1) = ls ++ ginn (fcl ds) zs k r2 by rw [hst.out, HR2.out, HN2.out])
          clear hra
          go_wp2_with fail
          go_roundw
          case rel => exact ⟨k + 1, by omega, by go_num, by rw [hfx.out]; exact howni, hbi⟩
          case measure => simp [intOf]; omega
    · obtain rfl : n2 = k := by omega
      clear hra
      go_wp2_with fail
      go_ret2
      rw [hfin.out.1, hfin.out.2]
      exact sl_yes (by rw [← HZS.out, ← HN2.out]) (by rw [← HZS.out, ← HN2.out]; exact own_base hown HB.out.size) (HB.out.trans (hbw.mono HB.out.size))
end Go.Proofs.Ytkdiegplbloccaa
