/-
  ClashesOf: the reference's walk.
-/
import Derived.Test.YtkdiegplbloccaaRuClW
import Derived.Deep.QuietTactic
import Derived.BigQuiet
namespace Go.Proofs.Ytkdiegplbloccaa
open Go.ChangeShapes Go.WideShapes Go.ChangeAt Go.RowKit
set_option linter.unusedVariables false
set_option linter.unusedSimpArgs false

theorem gcl_no {ds : List Rl} {day i k : Int} (h : onB (atD ds i) day = false ∨ onB (atD ds k) day = false ∨ clB (atD ds i) (atD ds k) = false) : gcl ds day i k = [] := by
  unfold gcl fcl
  rcases h with h | h | h <;> simp [h]
theorem gcl_yes {ds : List Rl} {day i k : Int} (h1 : onB (atD ds i) day = true) (h2 : onB (atD ds k) day = true) (h3 : clB (atD ds i) (atD ds k) = true) : gcl ds day i k = [i, k] := by
  unfold gcl fcl
  simp [h1, h2, h3]
theorem bl_alloc' {W w : World} (h : Below W.heap.size W w) (o : Go.Obj) : Below W.heap.size W (w.alloc o) := h.alloc h.size o
set_option maxRecDepth 100000 in
set_option maxHeartbeats 6400000 in
theorem spec_ClashesOf (A : Option Addr) (m c : Nat) (ds : List Rl) (day : Int) (w : World) (hr : RsRd w w.heap.size A m ds) (hz : szD ds ≤ 1048576) (hb : ∀ d ∈ ds, RlB d) (hday : -9223372036854775808 ≤ day ∧ day ≤ 9223372036854775807) :
    Calls Try.prog 47 #[.slice A m c, .int .i64 day] w (SlEnds w (ClashesOf_r0 ds day) (ClashesOf_r1 ds day)) := by
  have HL := Lib.hid hr.len
  have HZ := Lib.hid hz
  have HRB := Lib.hid hb
  have HRN := Lib.hid (show ∀ rs : List Ru, (∀ r ∈ rs, r.n = r.ifs.length) → rs.map Ru.dat = ds → RuN rs from fun rs h e => ruN_of h (by rw [e]; exact hz) (by rw [e]; exact hb))
  have hm := sz_len hz hr.len
  clear hb hz
  cases h1 : rulesB ds
  case false =>
    have hfin := Lib.hid (cs_no (ds := ds) (day := day) (by simp [actOk, h1]))
    go_enter Try.func47, Try.ntmps47
    go_wp2_with fail
    refine (l05Rules_is _ _ _ _ hr HZ.out HRB.out h1).mono ?_
    rintro e w1 ⟨rfl, j, rfl⟩
    go_wp2_with fail
    go_ret2
    rw [hfin.out.1, hfin.out.2]
    exact sl_no (below_drewN (Below.refl _ _) j)
  cases h2 : inB day 0 100000
  case false =>
    have hfin := Lib.hid (cs_no (ds := ds) (day := day) (by simp [actOk, h2]))
    go_enter Try.func47, Try.ntmps47
    go_wp2_with fail
    refine (l05Rules_is _ _ _ _ hr HZ.out HRB.out h1).mono ?_
    rintro e w1 ⟨rfl, j, rfl⟩
    go_wp2_with (go_at_call 81; refine (l05Day_is h2 _).mono ?_; rintro e w' ⟨rfl, rfl⟩)
    go_ret2
    rw [hfin.out.1, hfin.out.2]
    exact sl_no (below_drewN (Below.refl _ _) j)
  have hfin := Lib.hid (show ClashesOf_r0 ds day = gout (gcl ds day) (allI m) m ∧ ClashesOf_r1 ds day = true by
    have := cs_yes (ds := ds) (day := day) (m := m) (by simp [actOk, h1, h2]) HL.out
    rw [clash_same]; exact this)
  have hm24 : m ≤ 24 := by have := rules_len h1; have := HL.out; omega
  have HV := Lib.hid (show ∀ d ∈ ds, validB d = true by
    unfold rulesB at h1
    simp only [Bool.and_eq_true, decide_eq_true_eq] at h1
    exact fun d hd => List.all_eq_true.1 h1.2 d hd)
  go_enter Try.func47, Try.ntmps47
  go_wp2_with fail
  refine (l05Rules_is _ _ _ _ hr HZ.out HRB.out h1).mono ?_
  rintro e w1 ⟨rfl, j0, rfl⟩
  have HB := Lib.hid (below_drewN (Below.refl w.heap.size w) j0)
  have HR0 := Lib.hid hr
  generalize w.drewN j0 = w1 at HB ⊢
  clear hr h1
  go_wp2_with (go_at_call 81; refine (l05Day_is h2 _).mono ?_; rintro e w' ⟨rfl, rfl⟩)
  clear h2
  go_loopw [6, 7, 8, 9, 10, 11, 12, 24] (fun v _ _ _ _ _ _ i wr => ∃ k : Nat, k ≤ m ∧ i = .int .i64 k ∧ wr.ownsRow w.heap.size 2 1 v (gout (gcl ds day) (allI m) k).length (ints (gout (gcl ds day) (allI m) k)) ∧ Below w.heap.size w wr) (fun _ _ _ _ _ _ _ i _ => m - (intOf i).toNat)
  case atStart => exact ⟨0, Nat.zero_le _, rfl, own_base (own_empty _ _) HB.out.size, bl_alloc' HB.out _⟩
  case round =>
    obtain ⟨k, hk, rfl, hown, hbw⟩ := hrel
    by_cases hlt : k < m
    · have hl := gout_len (gcl_len ds day) (allI m) (by rw [allI_len]; exact hm24) k
      have hst := Lib.hid (gout_succ (gcl ds day) (allI m) k)
      obtain ⟨ls, hls⟩ : ∃ ls, ls = gout (gcl ds day) (allI m) k := ⟨_, rfl⟩
      rw [← hls] at hown hl hst
      clear hls
      go_wp2_with fail
      go_loopw [6, 8, 9, 10, 11, 12] (fun v kv _ _ _ _ wi => ∃ t : Nat, k + 1 + t ≤ m ∧ kv = .int .i64 ((k + 1 + t : Nat) : Int) ∧ wi.ownsRow w.heap.size 2 1 v (ls ++ ginn (gcl ds day) (allI m) k t).length (ints (ls ++ ginn (gcl ds day) (allI m) k t)) ∧ Below w.heap.size w wi) (fun _ kv _ _ _ _ _ => m - (intOf kv).toNat)
      case atStart => exact ⟨0, by omega, by go_num, by simpa [ginn] using hown, hbw⟩
      case round =>
        obtain ⟨t, ht, rfl, howni, hbi⟩ := hrel
        clear hown hbw
        by_cases htl : k + 1 + t < m
        · obtain ⟨rs, hr2, hrs⟩ := HR0.out.below hbi
          have hr3 := hr2.more hbi.size
          obtain ⟨ad, r, rfl, hrk, ha, hri⟩ := hr3.at hlt
          obtain ⟨ad', r', hE, hrk', ha', hri'⟩ := hr3.at htl
          cases hE
          have q1 := (HRN.out rs hr2.nlen hrs r (List.mem_of_getElem? hrk)).1
          have q2 := (HRN.out rs hr2.nlen hrs r' (List.mem_of_getElem? hrk')).1
          have HVA := valid_small (HV.out r.dat (by rw [← hrs]; exact List.mem_map_of_mem (List.mem_of_getElem? hrk)))
          have HVB := valid_small (HV.out r'.dat (by rw [← hrs]; exact List.mem_map_of_mem (List.mem_of_getElem? hrk')))
          have HAT := Lib.hid (show atD ds (k : Int) = r.dat by rw [← hrs]; exact dat_at hrk)
          have HAT' := Lib.hid (show atD ds ((k + 1 + t : Nat) : Int) = r'.dat by rw [← hrs]; exact dat_at hrk')
          have hs2 := Lib.hid (show ls ++ ginn (gcl ds day) (allI m) k (t + 1) = (ls ++ ginn (gcl ds day) (allI m) k t) ++ gcl ds day k ((k + 1 + t : Nat) : Int) by
            rw [ginn_succ, allI_at hlt, allI_at htl, List.append_assoc])
          have hli := ginn_len (gcl_len ds day) (allI m) k t
          obtain ⟨ol, hol⟩ : ∃ ol, ol = ls ++ ginn (gcl ds day) (allI m) k t := ⟨_, rfl⟩
          have hls : ol.length ≤ 4096 := by rw [hol, List.length_append]; omega
          rw [← hol] at howni hs2
          have HOL := Lib.hid hol
          obtain ⟨u, hu⟩ : ∃ u, u = k + 1 + t := ⟨_, rfl⟩
          rw [← hu] at htl ha' HAT' hs2 ⊢
          have HU := Lib.hid hu
          have hum : u ≤ m := by omega
          have b1 := HVA.1
          have b2 := HVB.1
          have HVA2 := Lib.hid HVA.2
          have HRI := Lib.hid hri
          have HRJ := Lib.hid hri'
          have HA := Lib.hid ha
          have HA' := Lib.hid ha'
          have HOI := Lib.hid howni
          have HBI := Lib.hid hbi
          have i1 : (0 : Int) ≤ k := by omega
          have i2 : (k : Int) < m := by omega
          have i3 : (0 : Int) ≤ u := by omega
          have i4 : (u : Int) < m := by omega
          obtain ⟨c0, c1, c2, c3, c4⟩ := ha
          obtain ⟨d0, d1, d2, d3, d4⟩ := ha'
          simp only [Ru.dat] at b1 b2
          clear hr2 hr3 hrs hrk hrk' hri hri' howni hbi HVA HVB hol hu
          cases o1 : onB r.dat day
          · have hv := Lib.hid (show ls ++ ginn (gcl ds day) (allI m) k (t + 1) = ol by rw [hs2.out, gcl_no (.inl (by rw [HAT.out]; exact o1)), List.append_nil])
            have HO1 := Lib.hid o1
            clear o1
            go_wp2_with fail
            obtain ⟨pa, hpa⟩ : ∃ pa, pa = ad.add (k * 5) := ⟨_, rfl⟩; obtain ⟨pb, hpb⟩ : ∃ pb, pb = ad.add (u * 5) := ⟨_, rfl⟩; rw [← hpa, ← hpb]; rw [← hpa] at c0 c1 c2 c3 c4 HA; rw [← hpb] at d0 d1 d2 d3 d4 HA'; clear hpa hpb
            go_quiet ((go_at_call_of 82 pa; exact quietL (l05On_is pa r day _ (HA.out.drewN _) HO1.out)))
            go_wp2_with fail
            go_roundw
            case rel => exact ⟨t + 1, by have := HU.out; omega, by rw [HU.out]; go_num, by rw [hv.out]; exact HOI.out, below_drewN HBI.out _⟩
            case measure => simp [intOf]; omega
          cases o2 : onB r'.dat day
          · have hv := Lib.hid (show ls ++ ginn (gcl ds day) (allI m) k (t + 1) = ol by rw [hs2.out, gcl_no (.inr (.inl (by rw [HAT'.out]; exact o2))), List.append_nil])
            have HO1 := Lib.hid o1
            have HO2 := Lib.hid o2
            clear o1 o2
            go_wp2_with fail
            obtain ⟨pa, hpa⟩ : ∃ pa, pa = ad.add (k * 5) := ⟨_, rfl⟩; obtain ⟨pb, hpb⟩ : ∃ pb, pb = ad.add (u * 5) := ⟨_, rfl⟩; rw [← hpa, ← hpb]; rw [← hpa] at c0 c1 c2 c3 c4 HA; rw [← hpb] at d0 d1 d2 d3 d4 HA'; clear hpa hpb
            go_quiet ((first | (go_at_call_of 82 pa; exact quietL (l05On_is pa r day _ (HA.out.drewN _) HO1.out)) | (go_at_call_of 82 pb; exact quietL (l05On_is pb r' day _ (HA'.out.drewN _) HO2.out))))
            go_wp2_with fail
            go_roundw
            case rel => exact ⟨t + 1, by have := HU.out; omega, by rw [HU.out]; go_num, by rw [hv.out]; exact HOI.out, below_drewN HBI.out _⟩
            case measure => simp [intOf]; omega
          have HO1 := Lib.hid o1
          have HO2 := Lib.hid o2
          clear o1 o2
          rcases Bool.eq_false_or_eq_true (r.hd != -r'.hd) with t1 | t1
          case inl =>
            have hv := Lib.hid (show ls ++ ginn (gcl ds day) (allI m) k (t + 1) = ol by rw [hs2.out, gcl_no (.inr (.inr (by rw [HAT.out, HAT'.out]; unfold clB; simp only [Ru.dat]; rw [show (r.hd == -r'.hd) = false by simpa [bne] using t1]; rfl))), List.append_nil])
            go_wp2_with fail
            obtain ⟨pa, hpa⟩ : ∃ pa, pa = ad.add (k * 5) := ⟨_, rfl⟩; obtain ⟨pb, hpb⟩ : ∃ pb, pb = ad.add (u * 5) := ⟨_, rfl⟩; rw [← hpa, ← hpb]; rw [← hpa] at c0 c1 c2 c3 c4 HA; rw [← hpb] at d0 d1 d2 d3 d4 HA'; clear hpa hpb
            go_quiet ((first | (go_at_call_of 82 pa; exact quietL (l05On_is pa r day _ (HA.out.drewN _) HO1.out)) | (go_at_call_of 82 pb; exact quietL (l05On_is pb r' day _ (HA'.out.drewN _) HO2.out))))
            go_wp2_with fail
            go_roundw
            case rel => exact ⟨t + 1, by have := HU.out; omega, by rw [HU.out]; go_num, by rw [hv.out]; exact HOI.out, below_drewN HBI.out _⟩
            case measure => simp [intOf]; omega
          rcases Bool.eq_false_or_eq_true (r.rk != r'.rk) with t2 | t2
          case inl =>
            have hv := Lib.hid (show ls ++ ginn (gcl ds day) (allI m) k (t + 1) = ol by rw [hs2.out, gcl_no (.inr (.inr (by rw [HAT.out, HAT'.out]; unfold clB; simp only [Ru.dat]; rw [show (r.rk == r'.rk) = false by simpa [bne] using t2]; simp))), List.append_nil])
            go_wp2_with fail
            obtain ⟨pa, hpa⟩ : ∃ pa, pa = ad.add (k * 5) := ⟨_, rfl⟩; obtain ⟨pb, hpb⟩ : ∃ pb, pb = ad.add (u * 5) := ⟨_, rfl⟩; rw [← hpa, ← hpb]; rw [← hpa] at c0 c1 c2 c3 c4 HA; rw [← hpb] at d0 d1 d2 d3 d4 HA'; clear hpa hpb
            go_quiet ((first | (go_at_call_of 82 pa; exact quietL (l05On_is pa r day _ (HA.out.drewN _) HO1.out)) | (go_at_call_of 82 pb; exact quietL (l05On_is pb r' day _ (HA'.out.drewN _) HO2.out))))
            go_wp2_with fail
            go_roundw
            case rel => exact ⟨t + 1, by have := HU.out; omega, by rw [HU.out]; go_num, by rw [hv.out]; exact HOI.out, below_drewN HBI.out _⟩
            case measure => simp [intOf]; omega
          have HCL := Lib.hid (show clB r.dat r'.dat = !opposeB r.dat r'.dat by
            unfold clB; simp only [Ru.dat]; rw [show (r.hd == -r'.hd) = true by simpa [bne] using t1, show (r.rk == r'.rk) = true by simpa [bne] using t2]; rfl)
          obtain ⟨hd, fr, tt, rk, Ai, ni, ci, ifs⟩ := r
          obtain ⟨hd', fr', tt', rk', Aj, nj, cj, jfs⟩ := r'
          dsimp only [Ru.dat] at c0 c1 c2 c3 c4 d0 d1 d2 d3 d4 q1 q2 t1 t2 b1 b2 HRI HRJ HVA2 HA HA' HCL HO1 HO2 HAT HAT'
          have hnl := HRI.out.ilen
          have HNL := Lib.hid hnl
          clear hnl
          go_wp2_with fail
          obtain ⟨pa, hpa⟩ : ∃ pa, pa = ad.add (k * 5) := ⟨_, rfl⟩; obtain ⟨pb, hpb⟩ : ∃ pb, pb = ad.add (u * 5) := ⟨_, rfl⟩; rw [← hpa, ← hpb]; rw [← hpa] at c0 c1 c2 c3 c4 HA; rw [← hpb] at d0 d1 d2 d3 d4 HA'; clear hpa hpb
          go_quiet ((first | (go_at_call_of 82 pa; exact quietL (l05On_is pa ⟨hd, fr, tt, rk, Ai, ni, ci, ifs⟩ day _ (HA.out.drewN _) HO1.out)) | (go_at_call_of 82 pb; exact quietL (l05On_is pb ⟨hd', fr', tt', rk', Aj, nj, cj, jfs⟩ day _ (HA'.out.drewN _) HO2.out))))
          go_wp2_with fail
          obtain ⟨n0, hn0⟩ : ∃ n0, n0 = nq := ⟨_, rfl⟩
          rw [← hn0]
          clear hn0
          go_loopw [11, 12, 79] (fun cl _ i wi => ∃ (q n1 : Nat), q ≤ ni ∧ i = .int .i64 q ∧ cl = .bool (!(ifs.take q).any fun z => hasI jfs (-z)) ∧ wi = wr.drewN n1) (fun _ _ i _ => ni - (intOf i).toNat)
          case atStart => exact ⟨0, n0, Nat.zero_le _, rfl, rfl, rfl⟩
          case round =>
            obtain ⟨q, n1, hq, rfl, rfl, rfl⟩ := hrel
            by_cases hql : q < ni
            · obtain ⟨a3, rfl, hz3⟩ := HRI.out.int hql
              have hzb := HVA2.out _ (getD_mem (zs := ifs) (k := q) (by have := HNL.out; omega))
              obtain ⟨z, hz⟩ : ∃ z, z = ifs[q]?.getD 0 := ⟨_, rfl⟩
              rw [← hz] at hz3 hzb
              have HZZ := Lib.hid (show (ifs.take (q + 1)).any (fun z => hasI jfs (-z)) = ((ifs.take q).any (fun z => hasI jfs (-z)) || hasI jfs (-z)) by
                rw [take_snoc ifs q 0 (by have := HNL.out; omega), List.any_append, ← hz]; simp)
              obtain ⟨bq, hbq⟩ : ∃ bq, bq = (ifs.take q).any fun z => hasI jfs (-z) := ⟨_, rfl⟩
              rw [← hbq] at HZZ ⊢
              have iq1 : (0 : Int) ≤ q := by omega
              have iq2 : (q : Int) < ni := by omega
              clear hz hbq
              have k1 : (wr.drewN n1).cell? { block := pa.block, off := pa.off + 1 } = some (.slice (some a3) ni ci) := c1
              have k2 : (wr.drewN n1).cell? { block := pb.block, off := pb.off + 1 } = some (.slice Aj nj cj) := d1
              have k3 : (wr.drewN n1).cell? (a3.add q) = some (.int .i64 z) := hz3
              have RJ := Lib.hid (show Rd (wr.drewN n1) (wr.drewN n1).heap.size 1 Aj nj (ints jfs) from HRJ.out)
              generalize hwq : wr.drewN n1 = wq at k1 k2 k3 RJ ⊢
              have HWQ := Lib.hid hwq
              clear hwq c0 c1 c2 c3 c4 d0 d1 d2 d3 d4 hz3
              cases hh : hasI jfs (-z)
              · have HH := Lib.hid hh
                have hv2 := Lib.hid (show (ifs.take (q + 1)).any (fun z => hasI jfs (-z)) = bq by rw [HZZ.out, hh, Bool.or_false])
                clear hh
                go_wp2_with fail
                go_quiet ((go_at_call 88; exact quietL (l00Has_is _ _ _ jfs (-z) _ (RJ.out.drewN _) (by omega) HH.out)))
                go_wp2_with fail
                go_roundw
                case rel => exact ⟨q + 1, _, by omega, by go_num, by rw [hv2.out], by rw [← HWQ.out, World.drewN_drewN]⟩
                case measure => simp [intOf]; omega
              · have HH := Lib.hid hh
                have hv2 := Lib.hid (show (ifs.take (q + 1)).any (fun z => hasI jfs (-z)) = true by rw [HZZ.out, hh, Bool.or_true])
                clear hh
                go_wp2_with fail
                go_quiet ((go_at_call 88; exact quietL (l00Has_is _ _ _ jfs (-z) _ (RJ.out.drewN _) (by omega) HH.out)))
                go_wp2_with fail
                go_roundw
                case rel => exact ⟨q + 1, _, by omega, by go_num, by rw [hv2.out]; rfl, by rw [← HWQ.out, World.drewN_drewN]⟩
                case measure => simp [intOf]; omega
            · obtain rfl : ni = q := by omega
              have hop := Lib.hid (show (ifs.take ni).any (fun z => hasI jfs (-z)) = opposeB ⟨hd, ifs, fr, tt, rk⟩ ⟨hd', jfs, fr', tt', rk'⟩ by
                rw [List.take_of_length_le (by have := HNL.out; omega)]; rfl)
              cases hoo : opposeB ⟨hd, ifs, fr, tt, rk⟩ ⟨hd', jfs, fr', tt', rk'⟩
              · have hv := Lib.hid (show ls ++ ginn (gcl ds day) (allI m) k (t + 1) = ol ++ [(k : Int), (u : Int)] by
                  rw [hs2.out, gcl_yes (by rw [HAT.out]; exact HO1.out) (by rw [HAT'.out]; exact HO2.out) (by rw [HAT.out, HAT'.out, HCL.out, hoo]; rfl)])
                have hcl := Lib.hid (hop.out.trans hoo)
                clear hoo
                rw [hcl.out]
                have HO7 := Lib.hid (own_drewN HOI.out n1)
                have HB7 := Lib.hid (below_drewN HBI.out n1)
                generalize wr.drewN n1 = w7 at HO7 HB7 ⊢
                clear c0 c1 c2 c3 c4 d0 d1 d2 d3 d4
                go_wp2_with (at_builtin; refine append_ints rfl (.tmp 97) (.tmp 100) rfl w _ ol.length ol rfl (HO7.out.alloc _) (HB7.out.alloc HB7.out.size _) _ 2 2 [(k : Int), (u : Int)] rfl (rd_two _ _ _ _) (by omega) ?_; intro v' w' ho2 hb2 _)
                go_roundw
                case rel => exact ⟨t + 1, by have := HU.out; omega, by rw [HU.out]; go_num, by rw [hv.out]; simpa using ho2, hb2⟩
                case measure => simp [intOf]; omega
              · have hv := Lib.hid (show ls ++ ginn (gcl ds day) (allI m) k (t + 1) = ol by
                  rw [hs2.out, gcl_no (.inr (.inr (by rw [HAT.out, HAT'.out, HCL.out, hoo]; rfl))), List.append_nil])
                have hcl := Lib.hid (hop.out.trans hoo)
                clear hoo
                rw [hcl.out]
                go_wp2_with fail
                go_roundw
                case rel => exact ⟨t + 1, by have := HU.out; omega, by rw [HU.out]; go_num, by rw [hv.out]; exact HOI.out, below_drewN HBI.out _⟩
                case measure => simp [intOf]; omega
        · have htm : t = m - (k + 1) := by omega
          have HTM := Lib.hid htm
          clear htm
          have hfx := Lib.hid (show gout (gcl ds day) (allI m) (k + 1) = ls ++ ginn (gcl ds day) (allI m) k t by rw [hst.out, allI_len, HTM.out])
          go_wp2_with fail
          go_roundw
          case rel => exact ⟨k + 1, by omega, by go_num, by rw [hfx.out]; exact howni, hbi⟩
          case measure => simp [intOf]; omega
    · obtain rfl : m = k := by omega
      go_wp2_with fail
      go_ret2
      rw [hfin.out.1, hfin.out.2]
      exact sl_yes rfl hown hbw
end Go.Proofs.Ytkdiegplbloccaa
