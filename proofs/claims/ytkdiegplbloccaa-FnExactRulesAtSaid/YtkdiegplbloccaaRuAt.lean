/-
  RulesAt: what the program's and the reference's functions return.
-/
import Derived.Test.YtkdiegplbloccaaRuEnd
namespace Go.Proofs.Ytkdiegplbloccaa
open Go.ChangeShapes Go.WideShapes Go.ChangeAt Go.RowKit
set_option linter.unusedVariables false
set_option linter.unusedSimpArgs false

def setDay (day : Int) (d : Rl) : Rl := { d with fr := day, tt := day }
/-- the active rules -/
def ofTo (ds : List Rl) (day : Int) (k : Nat) : List Rl := (actTo ds day k).map (atI ds)
theorem actTo_in (ds : List Rl) (day : Int) (k : Nat) : ∀ z ∈ actTo ds day k, 0 ≤ z ∧ z < k := by
  induction k with
  | zero => intro z hz; simp [actTo] at hz
  | succ k ih =>
    intro z hz
    rw [actTo] at hz
    split at hz
    · rcases List.mem_append.1 hz with h | h
      · have := ih z h; omega
      · rw [List.mem_singleton.1 h]; omega
    · have := ih z hz; omega
theorem ofTo_succ (ds : List Rl) (day : Int) (k : Nat) : ofTo ds day (k + 1) = if onB (ds[k]?.getD noRl) day then ofTo ds day k ++ [ds[k]?.getD noRl] else ofTo ds day k := by
  unfold ofTo
  rw [actTo]
  split
  · rw [List.map_append]; simp [atI]
  · rfl
theorem ofTo_len (ds : List Rl) (day : Int) (k : Nat) : (ofTo ds day k).length ≤ k := by unfold ofTo; rw [List.length_map]; exact actTo_len ds day k
theorem ofTo_mem {ds : List Rl} {day : Int} {k : Nat} (hk : k ≤ ds.length) : ∀ d ∈ ofTo ds day k, d ∈ ds := by
  intro d hd
  unfold ofTo at hd
  obtain ⟨z, hz, rfl⟩ := List.mem_map.1 hd
  have := actTo_in ds day k z hz
  exact at_mem (by omega)
def RulesAt_r0 (ds : List Rl) (day : Int) : List Rl := if actOk ds day then (ofTo ds day ds.length).map (setDay day) else []
def RulesAt_r1 (ds : List Rl) (day : Int) : Bool := actOk ds day
theorem rt_no {ds : List Rl} {day : Int} (h : actOk ds day = false) : RulesAt_r0 ds day = [] ∧ RulesAt_r1 ds day = false := by simp [RulesAt_r0, RulesAt_r1, h]
theorem rt_yes {ds : List Rl} {day : Int} (h : actOk ds day = true) : RulesAt_r0 ds day = (ofTo ds day ds.length).map (setDay day) ∧ RulesAt_r1 ds day = true := by simp [RulesAt_r0, RulesAt_r1, h]
theorem act_rules {ds : List Rl} {day : Int} (h : actOk ds day = true) : rulesB ds = true ∧ 0 ≤ day ∧ day ≤ 100000 := by
  unfold actOk at h
  simp only [Bool.and_eq_true, inB_iff] at h
  exact h
theorem sz_small {ds : List Rl} (h : ∀ d ∈ ds, d.ifs.length ≤ 6) (hl : ds.length ≤ 24) : szD ds ≤ 168 := by
  have := sumD_le ds h
  unfold szD; omega
theorem of_small {ds : List Rl} {day : Int} (h : rulesB ds = true) : szD (ofTo ds day ds.length) ≤ 168 :=
  sz_small (fun d hd => valid_len (rules_all h d (ofTo_mem (Nat.le_refl _) d hd))) (Nat.le_trans (ofTo_len ds day _) (rules_len h))
theorem RulesAt_size (ds : List Rl) (day : Int) : szD (RulesAt_r0 ds day) ≤ 168 := by
  unfold RulesAt_r0
  split
  · rename_i h
    have h1 := (act_rules h).1
    refine sz_small (fun d hd => ?_) (by rw [List.length_map]; exact Nat.le_trans (ofTo_len ds day _) (rules_len h1))
    obtain ⟨e, he, rfl⟩ := List.mem_map.1 hd
    exact show e.ifs.length ≤ 6 from valid_len (rules_all h1 e (ofTo_mem (Nat.le_refl _) e he))
  · simp [szD, sumD]
theorem cell_new5' (w : World) (r : Ru) (t : TypeId) {g : Nat} (hg : g = w.heap.size) : ∀ j, j < 5 → (w.alloc (.cells #[.int .i64 r.hd, .slice r.A r.n r.c, .int .i64 r.fr, .int .i64 r.tt, .int .i64 r.rk] t)).cell? ⟨g, j, none⟩ = r.cells[j]? := by
  subst hg; exact cell_new5 w r t
theorem map_more {rs' : List Ru} {zs : List Int} {k : Nat} {r' : Ru} {f : Int → Rl} (h : rs'.map Ru.dat = (zs.take k).map f) (hk : k < zs.length) (e : r'.dat = f (zs[k]?.getD 0)) : (rs' ++ [r']).map Ru.dat = (zs.take (k + 1)).map f := by
  rw [List.take_add_one, List.getElem?_eq_getElem hk] at *
  rw [List.map_append, List.map_append, h, List.map_cons, e]
  simp
set_option maxHeartbeats 3200000 in
theorem impl_RulesAt (A : Option Addr) (m c : Nat) (ds : List Rl) (day : Int) (w : World) (hr : RsRd w w.heap.size A m ds) (hz : szD ds ≤ 1048576) (hb : ∀ d ∈ ds, RlB d) (hday : -9223372036854775808 ≤ day ∧ day ≤ 9223372036854775807) :
    Calls Try.prog 56 #[.slice A m c, .int .i64 day] w (RsEnds w (RulesAt_r0 ds day) (RulesAt_r1 ds day)) := by
  have HA := Lib.hid (impl_ActiveRules A m c ds day w hr hz hb hday)
  have HL := Lib.hid hr.len
  have hm := sz_len hz hr.len
  have HRN := Lib.hid (show ∀ rs : List Ru, (∀ r ∈ rs, r.n = r.ifs.length) → rs.map Ru.dat = ds → RuN rs from fun rs h e => ruN_of h (by rw [e]; exact hz) (by rw [e]; exact hb))
  clear hb hz
  cases h : actOk ds day
  case false =>
    have hfin := Lib.hid (rt_no h)
    have har := Lib.hid (ar_no h)
    go_enter Try.func56, Try.ntmps56
    go_wp2_with fail
    refine HA.out.mono ?_
    rintro e w1 ⟨v, rfl, ho, hb⟩
    rw [har.out.2]
    go_wp2_with fail
    go_ret2
    rw [hfin.out.1, hfin.out.2]
    exact rs_no hb
  have hfin := Lib.hid (rt_yes h)
  have har := Lib.hid (ar_yes h HL.out)
  have hin := Lib.hid (actTo_in ds day m)
  go_enter Try.func56, Try.ntmps56
  go_wp2_with fail
  refine HA.out.mono ?_
  rintro e w1 ⟨v, rfl, ho, hb⟩
  rw [har.out.1] at ho
  rw [har.out.2]
  obtain ⟨zs, hzs⟩ : ∃ zs, zs = actTo ds day m := ⟨_, rfl⟩
  rw [← hzs] at ho hin
  have hzl : zs.length ≤ m := by rw [hzs]; exact actTo_len ds day m
  obtain ⟨A2, c2, rfl, _⟩ := own_form ho
  obtain ⟨n2, hn2⟩ : ∃ n2, n2 = zs.length := ⟨_, rfl⟩
  rw [← hn2] at ho hzl ⊢
  have HN2 := Lib.hid hn2
  have hra := Rd.of_own ho
  have HB := Lib.hid hb
  have HZS := Lib.hid hzs
  have HR1 := Lib.hid (hr.on hb)
  clear hb ho hzs hn2 hr
  go_wp2_with fail
  go_loopw [8, 10, 11, 23] (fun v _ _ i wr => ∃ k : Nat, k ≤ n2 ∧ i = .int .i64 k ∧ (∃ rs', OwnRs wr w1.heap.size v k rs' ∧ rs'.map Ru.dat = (zs.take k).map (fun z => setDay day (atI ds z))) ∧ Below w1.heap.size w1 wr) (fun _ _ _ i _ => n2 - (intOf i).toNat)
  case atStart => exact ⟨0, Nat.zero_le _, rfl, ⟨[], ownRs_empty w1, rfl⟩, (Below.refl _ _).alloc (Nat.le_refl _) _⟩
  case round =>
    obtain ⟨k, hk, rfl, ⟨rs', hown, hdat⟩, hbw⟩ := hrel
    by_cases hlt : k < n2
    · obtain ⟨ad2, rfl, hcz⟩ := (hra.below hbw).int hlt
      have hzm : zs[k]?.getD 0 ∈ zs := getD_mem (by have := HN2.out; omega)
      have hzi := hin.out _ hzm
      obtain ⟨z, hz⟩ : ∃ z, z = zs[k]?.getD 0 := ⟨_, rfl⟩
      rw [← hz] at hcz hzi
      have HZ := Lib.hid hz
      obtain ⟨i, rfl⟩ := Int.eq_ofNat_of_zero_le hzi.1
      have hi : i < m := by omega
      have hi1 : (0 : Int) ≤ i := by omega
      have hi2 : (i : Int) < m := by omega
      obtain ⟨rs, hr2, hrs⟩ := HR1.out.below hbw
      obtain ⟨ad, r, rfl, ka, hrk, hc0, hc1, hc2, hc3, hc4, hri⟩ := hr2.row hi
      have q1 := (HRN.out rs hr2.nlen hrs r (List.mem_of_getElem? hrk)).1
      have HAT := Lib.hid (show atI ds (i : Int) = r.dat by rw [← hrs]; exact dat_at hrk)
      have HRI := Lib.hid (hri.more hbw.size)
      have HO := Lib.hid hown
      have HW := Lib.hid hbw
      have HD := Lib.hid hdat
      obtain ⟨hd, fr, tt, rk, Ai, ni, ci, ifs⟩ := r
      dsimp only at hc0 hc1 hc2 hc3 hc4 q1 HRI
      clear hr2 hrs hrk hri hown hbw hdat ka hra hz hzm hzi
      go_wp2_with fail
      refine (cloneRule_any hd fr tt rk Ai ni ci ifs _ HRI.out q1).mono ?_
      rintro e w2 ⟨A', c', rfl, ho, hb2⟩
      have HO2 := Lib.hid (HO.out.on hb2)
      have HI3 := Lib.hid HO2.out.inR
      have HW2 := Lib.hid (below_step HW.out hb2)
      have HI2 := Lib.hid ho
      have hsz := Lib.hid hb2.size
      clear ho hb2
      go_wp2_with (at_builtin; refine append_rule rfl (.tmp 36) (.tmp 38) rfl w1 _ k rs' rfl ((HO2.out.allocd _).allocd _) ((HW2.out.alloc HW2.out.size _).alloc (by have := HW2.out.size; simp; omega) _) (w2.heap.size + 1) _ ⟨hd, day, day, rk, A', ni, c', ifs⟩ rfl (cell_new5' _ ⟨hd, day, day, rk, A', ni, c', ifs⟩ _ (by simp)) (by omega) (World.ownsRow.alloc (World.ownsRow.alloc HI2.out _) _) HW.out.size (fun a ha g hg => HO.out.inR.2 a ha g hg) ?_; intro v' w' ho2 hb3)
      go_roundw
      case rel => exact ⟨k + 1, by omega, by go_num, ⟨_, ho2, map_more HD.out (by have := HN2.out; omega) (by rw [← HZ.out, HAT.out]; rfl)⟩, hb3⟩
      case measure => simp [intOf]; omega
    · obtain rfl : n2 = k := by omega
      have ht := Lib.hid (show zs.take n2 = zs from List.take_of_length_le (by have := HN2.out; omega))
      clear hra
      go_wp2_with fail
      go_ret2
      rw [hfin.out.1, hfin.out.2]
      exact rs_yes (hown.base HB.out.size) (by rw [hdat, ht.out, HZS.out]; unfold ofTo; rw [List.map_map, HL.out]; rfl) (HB.out.trans (hbw.mono HB.out.size))
set_option maxHeartbeats 1600000 in
theorem l05Of_any (A : Option Addr) (m c : Nat) (ds : List Rl) (day : Int) (w : World) (hr : RsRd w w.heap.size A m ds) (hm : m ≤ 1048576) :
    Calls Try.prog 93 #[.slice A m c, .int .i64 day] w fun e w' => ∃ A' n c', e = .returned (.slice A' n c') ∧ RsRd w' w'.heap.size A' n (ofTo ds day m) ∧ Below w.heap.size w w' := by
  go_enter Try.func93, Try.ntmps93
  go_wp2_with fail
  go_loopw [5, 6, 10] (fun v _ i wr => ∃ k : Nat, k ≤ m ∧ i = .int .i64 k ∧ (∃ rs', wr.ownsRow w.heap.size tR 5 v rs'.length (flat rs') ∧ (∀ r ∈ rs', Rd wr w.heap.size 1 r.A r.n (ints r.ifs)) ∧ rs'.map Ru.dat = ofTo ds day k) ∧ Below w.heap.size w wr) (fun _ _ i _ => m - (intOf i).toNat)
  case atStart => exact ⟨0, Nat.zero_le _, rfl, ⟨[], own_emptyR w, (fun r h => by cases h), rfl⟩, (Below.refl _ _).alloc (Nat.le_refl _) _⟩
  case round =>
    obtain ⟨k, hk, rfl, ⟨rs', hown, hinn, hdat⟩, hbw⟩ := hrel
    by_cases hlt : k < m
    · obtain ⟨rs, hr2, hrs⟩ := hr.below hbw
      obtain ⟨ad, r, rfl, ka, hrk, hc0, hc1, hc2, hc3, hc4, hri⟩ := hr2.row hlt
      have hz' : (0 : Int) ≤ k := by omega
      have hlt' : (k : Int) < m := by omega
      have hon := dat_at hrk
      rw [hrs] at hon
      have hst := ofTo_succ ds day k
      rw [hon] at hst
      have hl := congrArg List.length hdat
      rw [List.length_map] at hl
      have hl2 := ofTo_len ds day k
      have hlm : rs'.length ≤ 2097152 := by omega
      have HST := Lib.hid hst
      have HRI := Lib.hid hri
      have HO := Lib.hid hown
      have HN := Lib.hid hinn
      have HW := Lib.hid hbw
      have HD := Lib.hid hdat
      clear hr hr2 hrs hrk hri hown hinn hbw hdat hst hon hl hl2 ka
      obtain ⟨hd, fr, tt, rk, Ai, ni, ci, ifs⟩ := r
      dsimp only at hc0 hc1 hc2 hc3 hc4 HRI
      cases ho : onB ⟨hd, ifs, fr, tt, rk⟩ day
      · have hs2 := Lib.hid (show ofTo ds day (k + 1) = ofTo ds day k by rw [HST.out]; simp [Ru.dat, ho])
        go_wp2_with (go_at_call 82; refine (l05On_is _ ⟨hd, fr, tt, rk, Ai, ni, ci, ifs⟩ _ _ ⟨hc0, hc1, hc2, hc3, hc4⟩ ho).mono ?_; rintro e w3 ⟨rfl, rfl⟩)
        go_roundw
        case rel => exact ⟨k + 1, by omega, by go_num, ⟨rs', HO.out, HN.out, by rw [HD.out, hs2.out]⟩, HW.out⟩
        case measure => simp [intOf]; omega
      · have hs2 := Lib.hid (show ofTo ds day (k + 1) = ofTo ds day k ++ [⟨hd, ifs, fr, tt, rk⟩] by rw [HST.out]; simp [Ru.dat, ho])
        go_wp2_with (first | (go_at_call 82; refine (l05On_is _ ⟨hd, fr, tt, rk, Ai, ni, ci, ifs⟩ _ _ ⟨hc0, hc1, hc2, hc3, hc4⟩ ho).mono ?_; rintro e w3 ⟨rfl, rfl⟩) | (at_builtin; refine append_flat rfl (.tmp 18) (.tmp 23) rfl w _ rs'.length (flat rs') rfl (World.ownsRow.alloc HO.out _) (HW.out.alloc HW.out.size _) wr.heap.size _ ⟨hd, fr, tt, rk, Ai, ni, ci, ifs⟩ rfl (cell_new5 _ ⟨hd, fr, tt, rk, Ai, ni, ci, ifs⟩ _) hlm ?_; intro v' w' ho2 hb2 hg2))
        go_roundw
        case rel =>
          have hx : Below w.heap.size wr w' := ⟨hb2.os.trans HW.out.os.symm, hb2.tape.trans HW.out.tape.symm, hb2.output.trans HW.out.output.symm, by have := hg2.size; simp at this; omega, fun q hq => (hb2.block q hq).trans (HW.out.block q hq).symm⟩
          refine ⟨k + 1, by omega, by go_num, ⟨rs' ++ [⟨hd, fr, tt, rk, Ai, ni, ci, ifs⟩], by rw [flat_snoc, List.length_append]; exact ho2, fun a ha => ?_, by rw [List.map_append, HD.out, hs2.out]; rfl⟩, hb2⟩
          rcases List.mem_append.1 ha with h | h
          · exact (HN.out a h).keep fun p hp => hx.cell hp
          · rw [List.mem_singleton.1 h]; exact HRI.out.keep fun p hp => hx.cell hp
        case measure => simp [intOf]; omega
    · obtain rfl : m = k := by omega
      obtain ⟨A', c', rfl, _⟩ := own_form hown
      clear hr
      go_wp2_with fail
      go_ret
      exact ⟨_, _, _, rfl, ⟨rs', ⟨Rd.of_own hown, fun r h => (hinn r h).more hbw.size⟩, hdat⟩, hbw⟩
theorem part_at {os : List Rl} {f : Rl → Rl} {k : Nat} (hk : k < os.length) : ((os.take k).map f ++ os.drop k)[k]? = os[k]? := by
  rw [List.getElem?_append_right (by rw [List.length_map, List.length_take]; omega), List.getElem?_drop]
  congr 1
  rw [List.length_map, List.length_take]; omega
theorem part_set {os : List Rl} {f : Rl → Rl} {k : Nat} {d : Rl} (hk : os[k]? = some d) : ((os.take k).map f ++ os.drop k).set k (f d) = (os.take (k + 1)).map f ++ os.drop (k + 1) := by
  have hlt : k < os.length := (List.getElem?_eq_some_iff.1 hk).1
  have hl : ((os.take k).map f).length = k := by rw [List.length_map, List.length_take]; omega
  rw [List.set_append_right _ _ (by omega), hl, Nat.sub_self, take_more hk, List.map_append, List.append_assoc]
  congr 1
  rw [List.drop_eq_getElem_cons hlt]
  rw [List.getElem?_eq_getElem hlt] at hk
  rw [Option.some.inj hk]
  rfl
set_option maxHeartbeats 3200000 in
theorem spec_RulesAt (A : Option Addr) (m c : Nat) (ds : List Rl) (day : Int) (w : World) (hr : RsRd w w.heap.size A m ds) (hz : szD ds ≤ 1048576) (hb : ∀ d ∈ ds, RlB d) (hday : -9223372036854775808 ≤ day ∧ day ≤ 9223372036854775807) :
    Calls Try.prog 55 #[.slice A m c, .int .i64 day] w (RsEnds w (RulesAt_r0 ds day) (RulesAt_r1 ds day)) := by
  have HL := Lib.hid hr.len
  have hm := sz_len hz hr.len
  have HZ := Lib.hid hz
  have HRB := Lib.hid hb
  clear hb hz
  cases h1 : rulesB ds
  case false =>
    have hfin := Lib.hid (rt_no (ds := ds) (day := day) (by simp [actOk, h1]))
    go_enter Try.func55, Try.ntmps55
    go_wp2_with fail
    refine (l05Rules_is _ _ _ _ hr HZ.out HRB.out h1).mono ?_
    rintro e w1 ⟨rfl, j, rfl⟩
    go_wp2_with fail
    go_ret2
    rw [hfin.out.1, hfin.out.2]
    exact rs_no (below_drewN (Below.refl _ _) j)
  cases h2 : inB day 0 100000
  case false =>
    have hfin := Lib.hid (rt_no (ds := ds) (day := day) (by simp [actOk, h2]))
    go_enter Try.func55, Try.ntmps55
    go_wp2_with fail
    refine (l05Rules_is _ _ _ _ hr HZ.out HRB.out h1).mono ?_
    rintro e w1 ⟨rfl, j, rfl⟩
    go_wp2_with (go_at_call 81; refine (l05Day_is h2 _).mono ?_; rintro e w' ⟨rfl, rfl⟩)
    go_ret2
    rw [hfin.out.1, hfin.out.2]
    exact rs_no (below_drewN (Below.refl _ _) j)
  have hfin := Lib.hid (rt_yes (ds := ds) (day := day) (by simp [actOk, h1, h2]))
  have hsm := of_small (day := day) h1
  have hmm := fun d hd => HRB.out d (ofTo_mem (day := day) (Nat.le_refl ds.length) d hd)
  rw [HL.out] at hsm hmm
  obtain ⟨os, hos⟩ : ∃ os, os = ofTo ds day m := ⟨_, rfl⟩
  rw [← hos] at hsm hmm
  have HS := Lib.hid (show szD os ≤ 1048576 by omega)
  have HM := Lib.hid hmm
  have HOS := Lib.hid hos
  clear hsm hmm
  go_enter Try.func55, Try.ntmps55
  go_wp2_with fail
  refine (l05Rules_is _ _ _ _ hr HZ.out HRB.out h1).mono ?_
  rintro e w1 ⟨rfl, j, rfl⟩
  go_wp2_with (go_at_call 81; refine (l05Day_is h2 _).mono ?_; rintro e w' ⟨rfl, rfl⟩)
  refine (l05Of_any _ _ _ ds day _ (hr.drewN j) hm).mono ?_
  rintro e w2 ⟨A2, n, c2, rfl, hrd, hb2⟩
  rw [← hos] at hrd
  have HB2 := Lib.hid (below_step (below_drewN (Below.refl _ _) j) hb2)
  have hlo := hrd.len
  have hn6 := sz_len HS.out hlo
  have HR2 := Lib.hid hrd
  clear hb2 hrd hr hos
  go_wp2_with fail
  refine (l05OwnRules_any _ _ _ os _ HR2.out HS.out HM.out).mono ?_
  rintro e w3 ⟨v, rs3, rfl, ho3, hdat3, hb3⟩
  obtain ⟨A3, c3, rfl⟩ := ho3.form
  have HB3 := Lib.hid (below_step HB2.out hb3)
  have HO3 := Lib.hid ho3
  have HD3 := Lib.hid hdat3
  have HLO := Lib.hid hlo
  have HZ2 := Lib.hid HB2.out.size
  clear hb3 ho3 hdat3 hlo
  go_wp2_with fail
  go_loopw [7, 22] (fun _ i wr => ∃ k : Nat, k ≤ n ∧ i = .int .i64 k ∧ (∃ rs', OwnRs wr w2.heap.size (.slice A3 n c3) n rs' ∧ rs'.map Ru.dat = (os.take k).map (setDay day) ++ os.drop k) ∧ Below w.heap.size w wr) (fun _ i _ => n - (intOf i).toNat)
  case atStart => exact ⟨0, Nat.zero_le _, rfl, ⟨rs3, HO3.out, by rw [HD3.out]; simp⟩, HB3.out⟩
  case round =>
    obtain ⟨k, hk, rfl, ⟨rs', hown, hdat⟩, hbw⟩ := hrel
    by_cases hlt : k < n
    · obtain ⟨g, rfl⟩ := own_head hown.outer (by omega)
      have hlen := hown.len
      have hz' : (0 : Int) ≤ k := by omega
      have hlt' : (k : Int) < n := by omega
      have hrk : rs'[k]? = some rs'[k] := List.getElem?_eq_getElem (by omega)
      obtain ⟨r', hr'⟩ : ∃ r', r' = rs'[k] := ⟨_, rfl⟩
      rw [← hr'] at hrk
      have hok : os[k]? = some r'.dat := by
        rw [← part_at (f := setDay day) (by have := HLO.out; omega), ← hdat, List.getElem?_map, hrk]; rfl
      have s2 := hown.store (f := 2) (r' := { r' with fr := day }) (u := .int .i64 day) hrk (by omega) rfl rfl rfl rfl
      have s3 := s2.1.store (f := 3) (r' := { r' with fr := day, tt := day }) (u := .int .i64 day) (get_set hrk) (by omega) rfl rfl rfl rfl
      have hgr := own_blockN hown.outer
      have HS3 := Lib.hid s3.1
      have HBW := Lib.hid (below_grown (below_grown hbw s2.2 (fun x hx => by cases hx; exact Nat.le_trans HZ2.out hgr.1)) s3.2 (fun x hx => by cases hx; exact Nat.le_trans HZ2.out hgr.1))
      obtain ⟨v2, hv2⟩ := own_cellN hown.outer (k := k * 5 + 2) (by omega)
      obtain ⟨v3, hv3⟩ := own_cellN hown.outer (k := k * 5 + 3) (by omega)
      have hf2 := hown.outer.frozenAt (k * 5 + 2)
      have hf3 := hown.outer.frozenAt (k * 5 + 3)
      have HE := Lib.hid (show ((rs'.set k { r' with fr := day }).set k { r' with fr := day, tt := day }).map Ru.dat = (os.take (k + 1)).map (setDay day) ++ os.drop (k + 1) by
        rw [set_set, List.map_set, hdat, ← part_set (f := setDay day) hok]; rfl)
      clear s2 s3 hown hdat hbw hrk hr' hok hlen
      go_wp2_with fail
      go_roundw
      case rel => exact ⟨k + 1, by omega, by go_num, ⟨_, HS3.out, HE.out⟩, HBW.out⟩
      case measure => simp [intOf]; omega
    · obtain rfl : n = k := by omega
      have hoo := Lib.hid HOS.out
      go_wp2_with fail
      go_ret2
      rw [hfin.out.1, hfin.out.2]
      exact rs_yes (hown.base HZ2.out) (by rw [hdat, List.take_of_length_le (by have := HLO.out; omega), List.drop_eq_nil_of_le (by have := HLO.out; omega), List.append_nil, hoo.out, HL.out]) hbw
end Go.Proofs.Ytkdiegplbloccaa
