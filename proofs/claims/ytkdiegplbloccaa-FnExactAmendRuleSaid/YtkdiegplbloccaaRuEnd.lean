/-
  RepealRule: what the program's and the reference's functions return.
-/
import Derived.Test.YtkdiegplbloccaaRuClone
namespace Go.Proofs.Ytkdiegplbloccaa
open Go.ChangeShapes Go.WideShapes Go.ChangeAt Go.RowKit
set_option linter.unusedVariables false
set_option linter.unusedSimpArgs false

def RsEnds (W : World) (ds : List Rl) (ok : Bool) (E : Ending) (w' : World) : Prop :=
  ∃ v, E = .returned (.tuple #[v, .bool ok]) ∧ Obj w' W.heap.size w'.heap.size v ds.length ds ∧ Below W.heap.size W w'
theorem rs_no {W w' : World} (hb : Below W.heap.size W w') : RsEnds W [] false (.returned (.tuple #[.slice none 0 0, .bool false])) w' :=
  ⟨_, rfl, ⟨[], OwnRs.nil_, ⟨fun g h => (by cases h), fun r h => (by cases h)⟩, rfl⟩, hb⟩
theorem rs_yes {W w' : World} {rs : List Ru} {ds : List Rl} {v : Value} {n : Nat} (ho : OwnRs w' W.heap.size v n rs) (hd : rs.map Ru.dat = ds) (hb : Below W.heap.size W w') : RsEnds W ds true (.returned (.tuple #[v, .bool true])) w' := by
  have hl := ho.len
  subst hd
  rw [← hl] at ho
  exact ⟨_, rfl, by rw [List.length_map]; exact Obj.mk' ho, hb⟩
def atI (ds : List Rl) (i : Int) : Rl := ds[i.toNat]?.getD noRl
def endOk (ds : List Rl) (i day : Int) : Bool := rulesB ds && (inB day 0 100000 && (inB i 0 ((ds.length : Int) - 1) && (decide ((atI ds i).fr < day) && decide (day ≤ (atI ds i).tt))))
def endedAt (ds : List Rl) (i day : Int) : List Rl := ds.set i.toNat { atI ds i with tt := day - 1 }
def RepealRule_r0 (ds : List Rl) (i day : Int) : List Rl := if endOk ds i day then endedAt ds i day else []
def RepealRule_r1 (ds : List Rl) (i day : Int) : Bool := endOk ds i day
theorem rr_no {ds : List Rl} {i day : Int} (h : endOk ds i day = false) : RepealRule_r0 ds i day = [] ∧ RepealRule_r1 ds i day = false := by simp [RepealRule_r0, RepealRule_r1, h]
theorem rr_yes {ds : List Rl} {i day : Int} (h : endOk ds i day = true) : RepealRule_r0 ds i day = endedAt ds i day ∧ RepealRule_r1 ds i day = true := by simp [RepealRule_r0, RepealRule_r1, h]
theorem valid_len {d : Rl} (h : validB d = true) : d.ifs.length ≤ 6 := by
  unfold validB at h
  simp only [Bool.and_eq_true, decide_eq_true_eq] at h
  omega
theorem sumD_le (ds : List Rl) (h : ∀ d ∈ ds, d.ifs.length ≤ 6) : sumD ds ≤ 6 * ds.length := by
  unfold sumD
  induction ds with
  | nil => simp
  | cons a ds ih =>
    rw [List.map_cons, List.sum_cons, List.length_cons]
    have := h a (by simp)
    have := ih fun d hd => h d (List.mem_cons_of_mem _ hd)
    omega
theorem rules_all {ds : List Rl} (h : rulesB ds = true) : ∀ d ∈ ds, validB d = true := by
  unfold rulesB at h
  simp only [Bool.and_eq_true, List.all_eq_true] at h
  exact h.2
theorem szD_set (ds : List Rl) (k : Nat) (d : Rl) (h : ∀ e ∈ ds, e.ifs.length ≤ 6) (hd : d.ifs.length ≤ 6) : szD (ds.set k d) ≤ 7 * ds.length := by
  have h2 := sumD_le (ds.set k d) (fun e he => by
    rcases List.mem_or_eq_of_mem_set he with h1 | h1
    · exact h e h1
    · rw [h1]; exact hd)
  unfold szD
  rw [List.length_set] at h2 ⊢
  omega
theorem endOk_rules {ds : List Rl} {i day : Int} (h : endOk ds i day = true) : rulesB ds = true ∧ (0 ≤ day ∧ day ≤ 100000) ∧ (0 ≤ i ∧ i < ds.length) := by
  unfold endOk at h
  simp only [Bool.and_eq_true, inB_iff] at h
  exact ⟨h.1, h.2.1, by omega⟩
theorem at_mem {ds : List Rl} {i : Int} (h : 0 ≤ i ∧ i < ds.length) : atI ds i ∈ ds := by
  unfold atI
  rw [List.getElem?_eq_getElem (by omega)]
  exact List.getElem_mem _
theorem RepealRule_size (ds : List Rl) (i day : Int) : szD (RepealRule_r0 ds i day) ≤ 168 := by
  unfold RepealRule_r0
  split
  · rename_i h
    obtain ⟨h1, h2, h3⟩ := endOk_rules h
    have h4 := rules_len h1
    have h5 := szD_set ds i.toNat { atI ds i with tt := day - 1 } (fun e he => valid_len (rules_all h1 e he)) (show (atI ds i).ifs.length ≤ 6 from valid_len (rules_all h1 _ (at_mem h3)))
    unfold endedAt
    omega
  · simp [szD, sumD]
theorem within_is {z lo hi : Int} {b : Bool} (w : World) (h : inB z lo hi = b) : Calls Try.prog 117 #[.int .i64 z, .int .i64 lo, .int .i64 hi] w fun e w' => e = .returned (.bool b) ∧ w = w' := by
  subst h; exact within_any z lo hi w
set_option maxHeartbeats 3200000 in
theorem ended_any (A : Option Addr) (m c : Nat) (ds : List Rl) (i day : Int) (w : World) (hr : RsRd w w.heap.size A m ds) (hz : szD ds ≤ 1048576) (hb : ∀ d ∈ ds, RlB d) (bi : -9223372036854775808 ≤ i ∧ i ≤ 9223372036854775807) (bd : -9223372036854775808 ≤ day ∧ day ≤ 9223372036854775807) :
    Calls Try.prog 87 #[.slice A m c, .int .i64 i, .int .i64 day] w (RsEnds w (RepealRule_r0 ds i day) (RepealRule_r1 ds i day)) := by
  have HL := Lib.hid hr.len
  have hm := sz_len hz hr.len
  have HZ := Lib.hid hz
  have HRB := Lib.hid hb
  clear hb hz
  cases h1 : rulesB ds
  case false =>
    have hfin := Lib.hid (rr_no (ds := ds) (i := i) (day := day) (by simp [endOk, h1]))
    have h2 := trivial
    have h3 := trivial
    go_enter Try.func87, Try.ntmps87
    go_wp2_with fail
    refine (areRules_is _ _ _ _ hr HZ.out HRB.out h1).mono ?_
    rintro e w1 ⟨rfl, hb2⟩
    skip
    clear hr
    go_wp2_with (first | (go_at_call 83; refine (isDate_is _ h2).mono ?_; rintro e w' ⟨rfl, rfl⟩) | (go_at_call 117; refine (within_is _ h3).mono ?_; rintro e w' ⟨rfl, rfl⟩))
    go_ret2
    rw [hfin.out.1, hfin.out.2]
    exact rs_no hb2
  cases h2 : inB day 0 100000
  case false =>
    have hfin := Lib.hid (rr_no (ds := ds) (i := i) (day := day) (by simp [endOk, h2]))
    have h3 := trivial
    go_enter Try.func87, Try.ntmps87
    go_wp2_with fail
    refine (areRules_is _ _ _ _ hr HZ.out HRB.out h1).mono ?_
    rintro e w1 ⟨rfl, hb2⟩
    skip
    clear hr
    go_wp2_with (first | (go_at_call 83; refine (isDate_is _ h2).mono ?_; rintro e w' ⟨rfl, rfl⟩) | (go_at_call 117; refine (within_is _ h3).mono ?_; rintro e w' ⟨rfl, rfl⟩))
    go_ret2
    rw [hfin.out.1, hfin.out.2]
    exact rs_no hb2
  cases h3 : inB i 0 ((m : Int) - 1)
  case false =>
    have hfin := Lib.hid (rr_no (ds := ds) (i := i) (day := day) (by simp only [endOk]; rw [HL.out, h3]; simp))
    go_enter Try.func87, Try.ntmps87
    go_wp2_with fail
    refine (areRules_is _ _ _ _ hr HZ.out HRB.out h1).mono ?_
    rintro e w1 ⟨rfl, hb2⟩
    skip
    clear hr
    go_wp2_with (first | (go_at_call 83; refine (isDate_is _ h2).mono ?_; rintro e w' ⟨rfl, rfl⟩) | (go_at_call 117; refine (within_is _ h3).mono ?_; rintro e w' ⟨rfl, rfl⟩))
    go_ret2
    rw [hfin.out.1, hfin.out.2]
    exact rs_no hb2
  have hd2 := inB_iff.1 h2
  have hi2 := inB_iff.1 h3
  obtain ⟨k, rfl⟩ := Int.eq_ofNat_of_zero_le hi2.1
  have hk : k < m := by omega
  have hk' : (0 : Int) ≤ k := by omega
  have hlt' : (k : Int) < m := by omega
  obtain ⟨d, hd⟩ : ∃ d, d = atI ds k := ⟨_, rfl⟩
  by_cases h4 : d.fr < day
  case neg =>
    have hfin := Lib.hid (rr_no (ds := ds) (i := (k : Int)) (day := day) (by simp only [endOk]; rw [← hd]; simp [h4]))
    go_enter Try.func87, Try.ntmps87
    go_wp2_with fail
    refine (areRules_is _ _ _ _ hr HZ.out HRB.out h1).mono ?_
    rintro e w1 ⟨rfl, hb2⟩
    (obtain ⟨rs, hr3, hrs⟩ := hr.on hb2; obtain ⟨ad, r, rfl, ka, hrk, hc0, hc1, hc2, hc3, hc4, _⟩ := hr3.row hk; have hdr : d = r.dat := (by rw [hd, ← hrs]; exact dat_at hrk); have h4' : ¬ r.fr < day := (by rw [hdr] at h4; have e1 : r.dat.fr = r.fr := rfl; omega); clear hd hrk hrs hr3 hdr h4 ka)
    clear hr
    go_wp2_with (first | (go_at_call 83; refine (isDate_is _ h2).mono ?_; rintro e w' ⟨rfl, rfl⟩) | (go_at_call 117; refine (within_is _ h3).mono ?_; rintro e w' ⟨rfl, rfl⟩))
    go_ret2
    rw [hfin.out.1, hfin.out.2]
    exact rs_no hb2
  by_cases h5 : day ≤ d.tt
  case neg =>
    have hfin := Lib.hid (rr_no (ds := ds) (i := (k : Int)) (day := day) (by simp only [endOk]; rw [← hd]; simp [h5]))
    go_enter Try.func87, Try.ntmps87
    go_wp2_with fail
    refine (areRules_is _ _ _ _ hr HZ.out HRB.out h1).mono ?_
    rintro e w1 ⟨rfl, hb2⟩
    (obtain ⟨rs, hr3, hrs⟩ := hr.on hb2; obtain ⟨ad, r, rfl, ka, hrk, hc0, hc1, hc2, hc3, hc4, _⟩ := hr3.row hk; have hdr : d = r.dat := (by rw [hd, ← hrs]; exact dat_at hrk); have h4' : r.fr < day := (by rw [hdr] at h4; exact h4); have h5' : ¬ day ≤ r.tt := (by rw [hdr] at h5; have e1 : r.dat.tt = r.tt := rfl; omega); clear hd hrk hrs hr3 hdr h4 h5 ka)
    clear hr
    go_wp2_with (first | (go_at_call 83; refine (isDate_is _ h2).mono ?_; rintro e w' ⟨rfl, rfl⟩) | (go_at_call 117; refine (within_is _ h3).mono ?_; rintro e w' ⟨rfl, rfl⟩))
    go_ret2
    rw [hfin.out.1, hfin.out.2]
    exact rs_no hb2
  case pos =>
    have hfin := Lib.hid (rr_yes (ds := ds) (i := (k : Int)) (day := day) (by simp only [endOk]; rw [← hd, HL.out, h1, h2, h3]; simp [h4, h5]))
    go_enter Try.func87, Try.ntmps87
    go_wp2_with fail
    refine (areRules_is _ _ _ _ hr HZ.out HRB.out h1).mono ?_
    rintro e w1 ⟨rfl, hb2⟩
    (have HR2 := Lib.hid (hr.on hb2); obtain ⟨rs, hr3, hrs⟩ := hr.on hb2; obtain ⟨ad, r, rfl, ka, hrk, hc0, hc1, hc2, hc3, hc4, _⟩ := hr3.row hk; have hdr : d = r.dat := (by rw [hd, ← hrs]; exact dat_at hrk); have h4' : r.fr < day := (by rw [hdr] at h4; exact h4); have h5' : day ≤ r.tt := (by rw [hdr] at h5; exact h5); have HD := Lib.hid hd; clear hd hrk hrs hr3 hdr h4 h5 ka)
    clear hr
    go_wp2_with (first | (go_at_call 83; refine (isDate_is _ h2).mono ?_; rintro e w' ⟨rfl, rfl⟩) | (go_at_call 117; refine (within_is _ h3).mono ?_; rintro e w' ⟨rfl, rfl⟩))
    refine (cloneRules_any _ _ _ ds _ HR2.out HZ.out HRB.out).mono ?_
    rintro e w2 ⟨v, rs', rfl, ho, hdat, hb3⟩
    have HB := Lib.hid (below_step hb2 hb3)
    obtain ⟨A', c', rfl⟩ := ho.form
    obtain ⟨g, rfl⟩ := own_head ho.outer (by omega)
    have hlen := ho.len
    have hrk : rs'[k]? = some rs'[k] := List.getElem?_eq_getElem (by omega)
    obtain ⟨r', hr'⟩ : ∃ r', r' = rs'[k] := ⟨_, rfl⟩
    rw [← hr'] at hrk
    have hst := ho.store (f := 3) (r' := { r' with tt := day - 1 }) (u := .int .i64 (day - 1)) hrk (by omega) rfl rfl rfl rfl
    obtain ⟨v3, hv3⟩ := own_cellN ho.outer (k := k * 5 + 3) (by omega)
    have hf3 := ho.outer.frozenAt (k * 5 + 3)
    have HST := Lib.hid (own_base ho.outer (Nat.le_refl _))
    have HS1 := Lib.hid hst.1
    have HS2 := Lib.hid (below_grown HB.out hst.2 (fun x hx => by cases hx; exact Nat.le_trans hb2.size (own_blockN ho.outer).1))
    have hdr := dat_at hrk
    rw [hdat] at hdr
    have HE := Lib.hid (show (rs'.set k { r' with tt := day - 1 }).map Ru.dat = endedAt ds (k : Int) day by
      rw [List.map_set, hdat]
      unfold endedAt atI
      rw [Int.toNat_natCast, hdr]; rfl)
    have hsz := Lib.hid hb2.size
    clear hst hdat hlen hr' hrk hdr ho hb2 hb3
    go_wp2_with fail
    go_ret2
    rw [hfin.out.1, hfin.out.2]
    exact rs_yes (HS1.out.base hsz.out) HE.out HS2.out
set_option maxHeartbeats 3200000 in
theorem l05Ends_any (A : Option Addr) (m c : Nat) (ds : List Rl) (i day : Int) (w : World) (hr : RsRd w w.heap.size A m ds) (hz : szD ds ≤ 1048576) (hb : ∀ d ∈ ds, RlB d) (bi : -9223372036854775808 ≤ i ∧ i ≤ 9223372036854775807) (bd : -9223372036854775808 ≤ day ∧ day ≤ 9223372036854775807) :
    Calls Try.prog 85 #[.slice A m c, .int .i64 i, .int .i64 day] w fun e w' => e = .returned (.bool (endOk ds i day)) ∧ ∃ j, w' = w.drewN j := by
  have HL := Lib.hid hr.len
  have hm := sz_len hz hr.len
  have HZ := Lib.hid hz
  have HRB := Lib.hid hb
  clear hb hz
  cases h1 : rulesB ds
  case false =>
    have hfin := Lib.hid (show endOk ds i day = false by simp [endOk, h1])
    have h2 := trivial
    have h3 := trivial
    go_enter Try.func85, Try.ntmps85
    go_wp2_with fail
    refine (l05Rules_is _ _ _ _ hr HZ.out HRB.out h1).mono ?_
    rintro e w1 ⟨rfl, j, rfl⟩
    skip
    clear hr
    go_wp2_with (first | (go_at_call 81; refine (l05Day_is h2 _).mono ?_; rintro e w' ⟨rfl, rfl⟩) | (go_at_call 118; refine (l00In_is h3 _).mono ?_; rintro e w' ⟨rfl, rfl⟩))
    go_ret
    exact ⟨by rw [hfin.out]; rfl, j, rfl⟩
  cases h2 : inB day 0 100000
  case false =>
    have hfin := Lib.hid (show endOk ds i day = false by simp [endOk, h2])
    have h3 := trivial
    go_enter Try.func85, Try.ntmps85
    go_wp2_with fail
    refine (l05Rules_is _ _ _ _ hr HZ.out HRB.out h1).mono ?_
    rintro e w1 ⟨rfl, j, rfl⟩
    skip
    clear hr
    go_wp2_with (first | (go_at_call 81; refine (l05Day_is h2 _).mono ?_; rintro e w' ⟨rfl, rfl⟩) | (go_at_call 118; refine (l00In_is h3 _).mono ?_; rintro e w' ⟨rfl, rfl⟩))
    go_ret
    exact ⟨by rw [hfin.out]; rfl, j, rfl⟩
  cases h3 : inB i 0 ((m : Int) - 1)
  case false =>
    have hfin := Lib.hid (show endOk ds i day = false by simp only [endOk]; rw [HL.out, h3]; simp)
    go_enter Try.func85, Try.ntmps85
    go_wp2_with fail
    refine (l05Rules_is _ _ _ _ hr HZ.out HRB.out h1).mono ?_
    rintro e w1 ⟨rfl, j, rfl⟩
    skip
    clear hr
    go_wp2_with (first | (go_at_call 81; refine (l05Day_is h2 _).mono ?_; rintro e w' ⟨rfl, rfl⟩) | (go_at_call 118; refine (l00In_is h3 _).mono ?_; rintro e w' ⟨rfl, rfl⟩))
    go_ret
    exact ⟨by rw [hfin.out]; rfl, j, rfl⟩
  have hd2 := inB_iff.1 h2
  have hi2 := inB_iff.1 h3
  obtain ⟨k, rfl⟩ := Int.eq_ofNat_of_zero_le hi2.1
  have hk : k < m := by omega
  have hk' : (0 : Int) ≤ k := by omega
  have hlt' : (k : Int) < m := by omega
  obtain ⟨d, hd⟩ : ∃ d, d = atI ds k := ⟨_, rfl⟩
  by_cases h4 : d.fr < day
  case neg =>
    have hfin := Lib.hid (show endOk ds (k : Int) day = false by simp only [endOk]; rw [← hd]; simp [h4])
    go_enter Try.func85, Try.ntmps85
    go_wp2_with fail
    refine (l05Rules_is _ _ _ _ hr HZ.out HRB.out h1).mono ?_
    rintro e w1 ⟨rfl, j, rfl⟩
    (obtain ⟨rs, hr3, hrs⟩ := hr; obtain ⟨ad, r, rfl, ka, hrk, hc0, hc1, hc2, hc3, hc4, _⟩ := hr3.row hk; have hdr : d = r.dat := (by rw [hd, ← hrs]; exact dat_at hrk); have h4' : ¬ r.fr < day := (by rw [hdr] at h4; have e1 : r.dat.fr = r.fr := rfl; omega); clear hd hrk hrs hr3 hdr h4 ka; have hr := trivial)
    clear hr
    go_wp2_with (first | (go_at_call 81; refine (l05Day_is h2 _).mono ?_; rintro e w' ⟨rfl, rfl⟩) | (go_at_call 118; refine (l00In_is h3 _).mono ?_; rintro e w' ⟨rfl, rfl⟩))
    go_ret
    exact ⟨by rw [hfin.out]; rfl, j, rfl⟩
  case pos =>
    have hfin := Lib.hid (show endOk ds (k : Int) day = decide (day ≤ d.tt) by simp only [endOk]; rw [← hd, HL.out, h1, h2, h3]; simp [h4])
    obtain ⟨q, hq⟩ : ∃ q, q = d.tt := ⟨_, rfl⟩
    rw [← hq] at hfin
    go_enter Try.func85, Try.ntmps85
    go_wp2_with fail
    refine (l05Rules_is _ _ _ _ hr HZ.out HRB.out h1).mono ?_
    rintro e w1 ⟨rfl, j, rfl⟩
    (obtain ⟨rs, hr3, hrs⟩ := hr; obtain ⟨ad, r, rfl, ka, hrk, hc0, hc1, hc2, hc3, hc4, _⟩ := hr3.row hk; have hdr : d = r.dat := (by rw [hd, ← hrs]; exact dat_at hrk); have h4' : r.fr < day := (by rw [hdr] at h4; exact h4); have hq2 : q = r.tt := (by rw [hq, hdr]; rfl); subst hq2; clear hd hrk hrs hr3 hdr h4 hq ka; have hr := trivial)
    clear hr
    go_wp2_with (first | (go_at_call 81; refine (l05Day_is h2 _).mono ?_; rintro e w' ⟨rfl, rfl⟩) | (go_at_call 118; refine (l00In_is h3 _).mono ?_; rintro e w' ⟨rfl, rfl⟩))
    go_ret
    exact ⟨by rw [hfin.out]; rfl, j, rfl⟩
theorem l05Ends_is {b : Bool} (A : Option Addr) (m c : Nat) (ds : List Rl) (i day : Int) (w : World) (hr : RsRd w w.heap.size A m ds) (hz : szD ds ≤ 1048576) (hb : ∀ d ∈ ds, RlB d) (bi : -9223372036854775808 ≤ i ∧ i ≤ 9223372036854775807) (bd : -9223372036854775808 ≤ day ∧ day ≤ 9223372036854775807) (h : endOk ds i day = b) :
    Calls Try.prog 85 #[.slice A m c, .int .i64 i, .int .i64 day] w fun e w' => e = .returned (.bool b) ∧ ∃ j, w' = w.drewN j := by
  subst h; exact l05Ends_any A m c ds i day w hr hz hb bi bd
theorem impl_RepealRule (A : Option Addr) (m c : Nat) (ds : List Rl) (i day : Int) (w : World) (hr : RsRd w w.heap.size A m ds) (hz : szD ds ≤ 1048576) (hb : ∀ d ∈ ds, RlB d) (bi : -9223372036854775808 ≤ i ∧ i ≤ 9223372036854775807) (bd : -9223372036854775808 ≤ day ∧ day ≤ 9223372036854775807) :
    Calls Try.prog 45 #[.slice A m c, .int .i64 i, .int .i64 day] w (RsEnds w (RepealRule_r0 ds i day) (RepealRule_r1 ds i day)) := by
  have H := Lib.hid (ended_any A m c ds i day w hr hz hb bi bd)
  clear hb hr
  go_enter Try.func45, Try.ntmps45
  go_wp2_with fail
  refine H.out.mono ?_
  rintro e w1 ⟨v, rfl, ho, hb⟩
  go_wp2_with fail
  go_ret2
  exact ⟨v, rfl, ho, hb⟩
set_option maxHeartbeats 1600000 in
theorem spec_RepealRule (A : Option Addr) (m c : Nat) (ds : List Rl) (i day : Int) (w : World) (hr : RsRd w w.heap.size A m ds) (hz : szD ds ≤ 1048576) (hb : ∀ d ∈ ds, RlB d) (bi : -9223372036854775808 ≤ i ∧ i ≤ 9223372036854775807) (bd : -9223372036854775808 ≤ day ∧ day ≤ 9223372036854775807) :
    Calls Try.prog 44 #[.slice A m c, .int .i64 i, .int .i64 day] w (RsEnds w (RepealRule_r0 ds i day) (RepealRule_r1 ds i day)) := by
  have HL := Lib.hid hr.len
  have hm := sz_len hz hr.len
  have HR := Lib.hid hr
  have HZ := Lib.hid hz
  have HRB := Lib.hid hb
  clear hb hz hr
  cases h : endOk ds i day
  case false =>
    have hfin := Lib.hid (rr_no h)
    go_enter Try.func44, Try.ntmps44
    go_wp2_with fail
    refine (l05Ends_is _ _ _ ds _ _ _ HR.out HZ.out HRB.out bi bd h).mono ?_
    rintro e w1 ⟨rfl, j, rfl⟩
    go_wp2_with fail
    go_ret2
    rw [hfin.out.1, hfin.out.2]
    exact rs_no (below_drewN (Below.refl _ _) j)
  have hfin := Lib.hid (rr_yes h)
  obtain ⟨_, hd2, hi2⟩ := endOk_rules h
  rw [HL.out] at hi2
  obtain ⟨k, rfl⟩ := Int.eq_ofNat_of_zero_le hi2.1
  have hk : k < m := by omega
  have hk' : (0 : Int) ≤ k := by omega
  have hlt' : (k : Int) < m := by omega
  go_enter Try.func44, Try.ntmps44
  go_wp2_with fail
  refine (l05Ends_is _ _ _ ds _ _ _ HR.out HZ.out HRB.out bi bd h).mono ?_
  rintro e w1 ⟨rfl, j, rfl⟩
  go_wp2_with fail
  refine (l05OwnRules_any _ _ _ ds _ (HR.out.drewN j) HZ.out HRB.out).mono ?_
  rintro e w2 ⟨v, rs', rfl, ho, hdat, hb3⟩
  have HB := Lib.hid (below_step (below_drewN (Below.refl _ _) j) hb3)
  obtain ⟨A', c', rfl⟩ := ho.form
  obtain ⟨g, rfl⟩ := own_head ho.outer (by omega)
  have hlen := ho.len
  have hrk : rs'[k]? = some rs'[k] := List.getElem?_eq_getElem (by omega)
  obtain ⟨r', hr'⟩ : ∃ r', r' = rs'[k] := ⟨_, rfl⟩
  rw [← hr'] at hrk
  have hst := ho.store (f := 3) (r' := { r' with tt := day - 1 }) (u := .int .i64 (day - 1)) hrk (by omega) rfl rfl rfl rfl
  obtain ⟨v3, hv3⟩ := own_cellN ho.outer (k := k * 5 + 3) (by omega)
  have hf3 := ho.outer.frozenAt (k * 5 + 3)
  have HS1 := Lib.hid hst.1
  have HS2 := Lib.hid (below_grown HB.out hst.2 (fun x hx => by cases hx; exact (own_blockN ho.outer).1))
  have hdr := dat_at hrk
  rw [hdat] at hdr
  have HE := Lib.hid (show (rs'.set k { r' with tt := day - 1 }).map Ru.dat = endedAt ds (k : Int) day by
    rw [List.map_set, hdat]
    unfold endedAt atI
    rw [Int.toNat_natCast, hdr]; rfl)
  clear hst hdat hlen hr' hrk hdr ho hb3
  go_wp2_with fail
  go_ret2
  rw [hfin.out.1, hfin.out.2]
  exact rs_yes HS1.out HE.out HS2.out
end Go.Proofs.Ytkdiegplbloccaa
