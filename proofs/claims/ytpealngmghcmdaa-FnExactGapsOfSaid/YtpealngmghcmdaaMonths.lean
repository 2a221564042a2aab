/-
  SPANS OF MONTHS: which months they have, for the program's monthsOf and the reference's l06Spans and l06Counted.
-/
import Derived.Test.YtpealngmghcmdaaApp
namespace Go.Proofs.Ytpealngmghcmdaa
open Go.ChangeShapes Go.WideShapes Go.ChangeAt Go.RowKit
set_option linter.unusedVariables false

/-! ### plain words -/
def pairOk (zs : List Int) (j : Nat) : Bool := decide (zs[2 * j]?.getD 0 < zs[2 * j + 1]?.getD 0)
def pairsOk (zs : List Int) (k : Nat) : Bool := (List.range k).all (pairOk zs)
def spOk (zs : List Int) : Bool := cntIn zs 2 48 0 1500 && decide (zs.length % 2 = 0) && pairsOk zs (zs.length / 2)
def inPair (zs : List Int) (m : Nat) (j : Nat) : Bool := decide (zs[2 * j]?.getD 0 ≤ (m : Int) ∧ (m : Int) < zs[2 * j + 1]?.getD 0)
/-- the months of the first k spans, and of the next one those below x -/
def monMid (zs : List Int) (k : Nat) (x : Int) : List Bool := (List.range 1500).map fun m => (List.range k).any (inPair zs m) || decide (zs[2 * k]?.getD 0 ≤ (m : Int) ∧ (m : Int) < x)
def monTo (zs : List Int) (k : Nat) : List Bool := (List.range 1500).map fun m => (List.range k).any (inPair zs m)
def monAll (zs : List Int) : List Bool := monTo zs (zs.length / 2)
theorem monTo_length (zs : List Int) (k : Nat) : (monTo zs k).length = 1500 := by simp [monTo]
theorem monMid_length (zs : List Int) (k : Nat) (x : Int) : (monMid zs k x).length = 1500 := by simp [monMid]
theorem monAll_length (zs : List Int) : (monAll zs).length = 1500 := monTo_length _ _
theorem monMid_start (zs : List Int) (k : Nat) : monMid zs k (zs[2 * k]?.getD 0) = monTo zs k := by
  unfold monMid monTo
  refine List.map_congr_left fun m _ => ?_
  have : decide (zs[2 * k]?.getD 0 ≤ (m : Int) ∧ (m : Int) < zs[2 * k]?.getD 0) = false := by simp
  rw [this, Bool.or_false]
theorem monMid_end (zs : List Int) (k : Nat) : monMid zs k (zs[2 * k + 1]?.getD 0) = monTo zs (k + 1) := by
  unfold monMid monTo
  refine List.map_congr_left fun m _ => ?_
  rw [List.range_succ, List.any_append]
  simp [inPair]
theorem monMid_set {zs : List Int} {k x : Nat} (h : zs[2 * k]?.getD 0 ≤ (x : Int)) : (monMid zs k x).set x true = monMid zs k ((x : Int) + 1) := by
  refine List.ext_getElem? fun j => ?_
  rw [List.getElem?_set]
  unfold monMid
  by_cases e : x = j
  · subst e
    rw [if_pos rfl, List.length_map, List.length_range, List.getElem?_map]
    by_cases hx : x < 1500
    · rw [if_pos hx, List.getElem?_range hx]
      simp only [Option.map_some, Option.some.injEq]
      have : decide (zs[2 * k]?.getD 0 ≤ (x : Int) ∧ (x : Int) < (x : Int) + 1) = true := by simp; omega
      rw [this, Bool.or_true]
    · rw [if_neg hx, List.getElem?_eq_none (l := List.range 1500) (by rw [List.length_range]; omega)]; rfl
  · rw [if_neg e, List.getElem?_map, List.getElem?_map]
    by_cases hj : j < 1500
    · rw [List.getElem?_range hj]
      simp only [Option.map_some, Option.some.injEq]
      congr 1
      rw [decide_eq_decide]
      omega
    · rw [List.getElem?_eq_none (l := List.range 1500) (by rw [List.length_range]; omega)]; rfl
theorem bools_length (bs : List Bool) : (bools bs).length = bs.length := by simp [bools]
theorem bools_set (bs : List Bool) (k : Nat) (b : Bool) : (bools bs).set k (.bool b) = bools (bs.set k b) := by simp [bools]
theorem bools_getD {bs : List Bool} {k : Nat} (h : k < bs.length) : (bools bs)[k]? = some (.bool (bs[k]?.getD false)) := by
  simp [bools, List.getElem?_eq_getElem h]
theorem own_bool {w : World} {base : Nat} {e : TypeId} {n cap g : Nat} {bs : List Bool} (h : w.ownsRow base e 1 (.slice (some ⟨g, 0, none⟩) n cap) n (bools bs)) {k : Nat} (hk : k < n) : w.cell? ⟨g, k, none⟩ = some (.bool (bs[k]?.getD false)) := by
  have hl := own_len h
  rw [bools_length] at hl
  exact (h.cellAt k (by omega)).trans (bools_getD (by omega))
theorem pairs_snoc {zs : List Int} {k : Nat} (h : pairsOk zs k = true) (hp : pairOk zs k = true) : pairsOk zs (k + 1) = true := by
  unfold pairsOk at h ⊢
  rw [List.range_succ, List.all_append, h]; simp [hp]
theorem pairs_not {zs : List Int} {k : Nat} (hk : k < zs.length / 2) (hp : pairOk zs k = false) : spOk zs = false := by
  have : pairsOk zs (zs.length / 2) = false := by
    unfold pairsOk
    rw [List.all_eq_false]
    exact ⟨k, List.mem_range.2 hk, by simp [hp]⟩
  simp [spOk, this]
theorem info_bool : (Try.prog.info? 4).map (fun i => (i.zero, i.size, i.bytes)) = some (some (.bool false), 1, 1) := by kernel_rfl
theorem mon_start (zs : List Int) : (madeCells (Value.bool false).cells (1500 * 1)).toList = bools (monTo zs 0) := by
  have e : (Value.bool false).cells = #[Value.bool false] := rfl
  rw [e, toList_madeCells_one]
  unfold monTo bools
  simp only [List.range_zero, List.any_nil, List.map_map, Function.comp_def]
  rw [List.map_const', List.length_range]
theorem mon_round {W w : World} {e : TypeId} {n cap g : Nat} {zs : List Int} {k x : Nat} (ho : w.ownsRow W.heap.size e 1 (.slice (some ⟨g, 0, none⟩) n cap) n (bools (monMid zs k x))) (h : zs[2 * k]?.getD 0 ≤ (x : Int)) (hB : Below W.heap.size W w) :
    (w.setCell ⟨g, x, none⟩ (.bool true)).ownsRow W.heap.size e 1 (.slice (some ⟨g, 0, none⟩) n cap) n (bools (monMid zs k ((x : Int) + 1))) ∧ Below W.heap.size W (w.setCell ⟨g, x, none⟩ (.bool true)) := by
  have h1 := (ho.stored x (.bool true)).1
  rw [bools_set, monMid_set h] at h1
  exact ⟨h1, hB.setCell (p := ⟨g, x, none⟩) (ho.lt g rfl).1 _⟩
/-- how the program's function ends -/
def MonEnds (W : World) (zs : List Int) (E : Ending) (w' : World) : Prop :=
  ∃ v, E = .returned (.tuple #[v, .bool (spOk zs)]) ∧ Below W.heap.size W w' ∧ (spOk zs = true → w'.ownsRow W.heap.size 4 1 v 1500 (bools (monAll zs)))
theorem mon_no {W w' : World} {zs : List Int} (h : spOk zs = false) (hb : Below W.heap.size W w') : MonEnds W zs (.returned (.tuple #[.slice none 0 0, .bool false])) w' :=
  ⟨_, by rw [h], hb, fun h' => by rw [h] at h'; cases h'⟩
set_option maxRecDepth 100000 in
set_option maxHeartbeats 1600000 in
theorem monthsOf_any (A : Option Addr) (n c : Nat) (zs : List Int) (w : World) (hr : Rd w w.heap.size 1 A n (ints zs)) (hn : n ≤ 1048576) :
    Calls Try.prog 58 #[.slice A n c] w (MonEnds w zs) := by
  have HL := Lib.hid hr.ilen
  rcases Bool.eq_false_or_eq_true (cntIn zs 2 48 0 1500) with h1 | h1
  case inr =>
    have hno := Lib.hid (show spOk zs = false by simp [spOk, h1])
    go_enter Try.func58, Try.ntmps58
    go_wp2_with fail
    refine (hasCount_any _ _ _ zs _ _ _ _ _ hr (by omega)).mono ?_
    rintro e w1 ⟨rfl, hb⟩
    go_wp2_with fail
    go_ret2
    exact mon_no hno.out hb
  by_cases h2 : n % 2 = 0
  case neg =>
    have hno := Lib.hid (show spOk zs = false by have := HL.out; simp [spOk, *])
    have h3 : (n : Int) % 2 = 1 := by omega
    go_enter Try.func58, Try.ntmps58
    go_wp2_with fail
    refine (hasCount_any _ _ _ zs _ _ _ _ _ hr (by omega)).mono ?_
    rintro e w1 ⟨rfl, hb⟩
    go_wp2_with fail
    go_ret2
    exact mon_no hno.out hb
  obtain ⟨l0, l1, l2⟩ := cntIn_iff.1 h1
  have hn48 : 2 ≤ n ∧ n ≤ 48 := by have := HL.out; omega
  have H1 := Lib.hid h1
  have H2 := Lib.hid l2
  clear l0 l1 l2
  obtain ⟨h, hh⟩ : ∃ h, n = 2 * h := ⟨n / 2, by omega⟩
  have HH := Lib.hid hh
  have h3 : (n : Int) % 2 = 0 := by omega
  clear hh h2
  obtain ⟨i0, hi, hz0, hz1, hz2⟩ := info_parts info_bool
  go_enter Try.func58, Try.ntmps58
  go_wp2_with fail
  refine (hasCount_any _ _ _ zs _ _ _ _ _ hr (by omega)).mono ?_
  rintro e w1 ⟨rfl, hb⟩
  have hS := hb.size
  go_wp2_with (at_make; refine wpList_make_full _ rfl _ _ 55 rfl w1.heap.size 4 i0 (.bool false) 1 Try.underlying55 hi hz0 hz1 .i64 .i64 _ _ 1500 rfl rfl rfl rfl (by rw [hz2]; omega) (by unfold maxLen; omega) (Nat.le_refl _) ?_; intro w2 hown hg; rw [mon_start zs] at hown; replace hown := own_base hown hS; have hB := hb.grown hg hS (by simp); clear hg hb hS)
  obtain ⟨g, hg⟩ : ∃ g, g = w1.heap.size := ⟨_, rfl⟩
  rw [← hg] at hown ⊢
  clear hg h1 h3
  go_loopw [5, 6] (fun iv _ wr => ∃ k i : Nat, k ≤ h ∧ i = 2 * k ∧ iv = .int .i64 i ∧ wr.ownsRow w.heap.size 4 1 (.slice (some ⟨g, 0, none⟩) 1500 1500) 1500 (bools (monTo zs k)) ∧ Below w.heap.size w wr ∧ pairsOk zs k = true) (fun iv _ _ => n - (intOf iv).toNat)
  case atStart => exact ⟨0, 0, Nat.zero_le _, rfl, rfl, hown, hB, rfl⟩
  case round =>
    obtain ⟨k, i, hk, hik, rfl, ho, hbw, hp⟩ := hrel
    have HI := Lib.hid hik
    have HP := Lib.hid hp
    clear hown hB hik hp
    have hn2 : n ≤ 48 := hn48.2
    by_cases hlt : k < h
    · have hi1 : i < n := by have := HH.out; have := HI.out; omega
      have hi2 : i + 1 < n := by have := HH.out; have := HI.out; omega
      obtain ⟨ad, rfl, hc⟩ := (hr.below hbw).int hi1
      obtain ⟨ae, hE, hd⟩ := (hr.below hbw).int hi2
      cases hE
      have k1 : (ad.add i).block < w.heap.size := by
        obtain ⟨ad', hE, h1, _⟩ := hr.intB hi1
        cases hE
        exact h1
      have bx := allIn_at H2.out _ (getD_mem (zs := zs) (k := i) (by have := HL.out; omega))
      have bY := allIn_at H2.out _ (getD_mem (zs := zs) (k := i + 1) (by have := HL.out; omega))
      obtain ⟨x, hx⟩ := Int.eq_ofNat_of_zero_le bx.1
      obtain ⟨y, hy⟩ := Int.eq_ofNat_of_zero_le bY.1
      rw [hx] at hc bx
      rw [hy] at hd bY
      have hd' : wr.cell? { block := ad.block, off := ad.off + (i + 1) } = some (.int .i64 y) := by simpa [Addr.add] using hd
      have k2 : ad.block < w.heap.size := by rwa [add_block] at k1
      have hx2 : zs[2 * k]?.getD 0 = (x : Int) := by rw [← hx, HI.out]
      have hy2 : zs[2 * k + 1]?.getD 0 = (y : Int) := by rw [← hy, HI.out]
      have HX := Lib.hid hx2
      have HY := Lib.hid hy2
      clear hx hy hx2 hy2 hr
      have i1 : (0 : Int) ≤ i := by omega
      have i2 : (i : Int) < n := by omega
      have i3 : (0 : Int) ≤ (i : Int) + 1 := by omega
      have i4 : (i : Int) + 1 < n := by omega
      have i5 : IntKind.i64.wrap ((i : Int) + 1) = (i : Int) + 1 := IntWalk.i64_in _ (by omega)
      have i6 : ((i : Int) + 1).toNat = i + 1 := by omega
      by_cases hxy : x < y
      · have i7 : decide ((y : Int) ≤ (x : Int)) = false := by simp; omega
        go_wp2_with fail
        go_quiet (fail)
        have ho2 := own_drewN ho nq
        have hb2 := below_drewN hbw nq
        rw [← monMid_start, HX.out] at ho2
        go_wp2_with fail
        have hc0 := hc
        clear ho hbw hc
        obtain ⟨wo, hwo⟩ : ∃ wo : World, wo = wr.drewN nq := ⟨_, rfl⟩
        have hdo : wo.cell? { block := ad.block, off := ad.off + (i + 1) } = some (.int .i64 y) := by rw [hwo]; exact hd'
        rw [← hwo] at ho2 hb2 ⊢
        clear hwo hd hd' hc0
        go_loopw [6] (fun mv wi => ∃ j : Nat, x ≤ j ∧ j ≤ y ∧ mv = .int .i64 j ∧ wi.ownsRow w.heap.size 4 1 (.slice (some ⟨g, 0, none⟩) 1500 1500) 1500 (bools (monMid zs k j)) ∧ Below w.heap.size w wi) (fun mv _ => y - (intOf mv).toNat)
        case atStart => exact ⟨x, by omega, by omega, rfl, ho2, hb2⟩
        case round =>
          obtain ⟨j, hj1, hj2, rfl, ho3, hb3⟩ := hrel
          have hdj := (hb3.cell (p := { block := ad.block, off := ad.off + (i + 1) }) k2).trans ((hb2.cell (p := { block := ad.block, off := ad.off + (i + 1) }) k2).symm.trans hdo)
          have HDJ := Lib.hid hb2
          clear ho2 hb2 hdo
          by_cases hjy : j < y
          · have hcj := own_bool ho3 (k := j) (by omega)
            have hfz := ho3.frozenAt j
            have hst := Lib.hid (mon_round (k := k) (x := j) ho3 (by rw [HX.out]; omega) hb3)
            clear ho3
            go_wp2_with fail
            go_roundw
            case rel => exact ⟨j + 1, by omega, by omega, by go_num, hst.out.1, hst.out.2⟩
            case measure => simp [intOf]; omega
          · obtain rfl : y = j := by omega
            have hp2 := Lib.hid (pairs_snoc HP.out (by simp only [pairOk]; rw [HX.out, HY.out]; simpa using hxy))
            go_wp2_with fail
            go_roundw
            case rel => exact ⟨k + 1, i + 2, by omega, by have := HI.out; omega, by go_num, by rw [← monMid_end, HY.out]; exact ho3, hb3, hp2.out⟩
            case measure => simp [intOf]; omega
      · have hno := Lib.hid (pairs_not (zs := zs) (k := k) (by have := HL.out; have := HH.out; omega) (by
          simp only [pairOk, decide_eq_false_iff_not]
          rw [HX.out, HY.out]
          omega))
        go_wp2_with fail
        go_quiet (fail)
        go_wp2_with fail
        go_ret2
        exact mon_no hno.out (below_drewN hbw _)
    · obtain rfl : h = k := by omega
      have hd : zs.length / 2 = h := by have := HL.out; have := HH.out; omega
      have hyes := Lib.hid (show spOk zs = true by
        have h1 := H1.out
        have h2 := HP.out
        have h3 : zs.length % 2 = 0 := by have := HL.out; have := HH.out; omega
        rw [← hd] at h2
        simp [spOk, h1, h2, h3])
      have hall := Lib.hid (show monAll zs = monTo zs h by unfold monAll; rw [hd])
      clear hd
      have hni : n ≤ i := by have := HI.out; have := HH.out; omega
      go_wp2_with fail
      go_ret2
      exact ⟨_, by rw [hyes.out]; rfl, hbw, fun _ => by rw [hall.out]; exact ho⟩
/-! ### the reference -/
set_option maxRecDepth 100000 in
set_option maxHeartbeats 1600000 in
theorem l06Spans_any (A : Option Addr) (n c : Nat) (zs : List Int) (w : World) (hr : Rd w w.heap.size 1 A n (ints zs)) (hn : n ≤ 1048576) :
    Calls Try.prog 56 #[.slice A n c] w fun e w' => e = .returned (.bool (spOk zs)) ∧ Below w.heap.size w w' := by
  have HL := Lib.hid hr.ilen
  by_cases h2 : n % 2 = 0
  case neg =>
    have hno := Lib.hid (show spOk zs = false by have := HL.out; simp [spOk, *])
    have h3 : (n : Int) % 2 = 1 := by omega
    have hne : ((n : Int) % 2 != 0) = true := by simp; omega
    go_enter Try.func56, Try.ntmps56
    go_wp2_with fail
    all_goals go_ret
    all_goals exact ⟨ret_bool (by rw [hno.out]), Below.refl _ _⟩
  by_cases h1 : 2 ≤ n
  case neg =>
    have hno := Lib.hid (show spOk zs = false by
      have : cntIn zs 2 48 0 1500 = false := by
        cases hx : cntIn zs 2 48 0 1500 with
        | false => rfl
        | true => have := (cntIn_iff.1 hx).1; have := HL.out; omega
      simp [spOk, this])
    go_enter Try.func56, Try.ntmps56
    go_wp2_with fail
    all_goals go_ret
    all_goals exact ⟨ret_bool (by rw [hno.out]), Below.refl _ _⟩
  by_cases h5 : n ≤ 48
  case neg =>
    have hno := Lib.hid (show spOk zs = false by
      have : cntIn zs 2 48 0 1500 = false := by
        cases hx : cntIn zs 2 48 0 1500 with
        | false => rfl
        | true => have := (cntIn_iff.1 hx).2.1; have := HL.out; omega
      simp [spOk, this])
    go_enter Try.func56, Try.ntmps56
    go_wp2_with fail
    all_goals go_ret
    all_goals exact ⟨ret_bool (by rw [hno.out]), Below.refl _ _⟩
  obtain ⟨h, hh⟩ : ∃ h, n = 2 * h := ⟨n / 2, by omega⟩
  have HH := Lib.hid hh
  have h3 : (n : Int) % 2 = 0 := by omega
  have H3 := Lib.hid h3
  have hne : ((n : Int) % 2 != 0) = false := by simp; omega
  clear hh h2 h3
  go_enter Try.func56, Try.ntmps56
  go_wp2_with fail
  clear hne
  go_loopw [4] (fun iv wr => ∃ k i : Nat, k ≤ h ∧ i = 2 * k ∧ iv = .int .i64 i ∧ pairsOk zs k = true ∧ allIn (zs.take i) 0 1500 = true ∧ Below w.heap.size w wr) (fun iv _ => n - (intOf iv).toNat)
  case atStart => exact ⟨0, 0, Nat.zero_le _, rfl, rfl, rfl, rfl, Below.refl _ _⟩
  case round =>
    obtain ⟨k, i, hk, hik, rfl, hp, ha, hbw⟩ := hrel
    have HI := Lib.hid hik
    have HP := Lib.hid hp
    have HA := Lib.hid ha
    clear hik hp ha
    by_cases hlt : k < h
    · have hi1 : i < n := by have := HH.out; have := HI.out; omega
      have hi2 : i + 1 < n := by have := HH.out; have := HI.out; omega
      obtain ⟨ad, rfl, hc⟩ := (hr.below hbw).int hi1
      obtain ⟨ae, hE, hd⟩ := (hr.below hbw).int hi2
      cases hE
      obtain ⟨x, hx⟩ : ∃ x, x = zs[i]?.getD 0 := ⟨_, rfl⟩
      obtain ⟨y, hy⟩ : ∃ y, y = zs[i + 1]?.getD 0 := ⟨_, rfl⟩
      rw [← hx] at hc
      rw [← hy] at hd
      have hd' : wr.cell? { block := ad.block, off := ad.off + (i + 1) } = some (.int .i64 y) := by simpa [Addr.add] using hd
      have HX := Lib.hid hx
      have HY := Lib.hid hy
      clear hx hy hr
      have i1 : (0 : Int) ≤ i := by omega
      have i2 : (i : Int) < n := by omega
      have i3 : (0 : Int) ≤ (i : Int) + 1 := by omega
      have i4 : (i : Int) + 1 < n := by omega
      have i5 : IntKind.i64.wrap ((i : Int) + 1) = (i : Int) + 1 := IntWalk.i64_in _ (by omega)
      have i6 : ((i : Int) + 1).toNat = i + 1 := by omega
      have C := Lib.hid l00In_any
      rcases Bool.eq_false_or_eq_true (inB x 0 1500) with g1 | g1
      · rcases Bool.eq_false_or_eq_true (inB y 0 1500) with g2 | g2
        · by_cases hxy : x < y
          · have i7 : decide (y ≤ x) = false := by simp; omega
            go_wp2_with fail
            go_quiet ((go_at_call 43; exact Calls.quiet_of_same ((C.out _ _ _ _).mono fun e w' (h : _ ∧ _ = w') => (⟨h.1, h.2.symm⟩ : _ ∧ w' = _))))
            go_wp2_with fail
            go_roundw
            case rel =>
              refine ⟨k + 1, i + 2, by omega, by have := HI.out; omega, by go_num, ?_, ?_, below_drewN hbw _⟩
              · refine pairs_snoc HP.out ?_
                have := HI.out
                subst this
                simp only [pairOk]
                rw [← HX.out, ← HY.out]
                simpa using hxy
              · exact allIn_snoc (allIn_snoc HA.out (by have := HL.out; omega) (by rw [← HX.out]; exact g1)) (by have := HL.out; omega) (by rw [← HY.out]; exact g2)
            case measure => simp [intOf]; omega
          · have hno := Lib.hid (pairs_not (zs := zs) (k := k) (by have := HL.out; have := HH.out; omega) (by
              have := HI.out
              subst this
              simp only [pairOk, decide_eq_false_iff_not]
              rw [← HX.out, ← HY.out]
              exact hxy))
            have i7 : decide (y ≤ x) = true := by simp; omega
            go_wp2_with fail
            go_quiet ((go_at_call 43; exact Calls.quiet_of_same ((C.out _ _ _ _).mono fun e w' (h : _ ∧ _ = w') => (⟨h.1, h.2.symm⟩ : _ ∧ w' = _))))
            go_wp2_with fail
            go_ret
            exact ⟨ret_bool (by rw [hno.out]), below_drewN hbw _⟩
        · have hno := Lib.hid (show spOk zs = false by
            have := cntIn_false (a := 2) (b := 48) (allIn_not (zs := zs) (k := i + 1) (lo := 0) (hi := 1500) (by have := HL.out; omega) (by rw [← HY.out]; exact g2))
            simp [spOk, this])
          go_wp2_with fail
          go_quiet ((go_at_call 43; exact Calls.quiet_of_same ((C.out _ _ _ _).mono fun e w' (h : _ ∧ _ = w') => (⟨h.1, h.2.symm⟩ : _ ∧ w' = _))))
          go_wp2_with fail
          go_ret
          exact ⟨ret_bool (by rw [hno.out]), below_drewN hbw _⟩
      · have hno := Lib.hid (show spOk zs = false by
          have := cntIn_false (a := 2) (b := 48) (allIn_not (zs := zs) (k := i) (lo := 0) (hi := 1500) (by have := HL.out; omega) (by rw [← HX.out]; exact g1))
          simp [spOk, this])
        go_wp2_with fail
        go_quiet ((go_at_call 43; exact Calls.quiet_of_same ((C.out _ _ _ _).mono fun e w' (h : _ ∧ _ = w') => (⟨h.1, h.2.symm⟩ : _ ∧ w' = _))))
        go_wp2_with fail
        go_ret
        exact ⟨ret_bool (by rw [hno.out]), below_drewN hbw _⟩
    · obtain rfl : h = k := by omega
      have hyes := Lib.hid (show spOk zs = true by
        have hd : zs.length / 2 = h := by have := HL.out; have := HH.out; omega
        have h2 := HP.out
        have h3 : zs.length % 2 = 0 := by have := HL.out; have := HH.out; omega
        have h4 : cntIn zs 2 48 0 1500 = true := cntIn_iff.2 ⟨by have := HL.out; omega, by have := HL.out; omega, by have := HA.out; rwa [List.take_of_length_le (by have := HL.out; have := HI.out; have := HH.out; omega)] at this⟩
        rw [← hd] at h2
        simp [spOk, h2, h3, h4])
      have hni : n ≤ i := by have := HI.out; have := HH.out; omega
      go_wp2_with fail
      go_ret
      exact ⟨ret_bool (by rw [hyes.out]), hbw⟩
end Go.Proofs.Ytpealngmghcmdaa
