/-
  RulesText: what the program's and the reference's functions return.
-/
import Derived.Test.YtinocfehjdlohaaDoorTxtV
namespace Go.Proofs.YtinocfehjdlohaaDoor
open Go.ChangeShapes Go.WideShapes Go.ChangeAt Go.RowKit
set_option linter.unusedVariables false
set_option linter.unusedSimpArgs false

/-- the texts of rules, each with its line's end -/
def rulesTx (ds : List Rl) : List UInt8 := (ds.map fun d => ruleTx d ++ [10]).flatten
theorem rulesTx_nil : rulesTx [] = [] := rfl
theorem rulesTx_append (a b : List Rl) : rulesTx (a ++ b) = rulesTx a ++ rulesTx b := by simp [rulesTx]
theorem rulesTx_one (d : Rl) : rulesTx [d] = ruleTx d ++ [10] := by simp [rulesTx]
theorem rulesTx_succ {rs : List Ru} {k : Nat} {r : Ru} (h : rs[k]? = some r) : rulesTx ((rs.map Ru.dat).take (k + 1)) = rulesTx ((rs.map Ru.dat).take k) ++ (ruleTx r.dat ++ [10]) := by
  rw [← List.map_take, take_more h, List.map_append, rulesTx_append, List.map_take]
  rw [show List.map Ru.dat [r] = [r.dat] from rfl, rulesTx_one]
theorem rulesTx_len {ds : List Rl} (h : ds.all validB = true) : (rulesTx ds).length ≤ 401 * ds.length := by
  induction ds with
  | nil => simp [rulesTx]
  | cons d ds ih =>
    rw [List.all_cons, Bool.and_eq_true] at h
    have h1 := ih h.2
    have h2 := ruleTx_len h.1
    rw [show rulesTx (d :: ds) = (ruleTx d ++ [10]) ++ rulesTx ds by simp [rulesTx], List.length_append, List.length_append, List.length_cons]
    simp only [List.length_cons, List.length_nil]
    omega
theorem take_all {ds : List Rl} (h : ds.all validB = true) (k : Nat) : (ds.take k).all validB = true := by
  rw [List.all_eq_true] at h ⊢
  exact fun d hd => h d (List.mem_of_mem_take hd)
def RulesText_r0 (ds : List Rl) : List UInt8 := if rulesB ds then rulesTx ds else []
def RulesText_r1 (ds : List Rl) : Bool := rulesB ds
theorem rst_no {ds : List Rl} (h : rulesB ds = false) : RulesText_r0 ds = [] ∧ RulesText_r1 ds = false := by simp [RulesText_r0, RulesText_r1, h]
theorem rst_yes {ds : List Rl} (h : rulesB ds = true) : RulesText_r0 ds = rulesTx ds ∧ RulesText_r1 ds = true := by simp [RulesText_r0, RulesText_r1, h]
theorem rules_all' {ds : List Rl} (h : rulesB ds = true) : ds.all validB = true := by unfold rulesB at h; rw [Bool.and_eq_true] at h; exact h.2
theorem rules_len' {ds : List Rl} (h : rulesB ds = true) : ds.length ≤ 24 := by unfold rulesB at h; simp at h; exact h.1
set_option maxRecDepth 100000 in
set_option maxHeartbeats 1600000 in
theorem rulesText_is (A : Option Addr) (m c : Nat) (ds : List Rl) (w : World) (hr : RsRd w w.heap.size A m ds) (hv : rulesB ds = true) (ht : Tab w) :
    Calls Tryd.prog 34 #[.slice A m c] w fun e w' => e = .returned (.string (txB (rulesTx ds))) ∧ Below w.heap.size w w' := by
  obtain ⟨rs, hrr, rfl⟩ := hr
  have hl := hrr.len
  have HL := Lib.hid hl
  have HR := Lib.hid hrr
  have hm : m ≤ 24 := by have := rules_len' hv; rw [List.length_map] at this; omega
  have HT := Lib.hid ht
  have HV := Lib.hid (rules_all' hv)
  clear hrr ht hv hl
  go_enter Tryd.func34, Tryd.ntmps34
  go_wp2_with fail
  go_loopw [3, 5, 8] (fun v _ i wr => ∃ k : Nat, k ≤ m ∧ i = .int .i64 k ∧ v = .string (txB (rulesTx ((rs.map Ru.dat).take k))) ∧ Below w.heap.size w wr) (fun _ _ i _ => m - (intOf i).toNat)
  case atStart => exact ⟨0, Nat.zero_le _, rfl, rfl, Below.refl _ _⟩
  case round =>
    obtain ⟨k, hk, rfl, rfl, hb⟩ := hrel
    have HB := Lib.hid hb
    have zk : (rulesTx ((rs.map Ru.dat).take k)).length ≤ 10000 := by
      have h1 := rulesTx_len (take_all HV.out k)
      rw [List.length_take, List.length_map] at h1
      omega
    by_cases hlt : k < m
    · obtain ⟨ad, r, rfl, _, hrk, c0, c1, c2, c3, c4, hri⟩ := (HR.out.below hb).row hlt
      have hvr : validB r.dat = true := by
        have := HV.out
        rw [List.all_eq_true] at this
        exact this _ (List.mem_map_of_mem (List.mem_of_getElem? hrk))
      have V := rlV hvr
      have hst := Lib.hid (rulesTx_succ hrk)
      have zr := ruleTx_len hvr
      have HRI := Lib.hid hri.ilen
      have hnr : r.n ≤ 6 := by have := V.n; have h2 : r.dat.ifs.length = r.ifs.length := rfl; have := HRI.out; omega
      obtain ⟨hd, fr, tt, rk, Ai, ni, ci, ifs⟩ := r
      dsimp only at c0 c1 c2 c3 c4 hri hnr
      have b1 := V.fr; have b2 := V.tt; have b3 := V.rk; have b4 := V.hd
      change 0 ≤ fr ∧ fr ≤ 100000 at b1
      change 0 ≤ tt ∧ tt ≤ 100000 at b2
      change 0 ≤ rk ∧ rk ≤ 100 at b3
      change -1000000 ≤ hd ∧ hd ≤ 1000000 at b4
      change (ruleTx ⟨hd, ifs, fr, tt, rk⟩).length ≤ 400 at zr
      obtain ⟨sk, hsk⟩ : ∃ s, txB (rulesTx ((rs.map Ru.dat).take k)) = s := ⟨_, rfl⟩
      obtain ⟨sr, hsr⟩ : ∃ s, txB (ruleTx ⟨hd, ifs, fr, tt, rk⟩) = s := ⟨_, rfl⟩
      have z1 : sk.size ≤ 10000 := by rw [← hsk, txB_size]; exact zk
      have z2 : sr.size ≤ 400 := by rw [← hsr, txB_size]; exact zr
      have hfin := Lib.hid (show txB (rulesTx ((rs.map Ru.dat).take (k + 1))) = sk ++ (sr ++ ⟨#[10]⟩) by
        rw [hst.out, ← hsk, ← hsr, show (⟨#[10]⟩ : ByteArray) = txB [10] from rfl, txB_append, txB_append]; rfl)
      rw [hsk]
      have hb1 := Below.alloc (Below.refl wr.heap.size wr) (Nat.le_refl _) (.cells #[.int .i64 hd, .slice Ai ni ci, .int .i64 fr, .int .i64 tt, .int .i64 rk] 28)
      have hcT := ruleText_is hd fr tt rk Ai ni ci ifs _ ((hri.more hb.size).on hb1) (by omega) V.i64 (by omega) (by omega) (by omega) (by omega) ((HT.out.on hb).on hb1)
      rw [hsr] at hcT
      have HC := Lib.hid hcT
      have HB1 := Lib.hid (below_step hb hb1)
      have i1 : (0 : Int) ≤ k := by omega
      have i2 : (k : Int) < m := by omega
      clear V hvr hst zr zk hri hrk hsk hsr hcT hb1 hb b1 b2 b3 b4
      go_wp2_with fail
      refine HC.out.mono ?_
      rintro e w2 ⟨rfl, hb2⟩
      have HB2 := Lib.hid (below_step HB1.out hb2)
      clear hb2 c0 c1 c2 c3 c4
      go_wp2_with fail
      go_roundw
      case rel => exact ⟨k + 1, by omega, by go_num, by rw [hfin.out], HB2.out⟩
      case measure => simp [intOf]; omega
    · obtain rfl : k = m := by omega
      rw [List.take_of_length_le (by rw [List.length_map]; have := HL.out; omega)]
      go_wp2_with fail
      go_ret
      exact ⟨rfl, HB.out⟩
theorem areRs_is (A : Option Addr) (m c : Nat) {ds : List Rl} {b : Bool} (w : World) (hr : RsRd w w.heap.size A m ds) (hz : szD ds ≤ 1048576) (hb : ∀ d ∈ ds, RlB d) (h : rulesB ds = b) :
    Calls Tryd.prog 33 #[.slice A m c] w fun e w' => e = .returned (.bool b) ∧ Below w.heap.size w w' := by
  subst h
  have hl := sz_len hz hr.len
  obtain ⟨rs, hr, rfl⟩ := hr
  exact areRules_any A m c rs w hr hl (ruN_of hr.nlen hz hb)
set_option maxHeartbeats 800000 in
theorem impl_RulesText (A : Option Addr) (m c : Nat) (ds : List Rl) (w : World) (hr : RsRd w w.heap.size A m ds) (hz : szD ds ≤ 1048576) (hb : ∀ d ∈ ds, RlB d) (ht : Tab w) :
    Calls Tryd.prog 15 #[.slice A m c] w fun e w' => e = .returned (.tuple #[.string (txB (RulesText_r0 ds)), .bool (RulesText_r1 ds)]) ∧ Below w.heap.size w w' := by
  have HR := Lib.hid hr
  have HT := Lib.hid ht
  have HZ := Lib.hid hz
  have HRB := Lib.hid hb
  clear hr ht hz hb
  cases hv : rulesB ds
  · have hfin := Lib.hid (rst_no hv)
    go_enter Tryd.func15, Tryd.ntmps15
    go_wp2_with fail
    refine (areRs_is (ds := ds) _ _ _ _ HR.out HZ.out HRB.out hv).mono ?_
    rintro e w1 ⟨rfl, hb1⟩
    go_wp2_with fail
    go_ret2
    exact ⟨by rw [hfin.out.1, hfin.out.2]; rfl, hb1⟩
  · have hfin := Lib.hid (rst_yes hv)
    go_enter Tryd.func15, Tryd.ntmps15
    go_wp2_with fail
    refine (areRs_is (ds := ds) _ _ _ _ HR.out HZ.out HRB.out hv).mono ?_
    rintro e w1 ⟨rfl, hb1⟩
    have HB1 := Lib.hid hb1
    clear hb1
    go_wp2_with fail
    refine (rulesText_is _ _ _ ds _ (HR.out.on HB1.out) hv (HT.out.on HB1.out)).mono ?_
    rintro e w2 ⟨rfl, hb2⟩
    have HB2 := Lib.hid (below_step HB1.out hb2)
    clear hb2
    go_wp2_with fail
    go_ret2
    exact ⟨by rw [hfin.out.1, hfin.out.2]; rfl, HB2.out⟩
theorem l05Rs_is (A : Option Addr) (m c : Nat) {ds : List Rl} {b : Bool} (w : World) (hr : RsRd w w.heap.size A m ds) (hz : szD ds ≤ 1048576) (hb : ∀ d ∈ ds, RlB d) (h : rulesB ds = b) :
    Calls Tryd.prog 32 #[.slice A m c] w fun e w' => e = .returned (.bool b) ∧ Below w.heap.size w w' := by
  subst h
  have hl := sz_len hz hr.len
  obtain ⟨rs, hr, rfl⟩ := hr
  exact (l05Rules_any A m c rs w hr hl (ruN_of hr.nlen hz hb)).mono fun e w' ⟨he, hw⟩ => ⟨he, below_of_drewN hw⟩
set_option maxRecDepth 100000 in
set_option maxHeartbeats 1600000 in
theorem spec_RulesText (A : Option Addr) (m c : Nat) (ds : List Rl) (w : World) (hr : RsRd w w.heap.size A m ds) (hz : szD ds ≤ 1048576) (hb : ∀ d ∈ ds, RlB d) :
    Calls Tryd.prog 13 #[.slice A m c] w fun e w' => e = .returned (.tuple #[.string (txB (RulesText_r0 ds)), .bool (RulesText_r1 ds)]) ∧ Below w.heap.size w w' := by
  have HR0 := Lib.hid hr
  have HZ := Lib.hid hz
  have HRB := Lib.hid hb
  clear hz hb
  cases hv : rulesB ds
  · have hfin := Lib.hid (rst_no hv)
    go_enter Tryd.func13, Tryd.ntmps13
    go_wp2_with fail
    refine (l05Rs_is (ds := ds) _ _ _ _ HR0.out HZ.out HRB.out hv).mono ?_
    rintro e w1 ⟨rfl, hb1⟩
    go_wp2_with fail
    go_ret2
    exact ⟨by rw [hfin.out.1, hfin.out.2]; rfl, hb1⟩
  · have hfin := Lib.hid (rst_yes hv)
    go_enter Tryd.func13, Tryd.ntmps13
    go_wp2_with fail
    refine (l05Rs_is (ds := ds) _ _ _ _ HR0.out HZ.out HRB.out hv).mono ?_
    rintro e w1 ⟨rfl, hb1⟩
    have HB1 := Lib.hid hb1
    clear hb1
    go_wp2_with fail
    obtain ⟨rs, hrr, rfl⟩ := hr
    have hl := hrr.len
    have HL := Lib.hid hl
    have HR := Lib.hid hrr
    have hm : m ≤ 24 := by have := rules_len' hv; rw [List.length_map] at this; omega
    have HV := Lib.hid (rules_all' hv)
    clear hrr hv hl
    go_loopw [4, 5, 11] (fun v _ i wr => ∃ k : Nat, k ≤ m ∧ i = .int .i64 k ∧ v = .string (txB (rulesTx ((rs.map Ru.dat).take k))) ∧ Below w.heap.size w wr) (fun _ _ i _ => m - (intOf i).toNat)
    case atStart => exact ⟨0, Nat.zero_le _, rfl, rfl, HB1.out⟩
    case round =>
      clear HB1
      obtain ⟨k, hk, rfl, rfl, hb⟩ := hrel
      have HB := Lib.hid hb
      have zk : (rulesTx ((rs.map Ru.dat).take k)).length ≤ 10000 := by
        have h1 := rulesTx_len (take_all HV.out k)
        rw [List.length_take, List.length_map] at h1
        omega
      by_cases hlt : k < m
      · obtain ⟨ad, r, rfl, hrk, ha, hri⟩ := (HR.out.below hb).at hlt
        have hadb : (ad.add (k * 5)).block < wr.heap.size := by
          obtain ⟨ad2, r2, e2, hb2, _⟩ := (HR.out.below hb).row hlt
          cases e2
          rw [add_block]
          exact Nat.lt_of_lt_of_le hb2 hb.size
        have hvr : validB r.dat = true := by
          have := HV.out
          rw [List.all_eq_true] at this
          exact this _ (List.mem_map_of_mem (List.mem_of_getElem? hrk))
        have V := rlV hvr
        have hst := Lib.hid (rulesTx_succ hrk)
        have zr := ruleTx_len hvr
        obtain ⟨sk, hsk⟩ : ∃ s, txB (rulesTx ((rs.map Ru.dat).take k)) = s := ⟨_, rfl⟩
        obtain ⟨sr, hsr⟩ : ∃ s, txB (ruleTx r.dat) = s := ⟨_, rfl⟩
        have z1 : sk.size ≤ 10000 := by rw [← hsk, txB_size]; exact zk
        have z2 : sr.size ≤ 400 := by rw [← hsr, txB_size]; exact zr
        have hfin2 := Lib.hid (show txB (rulesTx ((rs.map Ru.dat).take (k + 1))) = sk ++ (sr ++ ⟨#[10]⟩) by
          rw [hst.out, ← hsk, ← hsr, show (⟨#[10]⟩ : ByteArray) = txB [10] from rfl, txB_append, txB_append])
        rw [hsk]
        have hcT := l05Text_is (ad.add (k * 5)) r _ ha hadb (hri.more hb.size) V
        rw [hsr] at hcT
        have HC := Lib.hid hcT
        have i1 : (0 : Int) ≤ k := by omega
        have i2 : (k : Int) < m := by omega
        clear V hvr hst zr zk hri hrk hsk hsr hcT hb ha hadb
        go_wp2_with fail
        refine HC.out.mono ?_
        rintro e w2 ⟨rfl, hb2⟩
        have HB2 := Lib.hid (below_step HB.out hb2)
        clear hb2
        go_wp2_with fail
        go_roundw
        case rel => exact ⟨k + 1, by omega, by go_num, by rw [hfin2.out], HB2.out⟩
        case measure => simp [intOf]; omega
      · obtain rfl : k = m := by omega
        have hts : (rs.map Ru.dat).take k = rs.map Ru.dat := List.take_of_length_le (by rw [List.length_map]; have := HL.out; omega)
        rw [hts]
        go_wp2_with fail
        go_ret2
        exact ⟨by rw [hfin.out.1, hfin.out.2]; rfl, HB.out⟩
end Go.Proofs.YtinocfehjdlohaaDoor
