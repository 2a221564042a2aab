/-
  CONTRACTS OF THE LAWS' OWN HELPERS ON RULES, third part: the marks and the look at the marks.
-/
import Derived.Test.YtmfglflahlddbaaRuLaw2
namespace Go.Proofs.Ytmfglflahlddbaa
open Go.ChangeShapes Go.WideShapes Go.ChangeAt Go.RowKit
set_option linter.unusedVariables false

def markR (k : Int) (r : Ru) : Ru := { r with hd := k, ifs := up (k + 1) r.n, fr := k + 1 + r.n, tt := k + 1 + r.n + 1, rk := k + 1 + r.n + 1 + 1 }
def tot (rs : List Ru) : Nat := 4 * rs.length + ifsSum rs
theorem tot_take {rs : List Ru} {k : Nat} {r : Ru} (h : rs[k]? = some r) : tot (rs.take (k + 1)) = tot (rs.take k) + (4 + r.n) := by
  have hk : k < rs.length := (List.getElem?_eq_some_iff.1 h).1
  unfold tot
  rw [ifsSum_take h, List.length_take, List.length_take]; omega
theorem tot_le (rs : List Ru) (k : Nat) : tot (rs.take k) ≤ tot rs := by
  have := ifsSum_le rs k
  have : (rs.take k).length ≤ rs.length := List.length_take_le' k rs
  unfold tot; omega
/-- the rules with the first j of them marked -/
def markTo (k : Int) (rs : List Ru) (j : Nat) : List Ru := rs.mapIdx fun i r => if i < j then markR (k + tot (rs.take i)) r else r
def markRs (k : Int) (rs : List Ru) : List Ru := markTo k rs rs.length
theorem markTo_at (k : Int) (rs : List Ru) (j i : Nat) : (markTo k rs j)[i]? = rs[i]?.map fun r => if i < j then markR (k + tot (rs.take i)) r else r := by
  unfold markTo; rw [List.getElem?_mapIdx]
theorem markTo_zero (k : Int) (rs : List Ru) : markTo k rs 0 = rs := by
  refine List.ext_getElem? fun i => ?_
  rw [markTo_at]
  cases rs[i]? <;> simp
theorem markTo_succ {k : Int} {rs : List Ru} {j : Nat} {r : Ru} (h : rs[j]? = some r) : markTo k rs (j + 1) = (markTo k rs j).set j (markR (k + tot (rs.take j)) r) := by
  have hj : j < rs.length := (List.getElem?_eq_some_iff.1 h).1
  refine List.ext_getElem? fun i => ?_
  rw [List.getElem?_set, markTo_at, markTo_at]
  by_cases e : j = i
  · subst e
    rw [if_pos rfl, if_pos (by simp [markTo]; exact hj), h]; simp
  · rw [if_neg e]
    cases hx : rs[i]? with
    | none => rfl
    | some a =>
      simp only [Option.map_some]
      by_cases h1 : i < j
      · rw [if_pos h1, if_pos (by omega)]
      · rw [if_neg h1, if_neg (by omega)]
theorem markRs_at {k : Int} {rs : List Ru} {j : Nat} {r : Ru} (h : rs[j]? = some r) : (markRs k rs)[j]? = some (markR (k + tot (rs.take j)) r) := by
  have hj : j < rs.length := (List.getElem?_eq_some_iff.1 h).1
  unfold markRs
  rw [markTo_at, h]; simp [hj]
theorem markRs_length (k : Int) (rs : List Ru) : (markRs k rs).length = rs.length := by simp [markRs, markTo]
theorem markTo_hold {k : Int} {rs : List Ru} {j : Nat} {r : Ru} (h : rs[j]? = some r) : (markTo k rs j)[j]? = some r := by
  rw [markTo_at, h]; simp
theorem set_set (l : List Ru) (k : Nat) (a b : Ru) : (l.set k a).set k b = l.set k b := by simp
theorem get_set {l : List Ru} {k : Nat} {a b : Ru} (h : l[k]? = some a) : (l.set k b)[k]? = some b := by
  have : k < l.length := (List.getElem?_eq_some_iff.1 h).1
  simp [this]
theorem markTo_len (k : Int) (rs : List Ru) (j : Nat) : (markTo k rs j).length = rs.length := by simp [markTo]
set_option maxHeartbeats 3200000 in
set_option maxRecDepth 100000 in
theorem markRuleS_any (v : Value) (lo hi m : Nat) (k : Int) (rs : List Ru) (w : World) (ho : OwnRs w lo v m rs) (hI : InR hi v rs) (hm : m ≤ 2097152) (hn : ifsSum rs ≤ 2097152) (hk0 : 0 ≤ k) (hk1 : k ≤ 1073741824) :
    Calls Try.prog 13 #[v, .int .i64 k] w fun e w' => e = .returned (.int .i64 (k + tot rs)) ∧ OwnRs w' lo v m (markRs k rs) ∧ Only lo hi w w' := by
  obtain ⟨A, c, rfl⟩ := ho.form
  have HL := Lib.hid ho.len
  have HI := Lib.hid hI
  clear hI
  go_enter Try.func13, Try.ntmps13
  go_wp2
  go_loopw [1, 5] (fun q i wr => ∃ j : Nat, j ≤ m ∧ i = .int .i64 j ∧ q = .int .i64 (k + tot (rs.take j)) ∧ OwnRs wr lo (.slice A m c) m (markTo k rs j) ∧ Only lo hi w wr) (fun _ i _ => m - (intOf i).toNat)
  case atStart => exact ⟨0, Nat.zero_le _, rfl, by simp [tot, ifsSum], by rw [markTo_zero]; exact ho, Only.refl _ _ _⟩
  case round =>
    obtain ⟨j, hj, rfl, rfl, hown, honly⟩ := hrel
    clear ho
    by_cases hlt : j < m
    · obtain ⟨g, rfl⟩ := own_head hown.outer (by omega)
      have hrj : rs[j]? = some (rs[j]'(by have := HL.out; omega)) := List.getElem?_eq_getElem _
      obtain ⟨r, hr⟩ : ∃ r, r = rs[j]'(by have := HL.out; omega) := ⟨_, rfl⟩
      rw [← hr] at hrj
      clear hr
      have hrow := markTo_hold (k := k) hrj
      have ht := tot_take hrj
      have htl := tot_le rs (j + 1)
      have hrn : r.n ≤ 2097152 := Nat.le_trans (ifsSum_mem (List.mem_of_getElem? hrj)) hn
      have htm : tot rs ≤ 16777216 := by unfold tot; have := HL.out; omega
      have hgr := own_blockN hown.outer
      have hghi := HI.out.1 g rfl
      obtain ⟨q, hq⟩ : ∃ q : Int, q = k + tot (rs.take j) := ⟨_, rfl⟩
      have hqb : 0 ≤ q ∧ q + 4 + r.n ≤ 1099511627776 := by omega
      have HQ := Lib.hid hq
      have HT := Lib.hid ht
      have hst := Lib.hid (markTo_succ (k := k) hrj)
      rw [← hq] at hst ⊢
      have s0 := hown.store (f := 0) (r' := { r with hd := q }) (u := .int .i64 q) hrow (by omega) rfl rfl rfl rfl
      rw [Nat.add_zero] at s0
      have hri := s0.1.inner _ (List.mem_of_getElem? (get_set hrow))
      have hihi := HI.out.2 r (List.mem_of_getElem? hrj)
      obtain ⟨hd, fr, tt, rk, Ai, ni, ci, ifs⟩ := r
      dsimp only at hqb HT hst s0 hri hihi hrow hrn
      have hc1 : wr.cell? ⟨g, j * 5 + 1, none⟩ = some (.slice Ai ni ci) := by
        rw [hown.outer.cellAt (j * 5 + 1) (by omega), flat_at hrow 1 (by omega)]; rfl
      obtain ⟨u0, hu0⟩ := own_cellN hown.outer (k := j * 5) (by omega)
      have hf0 := hown.outer.frozenAt (j * 5)
      have HS0 := Lib.hid s0
      have HRI := Lib.hid hri
      have HO := Lib.hid honly
      have HIH := Lib.hid hihi
      clear s0 hri hq ht htl htm hrj honly hihi
      go_wp2_with fail
      refine (markInt64S_any _ lo _ _ _ _ HRI.out (by omega) (by omega) (by omega)).mono ?_
      rintro e w2 ⟨rfl, ho2, hg2⟩
      have s1 := HS0.out.1.write (r' := ⟨q, fr, tt, rk, Ai, ni, ci, up (q + 1) ni⟩) (get_set hrow) rfl rfl hg2 ho2
      have s2 := s1.store (f := 2) (r' := ⟨q, q + 1 + ni, tt, rk, Ai, ni, ci, up (q + 1) ni⟩) (u := .int .i64 (q + 1 + ni)) (get_set (get_set hrow)) (by omega) rfl rfl rfl rfl
      have s3 := s2.1.store (f := 3) (r' := ⟨q, q + 1 + ni, q + 1 + ni + 1, rk, Ai, ni, ci, up (q + 1) ni⟩) (u := .int .i64 (q + 1 + ni + 1)) (get_set (get_set (get_set hrow))) (by omega) rfl rfl rfl rfl
      have s4 := s3.1.store (f := 4) (r' := ⟨q, q + 1 + ni, q + 1 + ni + 1, q + 1 + ni + 1 + 1, Ai, ni, ci, up (q + 1) ni⟩) (u := .int .i64 (q + 1 + ni + 1 + 1)) (get_set (get_set (get_set (get_set hrow)))) (by omega) rfl rfl rfl rfl
      have hon : Only lo hi wr w2 := (Only.of_grown HS0.out.2 (fun x hx => by cases hx; exact ⟨hgr.1, hghi⟩)).trans (Only.of_grown hg2 (fun x hx => ⟨(HRI.out.lt x hx).1, HIH.out x hx⟩))
      have hon2 := Only.of_grown (lo := lo) (hi := hi) (grown_trans (grown_trans s2.2 s3.2) s4.2) (fun x hx => by cases hx; exact ⟨hgr.1, hghi⟩)
      have HON := Lib.hid ((HO.out.trans hon).trans hon2)
      have HS4 := Lib.hid s4.1
      obtain ⟨v2, hv2⟩ := own_cellN s1.outer (k := j * 5 + 2) (by omega)
      obtain ⟨v3, hv3⟩ := own_cellN s1.outer (k := j * 5 + 3) (by omega)
      obtain ⟨v4, hv4⟩ := own_cellN s1.outer (k := j * 5 + 4) (by omega)
      have hf2 := s1.outer.frozenAt (j * 5 + 2)
      have hf3 := s1.outer.frozenAt (j * 5 + 3)
      have hf4 := s1.outer.frozenAt (j * 5 + 4)
      clear s1 s2 s3 s4 hon hon2 hg2 ho2 hown hc1 hu0 hf0
      go_wp2_with fail
      go_roundw
      case rel =>
        refine ⟨j + 1, by omega, by go_num, int_eq (by have := HT.out; have := HQ.out; omega), ?_, HON.out⟩
        rw [hst.out]
        have h4 := HS4.out
        simp only [set_set] at h4
        exact h4
      case measure => simp [intOf]; omega
    · obtain rfl : m = j := by omega
      have hfin := Lib.hid (show markTo k rs m = markRs k rs by unfold markRs; rw [HL.out])
      have hf2 := Lib.hid (show rs.take m = rs from List.take_of_length_le (by have := HL.out; omega))
      rw [hf2.out]
      go_wp2
      go_ret
      exact ⟨rfl, by rw [← hfin.out]; exact hown, honly⟩
end Go.Proofs.Ytmfglflahlddbaa
