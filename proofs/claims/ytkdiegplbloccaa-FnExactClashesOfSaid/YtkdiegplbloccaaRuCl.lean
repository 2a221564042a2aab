/-
  ClashesOf, the plain law: pairs over the active places are pairs over all places of which both are active.
-/
import Derived.Test.YtkdiegplbloccaaRuOpp
namespace Go.Proofs.Ytkdiegplbloccaa
open Go.ChangeShapes Go.WideShapes Go.ChangeAt Go.RowKit
set_option linter.unusedVariables false
set_option linter.unusedSimpArgs false

def atD (ds : List Rl) (i : Int) : Rl := ds[i.toNat]?.getD noRl
def clB (a b : Rl) : Bool := (a.hd == -b.hd) && ((a.rk == b.rk) && !opposeB a b)
def fcl (ds : List Rl) (i k : Int) : List Int := if clB (atD ds i) (atD ds k) then [i, k] else []
def gcl (ds : List Rl) (day : Int) (i k : Int) : List Int := if onB (atD ds i) day && onB (atD ds k) day then fcl ds i k else []
/-- the inner loop, and the outer -/
def ginn (f : Int → Int → List Int) (l : List Int) (n : Nat) : Nat → List Int
  | 0 => []
  | t + 1 => ginn f l n t ++ f (l[n]?.getD 0) (l[n + 1 + t]?.getD 0)
def gout (f : Int → Int → List Int) (l : List Int) : Nat → List Int
  | 0 => []
  | n + 1 => gout f l n ++ ginn f l n (l.length - (n + 1))
def prs (f : Int → Int → List Int) : List Int → List Int
  | [] => []
  | i :: r => r.flatMap (f i) ++ prs f r
theorem ginn_take (f : Int → Int → List Int) (l : List Int) (n t : Nat) (h : n + 1 + t ≤ l.length) : ginn f l n t = ((l.drop (n + 1)).take t).flatMap (f (l[n]?.getD 0)) := by
  induction t with
  | zero => simp [ginn]
  | succ t ih =>
    rw [ginn, ih (by omega), List.take_add_one, List.flatMap_append, List.getElem?_drop]
    rw [show n + 1 + t = n + 1 + t from rfl, List.getElem?_eq_getElem (show n + 1 + t < l.length by omega)]
    simp
theorem gout_prs (f : Int → Int → List Int) (l : List Int) (n : Nat) (h : n ≤ l.length) : gout f l n ++ prs f (l.drop n) = prs f l := by
  induction n with
  | zero => simp [gout]
  | succ n ih =>
    rw [← ih (by omega), gout, ginn_take f l n _ (by omega), List.append_assoc]
    congr 1
    rw [List.drop_eq_getElem_cons (show n < l.length by omega), prs, List.getElem?_eq_getElem (show n < l.length by omega)]
    congr 1
    rw [List.take_of_length_le (by rw [List.length_drop]; omega)]
    rfl
theorem gout_all (f : Int → Int → List Int) (l : List Int) : gout f l l.length = prs f l := by
  have := gout_prs f l l.length (Nat.le_refl _)
  rwa [List.drop_length, prs, List.append_nil] at this
theorem flat_filter (p : Int → Bool) (g : Int → List Int) (r : List Int) : (r.flatMap fun k => if p k then g k else []) = (r.filter p).flatMap g := by
  induction r with
  | nil => rfl
  | cons k r ih =>
    rw [List.flatMap_cons, ih, List.filter_cons]
    cases p k <;> simp
theorem flat_none (r : List Int) : (r.flatMap fun _ => ([] : List Int)) = [] := by
  induction r with
  | nil => rfl
  | cons k r ih => rw [List.flatMap_cons, ih]; rfl
theorem prs_filter (p : Int → Bool) (f : Int → Int → List Int) (l : List Int) : prs (fun i k => if p i && p k then f i k else []) l = prs f (l.filter p) := by
  induction l with
  | nil => rfl
  | cons i r ih =>
    rw [prs, ih, List.filter_cons]
    cases hp : p i
    · simp [flat_none]
    · simp only [Bool.true_and, if_true, prs]
      rw [flat_filter]
/-- all places -/
def allI (m : Nat) : List Int := (List.range m).map Int.ofNat
theorem allI_len (m : Nat) : (allI m).length = m := by simp [allI]
theorem allI_at {m k : Nat} (h : k < m) : (allI m)[k]?.getD 0 = k := by simp [allI, h]
theorem actTo_filter (ds : List Rl) (day : Int) (m : Nat) : actTo ds day m = (allI m).filter fun z => onB (atD ds z) day := by
  induction m with
  | zero => rfl
  | succ m ih =>
    unfold allI at ih ⊢
    rw [actTo, ih, List.range_succ, List.map_append, List.filter_append]
    have e : onB (atD ds (Int.ofNat m)) day = onB (ds[m]?.getD noRl) day := rfl
    simp only [List.map_cons, List.map_nil, List.filter_cons, List.filter_nil, e]
    split <;> simp
theorem clash_same (ds : List Rl) (day : Int) (m : Nat) : gout (gcl ds day) (allI m) m = gout (fcl ds) (actTo ds day m) (actTo ds day m).length := by
  have h := gout_all (gcl ds day) (allI m)
  rw [allI_len] at h
  rw [h, gout_all, actTo_filter]
  exact prs_filter (fun z => onB (atD ds z) day) (fcl ds) (allI m)
def ClashesOf_r0 (ds : List Rl) (day : Int) : List Int := if actOk ds day then gout (fcl ds) (actTo ds day ds.length) (actTo ds day ds.length).length else []
def ClashesOf_r1 (ds : List Rl) (day : Int) : Bool := actOk ds day
theorem cs_no {ds : List Rl} {day : Int} (h : actOk ds day = false) : ClashesOf_r0 ds day = [] ∧ ClashesOf_r1 ds day = false := by simp [ClashesOf_r0, ClashesOf_r1, h]
theorem cs_yes {ds : List Rl} {day : Int} {m : Nat} (h : actOk ds day = true) (hm : ds.length = m) : ClashesOf_r0 ds day = gout (fcl ds) (actTo ds day m) (actTo ds day m).length ∧ ClashesOf_r1 ds day = true := by simp [ClashesOf_r0, ClashesOf_r1, h, hm]
theorem fcl_len (ds : List Rl) (i k : Int) : (fcl ds i k).length ≤ 2 := by unfold fcl; split <;> simp
theorem gcl_len (ds : List Rl) (day i k : Int) : (gcl ds day i k).length ≤ 2 := by
  unfold gcl; split
  · exact fcl_len ds i k
  · simp
theorem ginn_len {f : Int → Int → List Int} (hf : ∀ i k, (f i k).length ≤ 2) (l : List Int) (n t : Nat) : (ginn f l n t).length ≤ 2 * t := by
  induction t with
  | zero => simp [ginn]
  | succ t ih => rw [ginn, List.length_append]; have := hf (l[n]?.getD 0) (l[n + 1 + t]?.getD 0); omega
theorem gout_len {f : Int → Int → List Int} (hf : ∀ i k, (f i k).length ≤ 2) (l : List Int) (hl : l.length ≤ 24) (n : Nat) : (gout f l n).length ≤ 48 * n := by
  induction n with
  | zero => simp [gout]
  | succ n ih =>
    rw [gout, List.length_append]
    have := ginn_len hf l n (l.length - (n + 1))
    omega
theorem ClashesOf_len (ds : List Rl) (day : Int) : (ClashesOf_r0 ds day).length ≤ 1152 := by
  unfold ClashesOf_r0
  split
  · rename_i h
    unfold actOk at h
    simp only [Bool.and_eq_true] at h
    have h1 := rules_len h.1
    have h2 := actTo_len ds day ds.length
    have h3 := gout_len (fcl_len ds) (actTo ds day ds.length) (by omega) (actTo ds day ds.length).length
    omega
  · simp
end Go.Proofs.Ytkdiegplbloccaa
