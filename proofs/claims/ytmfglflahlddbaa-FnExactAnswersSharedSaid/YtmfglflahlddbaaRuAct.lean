/-
  ActiveRules: what the program's and the reference's functions return.
-/
import Derived.Test.YtmfglflahlddbaaRuAre
import Derived.Test.YtmfglflahlddbaaSl
namespace Go.Proofs.Ytmfglflahlddbaa
open Go.ChangeShapes Go.WideShapes Go.ChangeAt Go.RowKit
set_option linter.unusedVariables false
set_option linter.unusedSimpArgs false

def noRl : Rl := ⟨0, [], 0, 0, 0⟩
def onB (d : Rl) (day : Int) : Bool := decide (d.fr ≤ day) && decide (day ≤ d.tt)
/-- the places of the active rules among the first k -/
def actTo (ds : List Rl) (day : Int) : Nat → List Int
  | 0 => []
  | k + 1 => if onB (ds[k]?.getD noRl) day then actTo ds day k ++ [(k : Int)] else actTo ds day k
theorem actTo_len (ds : List Rl) (day : Int) (k : Nat) : (actTo ds day k).length ≤ k := by
  induction k with
  | zero => simp [actTo]
  | succ k ih =>
    rw [actTo]; split
    · rw [List.length_append, List.length_singleton]; omega
    · omega
def actOk (ds : List Rl) (day : Int) : Bool := rulesB ds && inB day 0 100000
def ActiveRules_r0 (ds : List Rl) (day : Int) : List Int := if actOk ds day then actTo ds day ds.length else []
def ActiveRules_r1 (ds : List Rl) (day : Int) : Bool := actOk ds day
theorem ar_no {ds : List Rl} {day : Int} (h : actOk ds day = false) : ActiveRules_r0 ds day = [] ∧ ActiveRules_r1 ds day = false := by simp [ActiveRules_r0, ActiveRules_r1, h]
theorem ar_yes {ds : List Rl} {day : Int} {m : Nat} (h : actOk ds day = true) (hm : ds.length = m) : ActiveRules_r0 ds day = actTo ds day m ∧ ActiveRules_r1 ds day = true := by simp [ActiveRules_r0, ActiveRules_r1, h, hm]
theorem ActiveRules_len (ds : List Rl) (day : Int) : (ActiveRules_r0 ds day).length ≤ 24 := by
  unfold ActiveRules_r0
  split
  · rename_i h
    have h2 := actTo_len ds day ds.length
    unfold actOk rulesB at h
    simp at h
    omega
  · simp
theorem rules_len {ds : List Rl} (h : rulesB ds = true) : ds.length ≤ 24 := by unfold rulesB at h; simp at h; exact h.1
theorem dat_at {rs : List Ru} {k : Nat} {r : Ru} (h : rs[k]? = some r) : (rs.map Ru.dat)[k]?.getD noRl = r.dat := by rw [List.getElem?_map, h]; rfl
theorem isActive_is {b : Bool} (hd fr tt rk : Int) (A : Option Addr) (n c : Nat) (ifs : List Int) (day : Int) (w : World) (h : onB ⟨hd, ifs, fr, tt, rk⟩ day = b) :
    Calls Try.prog 48 #[.agg #[.int .i64 hd, .slice A n c, .int .i64 fr, .int .i64 tt, .int .i64 rk], .int .i64 day] w fun e w' => e = .returned (.bool b) ∧ Below w.heap.size w w' := by
  subst h
  by_cases h1 : fr ≤ day
  · have hfin := Lib.hid (show onB ⟨hd, ifs, fr, tt, rk⟩ day = decide (day ≤ tt) by simp [onB, h1])
    go_enter Try.func48, Try.ntmps48
    go_wp2
    go_ret
    exact ⟨by rw [hfin.out]; rfl, (Below.refl _ _).alloc (Nat.le_refl _) _⟩
  · have hfin := Lib.hid (show onB ⟨hd, ifs, fr, tt, rk⟩ day = false by simp [onB, h1])
    go_enter Try.func48, Try.ntmps48
    go_wp2
    go_ret
    exact ⟨by rw [hfin.out]; rfl, (Below.refl _ _).alloc (Nat.le_refl _) _⟩
theorem l05On_is {b : Bool} (p : Addr) (r : Ru) (day : Int) (w : World) (hp : AtP w p r) (h : onB r.dat day = b) :
    Calls Try.prog 57 #[.pointer (some p), .int .i64 day] w fun e w' => e = .returned (.bool b) ∧ w = w' := by
  subst h
  obtain ⟨c0, c1, c2, c3, c4⟩ := hp
  obtain ⟨hd, fr, tt, rk, A, n, c, ifs⟩ := r
  dsimp only at c0 c1 c2 c3 c4
  by_cases h1 : fr ≤ day
  · have hfin := Lib.hid (show onB (Ru.dat ⟨hd, fr, tt, rk, A, n, c, ifs⟩) day = decide (day ≤ tt) by unfold onB Ru.dat; simp [h1])
    go_enter Try.func57, Try.ntmps57
    go_wp2
    go_ret
    exact ⟨by rw [hfin.out]; rfl, rfl⟩
  · have hfin := Lib.hid (show onB (Ru.dat ⟨hd, fr, tt, rk, A, n, c, ifs⟩) day = false by simp [onB, Ru.dat, h1])
    go_enter Try.func57, Try.ntmps57
    go_wp2
    go_ret
    exact ⟨by rw [hfin.out]; rfl, rfl⟩
end Go.Proofs.Ytmfglflahlddbaa
