/-
  l05Of: the active rules (the reference's own row of rules; their Ifs lie where they lay).
-/
import Derived.Test.YtinocfehjdlohaaRuClone
import Derived.Test.YtinocfehjdlohaaCourtA
namespace Go.Proofs.Ytinocfehjdlohaa
open Go.ChangeShapes Go.WideShapes Go.ChangeAt Go.RowKit
set_option linter.unusedVariables false
set_option linter.unusedSimpArgs false

/-- the active rules among the first k -/
def actD (ds : List Rl) (day : Int) : Nat → List Rl
  | 0 => []
  | k + 1 => if onB (ds[k]?.getD noRl) day then actD ds day k ++ [ds[k]?.getD noRl] else actD ds day k
theorem actD_succ (ds : List Rl) (day : Int) (k : Nat) : actD ds day (k + 1) = if onB (ds[k]?.getD noRl) day then actD ds day k ++ [ds[k]?.getD noRl] else actD ds day k := rfl
theorem actD_len (ds : List Rl) (day : Int) (k : Nat) : (actD ds day k).length ≤ k := by
  induction k with
  | zero => simp [actD]
  | succ k ih =>
    rw [actD]; split
    · rw [List.length_append, List.length_singleton]; omega
    · omega
theorem actD_take (ds : List Rl) (day : Int) (k : Nat) (h : k ≤ ds.length) : actD ds day k = (ds.take k).filter fun d => onB d day := by
  induction k with
  | zero => rfl
  | succ k ih =>
    rw [actD, ih (by omega), List.take_add_one, List.getElem?_eq_getElem (by omega), List.filter_append]
    simp only [Option.getD_some, Option.toList_some]
    split
    · rename_i h1; simp [h1]
    · rename_i h1; simp [h1]
theorem actD_all (ds : List Rl) (day : Int) : actD ds day ds.length = ds.filter fun d => onB d day := by rw [actD_take ds day _ (Nat.le_refl _), List.take_length]
theorem actR_dat (rs : List Ru) (day : Int) : (rs.filter fun r => onB r.dat day).map Ru.dat = (rs.map Ru.dat).filter fun d => onB d day := by
  rw [List.filter_map]; rfl
set_option maxHeartbeats 1600000 in
theorem l05Of_any (A : Option Addr) (m c : Nat) (ds : List Rl) (day : Int) (w : World) (hr : RsRd w w.heap.size A m ds) (hm : m ≤ 1048576) :
    Calls Try.prog 52 #[.slice A m c, .int .i64 day] w fun e w' => ∃ A' n c', e = .returned (.slice A' n c') ∧ RsRd w' w'.heap.size A' n (actD ds day m) ∧ Below w.heap.size w w' := by
  go_enter Try.func52, Try.ntmps52
  go_wp2_with fail
  go_loopw [5, 6, 10] (fun v _ i wr => ∃ k : Nat, k ≤ m ∧ i = .int .i64 k ∧ (∃ rs', wr.ownsRow w.heap.size tR 5 v rs'.length (flat rs') ∧ (∀ r ∈ rs', Rd wr w.heap.size 1 r.A r.n (ints r.ifs)) ∧ rs'.map Ru.dat = actD ds day k) ∧ Below w.heap.size w wr) (fun _ _ i _ => m - (intOf i).toNat)
  case atStart => exact ⟨0, Nat.zero_le _, rfl, ⟨[], own_emptyR w, (fun r h => by cases h), rfl⟩, (Below.refl _ _).alloc (Nat.le_refl _) _⟩
  case round =>
    obtain ⟨k, hk, rfl, ⟨rs', hown, hinn, hdat⟩, hbw⟩ := hrel
    by_cases hlt : k < m
    · obtain ⟨rs, hr2, hrs⟩ := hr.below hbw
      obtain ⟨ad, r, rfl, ka, hrk, hc0, hc1, hc2, hc3, hc4, hri⟩ := hr2.row hlt
      have hz' : (0 : Int) ≤ k := by omega
      have hlt' : (k : Int) < m := by omega
      have hon := dat_at hrk
      rw [hrs] at hon
      have hst := actD_succ ds day k
      rw [hon] at hst
      have hl := congrArg List.length hdat
      rw [List.length_map] at hl
      have hl2 := actD_len ds day k
      have hlm : rs'.length ≤ 2097152 := by omega
      have HST := Lib.hid hst
      have HRI := Lib.hid hri
      have HO := Lib.hid hown
      have HN := Lib.hid hinn
      have HW := Lib.hid hbw
      have HD := Lib.hid hdat
      clear hr hr2 hrs hrk hri hown hinn hbw hdat hst hon hl hl2 ka
      obtain ⟨hd, fr, tt, rk, Ai, ni, ci, ifs⟩ := r
      dsimp only at hc0 hc1 hc2 hc3 hc4 HRI
      cases ho : onB ⟨hd, ifs, fr, tt, rk⟩ day
      · have hs2 := Lib.hid (show actD ds day (k + 1) = actD ds day k by rw [HST.out]; simp [Ru.dat, ho])
        go_wp2_with (go_at_call 37; refine (l05On_is _ ⟨hd, fr, tt, rk, Ai, ni, ci, ifs⟩ _ _ ⟨hc0, hc1, hc2, hc3, hc4⟩ ho).mono ?_; rintro e w3 ⟨rfl, rfl⟩)
        go_roundw
        case rel => exact ⟨k + 1, by omega, by go_num, ⟨rs', HO.out, HN.out, by rw [HD.out, hs2.out]⟩, HW.out⟩
        case measure => simp [intOf]; omega
      · have hs2 := Lib.hid (show actD ds day (k + 1) = actD ds day k ++ [⟨hd, ifs, fr, tt, rk⟩] by rw [HST.out]; simp [Ru.dat, ho])
        go_wp2_with (first | (go_at_call 37; refine (l05On_is _ ⟨hd, fr, tt, rk, Ai, ni, ci, ifs⟩ _ _ ⟨hc0, hc1, hc2, hc3, hc4⟩ ho).mono ?_; rintro e w3 ⟨rfl, rfl⟩) | (at_builtin; refine append_flat rfl (.tmp 18) (.tmp 23) rfl w _ rs'.length (flat rs') rfl (World.ownsRow.alloc HO.out _) (HW.out.alloc HW.out.size _) wr.heap.size _ ⟨hd, fr, tt, rk, Ai, ni, ci, ifs⟩ rfl (cell_new5 _ ⟨hd, fr, tt, rk, Ai, ni, ci, ifs⟩ _) hlm ?_; intro v' w' ho2 hb2 hg2))
        go_roundw
        case rel =>
          have hx : Below w.heap.size wr w' := ⟨hb2.os.trans HW.out.os.symm, hb2.tape.trans HW.out.tape.symm, hb2.output.trans HW.out.output.symm, by have := hg2.size; simp at this; omega, fun q hq => (hb2.block q hq).trans (HW.out.block q hq).symm⟩
          refine ⟨k + 1, by omega, by go_num, ⟨rs' ++ [⟨hd, fr, tt, rk, Ai, ni, ci, ifs⟩], by rw [flat_snoc, List.length_append]; exact ho2, fun a ha => ?_, by rw [List.map_append, HD.out, hs2.out]; rfl⟩, hb2⟩
          rcases List.mem_append.1 ha with h | h
          · exact (HN.out a h).keep fun p hp => hx.cell hp
          · rw [List.mem_singleton.1 h]; exact HRI.out.keep fun p hp => hx.cell hp
        case measure => simp [intOf]; omega
    · obtain rfl : m = k := by omega
      obtain ⟨A', c', rfl, _⟩ := own_form hown
      clear hr
      go_wp2_with fail
      go_ret
      exact ⟨_, _, _, rfl, ⟨rs', ⟨Rd.of_own hown, fun r h => (hinn r h).more hbw.size⟩, hdat⟩, hbw⟩
end Go.Proofs.Ytinocfehjdlohaa
