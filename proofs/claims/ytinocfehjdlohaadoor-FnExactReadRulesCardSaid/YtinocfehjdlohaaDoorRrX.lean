/-
  ReadRules: the law's walk.
-/
import Derived.Test.YtinocfehjdlohaaDoorRrS
namespace Go.Proofs.YtinocfehjdlohaaDoor
open Go.ChangeShapes Go.WideShapes Go.ChangeAt Go.RowKit
set_option linter.unusedVariables false
set_option linter.unusedSimpArgs false

theorem rrs_small (l : List UInt8) : szD (ReadRules_r0 l) ≤ 200 := by
  unfold ReadRules_r0
  split
  · rename_i h
    unfold rrB at h
    simp only [Bool.and_eq_true] at h
    have h1 := sz_valid (rules_all' h.2.1)
    have h2 := rules_len' h.2.1
    omega
  · have := sz_valid (ds := []) rfl
    simp at this; omega
set_option maxRecDepth 100000 in
set_option maxHeartbeats 3200000 in
theorem lawReadRules_short (l : List UInt8) (W : World) (hw : RW W) (hl : l.length ≤ 1048576) :
    Calls Tryd.prog 6 #[.string (txB l)] W fun e w' => e = .returned (.bool true) ∧ Below W.heap.size W w' := by
  have HW := Lib.hid hw
  have hz : (txB l).size = l.length := txB_size l
  have i0 : ¬ (1048576 : Int) < l.length := by omega
  have hsm := rrs_small l
  obtain ⟨ds, hd⟩ : ∃ d, ReadRules_r0 l = d := ⟨_, rfl⟩
  obtain ⟨ok, hok⟩ : ∃ d, ReadRules_r1 l = d := ⟨_, rfl⟩
  have HS := Lib.hid (fun (w : World) => show Calls Tryd.prog 21 #[.string (txB l)] w (RsEnds w ds ok) by rw [← hd, ← hok]; exact spec_ReadRules l w hl)
  have HI := Lib.hid (fun (w : World) (hw : RW w) => show Calls Tryd.prog 22 #[.string (txB l)] w (RsEnds w ds ok) by rw [← hd, ← hok]; exact impl_ReadRules l w hl hw)
  rw [hd] at hsm
  have HSM := Lib.hid hsm
  clear hd hok hw hsm
  go_enter Tryd.func6, Tryd.ntmps6
  go_wp2_with fail
  refine (HS.out _).mono ?_
  rintro e w1 ⟨v0, rfl, o0, hB⟩
  obtain ⟨A0, c0, rfl⟩ := o0.form
  have S1 := Lib.hid hB.size
  go_wp2_with fail
  refine (HI.out _ (HW.out.on hB)).mono ?_
  rintro e w2 ⟨v1, rfl, o1, hb⟩
  obtain ⟨A1, c1, rfl⟩ := o1.form
  replace o0 := o0.on hb
  have S2 := Lib.hid hb.size
  replace hB := below_step hB hb
  clear hb
  go_wp2_with fail
  refine (eqRs_yes _ _ _ _ _ ds _ o1.rd o0.rd (by have := HSM.out; omega)).mono ?_
  rintro e w3 ⟨rfl, hb⟩
  replace o0 := o0.on hb
  replace o1 := o1.on hb
  replace hB := below_step hB hb
  have S3 := Lib.hid hb.size
  clear hb
  go_wp2_with fail
  refine (markRs_any _ _ _ _ _ ds _ o1 (by have := HSM.out; omega) (by omega) (by omega)).mono ?_
  rintro e w4 ⟨rfl, p, hO⟩
  clear o1
  replace o0 := o0.only hO (.inl (Nat.le_refl _))
  replace hB := below_only hB hO (by have := S1.out; omega)
  have S4 := Lib.hid hO.size
  clear hO
  go_wp2_with fail
  refine (heldRs_any _ _ _ _ _ _ ds _ p (by have := HSM.out; omega) (by omega) (by omega)).mono ?_
  rintro e w5 ⟨rfl, rfl⟩
  go_wp2_with fail
  refine (HI.out _ (HW.out.on hB)).mono ?_
  rintro e w6 ⟨v2, rfl, o2, hb⟩
  obtain ⟨A2, c2, rfl⟩ := o2.form
  replace o0 := o0.on hb
  replace p := p.on hb
  replace hB := below_step hB hb
  clear hb
  go_wp2_with fail
  refine (eqRs_yes _ _ _ _ _ ds _ o2.rd o0.rd (by have := HSM.out; omega)).mono ?_
  rintro e w7 ⟨rfl, hb⟩
  replace p := p.on hb
  replace hB := below_step hB hb
  clear hb o2 o0
  go_wp2_with fail
  refine (heldRs_any _ _ _ _ _ _ ds _ p (by have := HSM.out; omega) (by omega) (by omega)).mono ?_
  rintro e w8 ⟨rfl, rfl⟩
  go_wp2_with fail
  go_ret
  exact ⟨rfl, hB⟩
end Go.Proofs.YtinocfehjdlohaaDoor
