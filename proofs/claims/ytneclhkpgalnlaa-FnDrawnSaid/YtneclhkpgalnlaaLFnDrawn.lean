/-
  THE LAW FnDrawn: the steady draw that the workers find lasts all years and one more does not. Conditions: none.
-/
import Derived.Test.YtneclhkpgalnlaaFdZb
import Derived.Test.YtneclhkpgalnlaaLDrawsShared
namespace Go.Proofs.Ytneclhkpgalnlaa
open Go.ChangeShapes Go.WideShapes Go.ChangeAt Go.RowKit Go.Conc
set_option linter.unusedVariables false
section
variable {H : Type} {enc : TypeId × Value → H} {P : Program} {W : World}
theorem open_rd_byts {t e : TypeId} {v : Value} {d : DataW H} {p : List MemPlace} {base : Nat} (ht : P.underlying t = some (.slice e)) (he : P.underlying e = some (.int .u8)) (hc : P.cellsOf e = 1)
    (hv : Value.okWide P W .any base t v) (h : DataW.Trod enc P W 0 (fun _ => true) true t v d p) :
    ∃ A n c zs, v = .slice A n c ∧ n ≤ maxLen ∧ Rd W W.heap.size 1 A n (byts zs) ∧ Byt zs := by
  obtain ⟨A, n, c, rfl⟩ := okWide_slice ht hv
  obtain ⟨fuel, hf⟩ := h
  refine ⟨A, n, c, ?_⟩
  rcases open_ints ht he hc hf with ⟨hcs, _⟩ | ⟨a, len, cap, zs, hcs, _, hl, hm, hz, _, hcell, hwz⟩
  · simp [Value.cells] at hcs
    obtain ⟨rfl, rfl, rfl⟩ := hcs
    exact ⟨[], rfl, by unfold maxLen; omega, Rd.nil_, fun z hz => by cases hz⟩
  · simp [Value.cells] at hcs
    obtain ⟨rfl, rfl, rfl⟩ := hcs
    simp only [if_true] at hz
    refine ⟨zs.take n, rfl, by omega, ⟨by simp [byts]; omega, fun hn => ⟨a, rfl, ?_, fun j u hu => ?_⟩⟩, fun z h => by
      have := hwz z (List.mem_of_mem_take h)
      simpa [Lit.wf, IntKind.min, IntKind.max, IntKind.signed, IntKind.bits] using this⟩
    · have h0 := block_lt_of_cell (hcell 0 (by omega))
      rwa [add_block] at h0
    · unfold byts at hu
      rw [List.getElem?_map, List.getElem?_take] at hu
      split at hu
      · rename_i hj
        rw [hcell j (by omega), ← hu]
        simp [List.getD, List.getElem?_eq_getElem (show j < zs.length by omega)]
      · cases hu
end
theorem cells_u8 : Try.prog.cellsOf 5 = 1 := by kernel_rfl
set_option maxRecDepth 100000 in
theorem lawFnDrawn_lifted (os : Os) (started : os.Started) (H : Type) (enc : TypeId × Value → H) :
    ReturnsInLeavingWide {} Try.checked os 4 .any (Rows.fnDrawnSpec.pre6 enc Try.prog Try.f4 Rows.fnDrawnRow.domain false) (Rows.fnDrawnSpec.post enc Try.prog Try.f4 false true false false) := by
  refine returnsInLeavingWide_of_change_sized (C := Try.checked) own_knob started Try.func4
    (ChangeSpec.witness6 (enc := enc) (C := Try.checked) false ⟨#[], #[.slice none 0 0, .slice none 0 0], []⟩ 8 (by kernel_rfl) (by kernel_rfl) (by kernel_rfl) (by kernel_rfl)) ?_
  intro W base args ds gs before hval0 hW hcnd _ _
  have hval : ∀ (j : Nat) t v, Try.f4.params[j]? = some t → args[j]? = some v → Value.okWide Try.prog W .any base t v := hval0
  have hW' := hW
  obtain ⟨p, q, hA0, hV, rfl, hfz, hnd⟩ := hW
  have hA : DataW.TrodAll enc Try.prog W 0 (fun _ => true) true Try.f4.params.toList args.toList ds p := hA0
  rw [Try.params4] at hA hval
  obtain ⟨v0, vs0, d0, ds0, p0, q0, hargs, rfl, rfl, h0, u0⟩ := trodAll_cons hA
  obtain ⟨v1, vs1, d1, ds1, p1, q1, rfl, rfl, rfl, h1, u1⟩ := trodAll_cons u0
  obtain ⟨rfl, rfl, rfl⟩ := trodAll_nil u1
  obtain rfl : args = #[v0, v1] := by cases args; simp_all
  have hv0 := hval 0 29 v0 rfl rfl
  have hv1 := hval 1 29 v1 rfl rfl
  obtain ⟨A0, n0, c0, z0, rfl, k0, r0, b0⟩ := open_rd_byts Try.underlying29 Try.underlying5 cells_u8 hv0 h0
  obtain ⟨A1, n1, c1, z1, rfl, k1, r1, b1⟩ := open_rd_byts Try.underlying29 Try.underlying5 cells_u8 hv1 h1
  clear hA0 hval0
  obtain ⟨M, last, o, w', t', e1, e2, e3, e4⟩ := m1_run A0 n0 c0 z0 A1 n1 c1 z1 W (by unfold maxLen at k0; omega) (by unfold maxLen at k1; omega) r0 r1 b0 b1 (slice_block Try.underlying29 hv0) (slice_block Try.underlying29 hv1)
  refine ⟨M, last, o, w', t', e1, e2, e3, e4.mono fun v hp => ?_⟩
  obtain ⟨rfl, hb⟩ := hp
  exact post_true 4 Try.underlying4 (by kernel_rfl) laid_out (by kernel_rfl) rfl rfl hW' hb
theorem lawFnDrawn_over : Rows.fnDrawnRow.holds Try.pinned (OpenSpec.ofChange Rows.fnDrawnSpec) :=
  OpenClaim.holds_of_wide_leaving 4 Try.f4 rfl rfl rfl rfl rfl rfl rfl ⟨rfl, rfl, rfl, rfl, rfl⟩ rfl rfl rfl rfl rfl (by kernel_rfl) Try.func4 (by kernel_rfl)
    (of_decide_eq_true (by kernel_rfl)) (by unfold Func.isWrapper; first | (rw [if_pos (by decide +kernel)]; kernel_rfl) | (rw [if_neg (by decide +kernel)]; exact ⟨rfl, rfl⟩))
    (fun os started H enc _ => lawFnDrawn_lifted os started H enc)
theorem lawFnDrawn_proved : Rows.FnDrawnSaid := lawFnDrawn_over
#print axioms lawFnDrawn_proved
end Go.Proofs.Ytneclhkpgalnlaa

