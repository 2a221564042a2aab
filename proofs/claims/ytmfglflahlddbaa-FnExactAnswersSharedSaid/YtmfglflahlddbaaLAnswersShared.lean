/-
  THE LAW FnExactAnswersShared: for every input the program's AnswersShared returns what the reference's returns, and changes no argument; the workers that it starts have all been heard. Conditions: none.
-/
import Derived.Test.YtmfglflahlddbaaSlA
import Derived.Test.YtmfglflahlddbaaFrame
import Derived.Conc.LeavingOf
namespace Go.Proofs.Ytmfglflahlddbaa
open Go.ChangeShapes Go.WideShapes Go.ChangeAt Go.RowKit Go.Conc Sm
set_option linter.unusedVariables false
theorem shape_cells {W : World} {b : Nat} {x : TypeId × Nat} (h : W.shape? b = some x) : ∃ c el fz, W.heap[b]? = some (.cells c el fz) := by
  unfold World.shape? at h
  cases ho : W.heap[b]? with
  | none => rw [ho] at h; cases h
  | some o => rw [ho] at h; cases o <;> first | (cases h; done) | exact ⟨_, _, _, rfl⟩
theorem slice_block {P : Program} {W : World} {r : Reach} {base : Nat} {t e : TypeId} {A : Option Addr} {n c : Nat} (ht : P.underlying t = some (.slice e)) (h : Value.okWide P W r base t (.slice A n c)) : ∀ a, A = some a → a.spot = none ∧ Kc W a.block := by
  rintro a rfl
  simp only [Value.okWide, ht, Cell.okWide, Cell.ok, World.has] at h
  obtain ⟨_, _, _, h1, row, cells, h2, _⟩ := h
  exact ⟨h1, shape_cells h2⟩
set_option maxRecDepth 100000 in
theorem lawAnswersShared_lifted (os : Os) (started : os.Started) (H : Type) (enc : TypeId × Value → H) :
    ReturnsInLeavingWide {} Try.checked os 3 .any (Rows.fnExactAnswersSharedSpec.pre6 enc Try.prog Try.f3 Rows.fnExactAnswersSharedRow.domain false) (Rows.fnExactAnswersSharedSpec.post enc Try.prog Try.f3 false true false false) := by
  refine returnsInLeavingWide_of_change_sized (C := Try.checked) own_knob started Try.func3
    (ChangeSpec.witness6 (enc := enc) (C := Try.checked) false ⟨#[], #[.slice none 0 0, .slice none 0 0, .int .i64 0, .int .i64 0], []⟩ 8 (by kernel_rfl) (by kernel_rfl) (by kernel_rfl) (by kernel_rfl)) ?_
  intro W base args ds gs before hval0 hW hcnd _ _
  have hval : ∀ (j : Nat) t v, Try.f3.params[j]? = some t → args[j]? = some v → Value.okWide Try.prog W .any base t v := hval0
  have hW' := hW
  obtain ⟨p, q, hA0, hV, rfl, hfz, hnd⟩ := hW
  have hA : DataW.TrodAll enc Try.prog W 0 (fun _ => true) true Try.f3.params.toList args.toList ds p := hA0
  rw [Try.params3] at hA hval
  obtain ⟨v0, vs0, d0, ds0, p0, q0, hargs, rfl, rfl, h0, u0⟩ := trodAll_cons hA
  obtain ⟨v1, vs1, d1, ds1, p1, q1, rfl, rfl, rfl, h1, u1⟩ := trodAll_cons u0
  obtain ⟨v2, vs2, d2, ds2, p2, q2, rfl, rfl, rfl, h2, u2⟩ := trodAll_cons u1
  obtain ⟨v3, vs3, d3, ds3, p3, q3, rfl, rfl, rfl, h3, u3⟩ := trodAll_cons u2
  obtain ⟨rfl, rfl, rfl⟩ := trodAll_nil u3
  obtain rfl : args = #[v0, v1, v2, v3] := by cases args; simp_all
  have hv0 := hval 0 22 v0 rfl rfl
  have hv1 := hval 1 23 v1 rfl rfl
  obtain ⟨A0, n0, c0, rs0, hrs0⟩ := open_rd_rulesG Try.underlying22 Try.underlying40 (by kernel_rfl) rfl rfl rfl rfl rfl (by kernel_rfl) (by kernel_rfl) (by kernel_rfl) (by kernel_rfl) (by kernel_rfl) Try.underlying2 Try.underlying26 Try.underlying2 Try.underlying2 Try.underlying2 Try.underlying2 (by kernel_rfl) hv0 h0
  obtain ⟨e0, R0, B0, m0, S0⟩ := hrs0
  obtain ⟨_, _, B0', _⟩ := open_rs (enc := enc) ⟨e0, R0, B0, m0⟩
  subst e0
  obtain ⟨A1, n1, c1, ws1, rfl, R1, B1, m1⟩ := open_rd_manyG Try.underlying23 Try.underlying26 (by kernel_rfl) Try.underlying2 (by kernel_rfl) hv1 h1
  obtain ⟨z2, rfl, rfl, rfl, b2'⟩ := open_int Try.underlying2 (hval 2 2 v2 rfl rfl) h2
  obtain ⟨z3, rfl, rfl, rfl, b3'⟩ := open_int Try.underlying2 (hval 3 2 v3 rfl rfl) h3
  have b2 := i64_bounds b2'
  clear hA0 hval0
  obtain ⟨M, last, o, w', t', e1, e2, e3, e4⟩ := l1_run A0 n0 c0 (rs0.map Ru.dat) A1 n1 c1 (ws1.map Rw.zs) z2 z3 W (pal_rules R0 S0) (pal_many R1 fun r hr => (B1 r hr).2.2)
    ⟨m0, m1, B0', fun zs hz => by obtain ⟨r, hr, rfl⟩ := List.mem_map.1 hz; exact (B1 r hr).1, fun zs hz => by obtain ⟨r, hr, rfl⟩ := List.mem_map.1 hz; rw [← R1.nlen r hr]; exact (B1 r hr).2.1, b2⟩
    (slice_block Try.underlying22 hv0) (slice_block Try.underlying23 hv1)
  refine ⟨M, last, o, w', t', e1, e2, e3, e4.mono fun v hp => ?_⟩
  obtain ⟨rfl, hb⟩ := hp
  exact post_true 4 Try.underlying4 (by kernel_rfl) laid_out (by kernel_rfl) rfl rfl hW' hb
theorem lawAnswersShared_over : Rows.fnExactAnswersSharedRow.holds Try.pinned (OpenSpec.ofChange Rows.fnExactAnswersSharedSpec) :=
  OpenClaim.holds_of_wide_leaving 3 Try.f3 rfl rfl rfl rfl rfl rfl rfl ⟨rfl, rfl, rfl, rfl, rfl⟩ rfl rfl rfl rfl rfl (by kernel_rfl) Try.func3 (by kernel_rfl)
    (of_decide_eq_true (by kernel_rfl)) (by unfold Func.isWrapper; first | (rw [if_pos (by decide +kernel)]; kernel_rfl) | (rw [if_neg (by decide +kernel)]; exact ⟨rfl, rfl⟩))
    (fun os started H enc _ => lawAnswersShared_lifted os started H enc)
theorem lawAnswersShared_proved : Rows.FnExactAnswersSharedSaid := lawAnswersShared_over
#print axioms lawAnswersShared_proved
end Go.Proofs.Ytmfglflahlddbaa

