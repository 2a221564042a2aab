/-
  shared$1: the worker's script, from the head of its loop and from its entry.
-/
import Derived.Test.YtneclhkpgalnlaaShB
namespace Go.Proofs.Ytneclhkpgalnlaa
open Go.ChangeShapes Go.WideShapes Go.ChangeAt Go.RowKit Sm Go.Conc
set_option linter.unusedVariables false
noncomputable def wLd : Oper := match (opsOf wR4)[0]? with | some o => o | none => default
noncomputable def wSn : Oper := match (opsOf wR4)[1]? with | some o => o | none => default
theorem w_sn : (opsOf wR4)[1]? = some wSn := by kernel_rfl
theorem w_snOp : wSn.op = .send (.tmp 24) (.const (.bool true)) := by kernel_rfl
theorem w_snG : wSn.guard = none := by kernel_rfl
theorem w_snD : wSn.dst = none := by kernel_rfl
theorem w_size4 : (opsOf wR4).size = 2 := by kernel_rfl
theorem w_load {K : Act → World → Prop} (x0 x1 x2 x3 x4 x6 x7 x8 x9 x10 x11 x12 x13 x14 x15 x16 x17 x18 x19 x20 x21 x22 x23 x24 : Value) (a5 : Addr) (c : Nat) (w : World) (hc : w.cell? a5 = some (.chan (some c)))
    (hK : K ⟨#[x0, x1, x2, x3, x4, .pointer (some a5), x6, x7, x8, x9, x10, x11, x12, x13, x14, x15, x16, x17, x18, x19, x20, x21, x22, x23, .chan (some c)], []⟩ w) :
    wpOps Try.prog (opsOf wR4) (QN K) [0] ⟨#[x0, x1, x2, x3, x4, .pointer (some a5), x6, x7, x8, x9, x10, x11, x12, x13, x14, x15, x16, x17, x18, x19, x20, x21, x22, x23, x24], []⟩ w := by
  unfold wR4 wAll Try.f29
  dsimp only [opsOf]
  go_wp2_with fail
  refine Or.inl ?_
  go_simp
  exact ⟨rfl, hK⟩

section
variable {a1 a2 a3 a4 a5 ac : Addr} {A R : Option Addr} {ln lc co n bO bC rn rc : Nat} {zs rs : List Int}

/-- The worker's end: it stands at its send. -/
theorem w_end {w1 : World} {Ch : Nat → Prop} (hCh : ∀ b, Ch b → ∃ o, w1.heap[b]? = some o ∧ ¬ IsMap o) (e : Nat) (x0 x7 x8 x9 x10 x11 x12 x13 x14 x15 x16 x17 x18 x19 x20 x21 x22 x23 x24 : Value) (w : World) (ho : OldSame w1 w) (hF : WkF w a1 a2 a3 a4 a5 ac A ln lc co n zs bO bC R rn rc rs) (hle : ln ≤ e) :
    Seg Try.prog Ch (fun fr up v => up = [] ∧ SendOp Try.prog bC fr) (WHead a1 a2 a3 a4 a5 e x0 x7 x8 x9 x10 x11 x12 x13 x14 x15 x16 x17 x18 x19 x20 x21 x22 x23 x24) [] w := by
  intro T d
  obtain ⟨v, hv⟩ : ∃ v, v = Sm.rt w T d := ⟨_, rfl⟩
  rw [← hv]
  have hov : OldSame w v := OldSame.heap (by rw [hv]; rfl)
  have hFv := hF.old hov
  obtain ⟨t1, v1, ⟨y8, y9, y10, y11, rfl, ho1⟩, hs1⟩ := wp_steps_exit (P := Try.prog) (K := fun a v1 => ∃ y8 y9 y10 y11, a = ⟨#[x0, .pointer (some a1), .pointer (some a2), .pointer (some a3), .pointer (some a4), .pointer (some a5), .int .i64 e, x7, y8, y9, y10, y11, x12, x13, x14, x15, x16, x17, x18, x19, x20, x21, x22, x23, x24], []⟩ ∧ OldSame v v1)
    (w_stop x0 (.pointer (some a2)) (.pointer (some a3)) (.pointer (some a4)) (.pointer (some a5)) x7 x8 x9 x10 x11 x12 x13 x14 x15 x16 x17 x18 x19 x20 x21 x22 x23 x24 e a1 A ln lc v hFv.h1 (by omega) (fun y8 y9 y10 y11 => ⟨y8, y9, y10, y11, rfl, OldSame.refl _⟩)) (B 29 .deferred) (k := [.code (.seq (.block 1 wR3) wR2), .inLoop wLB, .inBlock 0, .code wR4]) (k' := [.code wR4]) rfl [trap]
  have hF1 := hFv.old ho1
  obtain ⟨t2, v2, ⟨z, hz1, hz2, ho2⟩, hs2⟩ := ops_more (P := Try.prog) (ops := opsOf wR4) (ops2 := opsOf wR4) (K := fun a v2 => ∃ t : Array Value, a = ⟨t, []⟩ ∧ t.getD 24 undef = .chan (some bC) ∧ OldSame v1 v2) (fun _ => rfl) [0] _ v1 (fun _ _ => rfl)
    (w_load _ _ _ _ _ _ _ y8 y9 y10 y11 x12 x13 x14 x15 x16 x17 x18 x19 x20 x21 x22 x23 x24 a5 bC v1 hF1.h5 ⟨_, rfl, rfl, OldSame.refl _⟩) (B 29 .deferred) [1] [] [trap]
  subst hz1
  refine ⟨(B 29 .deferred).at ⟨z, []⟩ [.inRegion (opsOf wR4) [1]], [], v2, ?_, ⟨rfl, .inl rfl⟩, ⟨rfl, ?_⟩, ?_⟩
  · unfold WHead
    rw [w_loop]
    refine .head step_seq (Steps.trans hs1 ?_)
    rw [show wR4 = .region 4 (opsOf wR4) false from w_r4]
    refine .head step_region ?_
    have hr : List.range (opsOf wR4).size = [0] ++ [1] := by rw [w_size4]; rfl
    rw [hr]
    exact hs2
  · exact ⟨_, _, _, _, _, _, _, _, _, rfl, w_sn, w_snG, w_snD, w_snOp, hz2, 4, fun t' => w_quits t' _⟩
  · intro b o hb hget
    obtain ⟨o1, h1, h2⟩ := hCh b hb
    have := (((ho.trans hov).trans ho1).trans ho2).get h1
    rw [this] at hget
    cases hget; exact h2

/-- ████ THE WORKER'S SCRIPT, FROM ITS LOOP's HEAD ████ -/
theorem w_seg {w1 : World} {Ch : Nat → Prop} (hCh : ∀ b, Ch b → ∃ o, w1.heap[b]? = some o ∧ ¬ IsMap o) (hn : 1 ≤ n ∧ n ≤ 8) (hl : ln ≤ 60) (hrn : rn ≤ 60) (hrs : RateIs rs) (hzs : ∀ i, i < ln → 0 ≤ zs[i]?.getD 0 ∧ zs[i]?.getD 0 ≤ 1000000000) (hF0 : WkF w1 a1 a2 a3 a4 a5 ac A ln lc co n zs bO bC R rn rc rs) :
    ∀ (r e : Nat) (x0 x7 x8 x9 x10 x11 x12 x13 x14 x15 x16 x17 x18 x19 x20 x21 x22 x23 x24 : Value) (w : World), OldSame w1 w → ln < e + r →
      Seg Try.prog Ch (WStop Try.prog Ch bO bC n ln (fun i => safeR (zs[i]?.getD 0) rs) r e) (WHead a1 a2 a3 a4 a5 e x0 x7 x8 x9 x10 x11 x12 x13 x14 x15 x16 x17 x18 x19 x20 x21 x22 x23 x24) [] w := by
  intro r
  induction r with
  | zero =>
    intro e x0 x7 x8 x9 x10 x11 x12 x13 x14 x15 x16 x17 x18 x19 x20 x21 x22 x23 x24 w ho hlt T d
    obtain ⟨frS, upS, vS, h1, h2, ⟨h3, h4⟩, h5⟩ := w_end hCh e x0 x7 x8 x9 x10 x11 x12 x13 x14 x15 x16 x17 x18 x19 x20 x21 x22 x23 x24 w ho (hF0.old ho) (by omega) T d
    exact ⟨frS, upS, vS, h1, h2, ⟨h3, by omega, h4⟩, h5⟩
  | succ r ih =>
    intro e x0 x7 x8 x9 x10 x11 x12 x13 x14 x15 x16 x17 x18 x19 x20 x21 x22 x23 x24 w ho hlt T d
    by_cases hle : ln ≤ e
    · obtain ⟨frS, upS, vS, h1, h2, ⟨h3, h4⟩, h5⟩ := w_end hCh e x0 x7 x8 x9 x10 x11 x12 x13 x14 x15 x16 x17 x18 x19 x20 x21 x22 x23 x24 w ho (hF0.old ho) hle T d
      exact ⟨frS, upS, vS, h1, h2, ⟨h3, .inl ⟨hle, h4⟩⟩, h5⟩
    obtain ⟨v, hv⟩ : ∃ v, v = Sm.rt w T d := ⟨_, rfl⟩
    rw [← hv]
    have hov : OldSame w1 v := ho.trans (OldSame.heap (by rw [hv]; rfl))
    have hFv := hF0.old hov
    obtain ⟨t1, v1, ⟨y8, y9, y10, y11, rfl, ho1⟩, hs1⟩ := wp_steps (P := Try.prog) (K := fun a v1 => ∃ y8 y9 y10 y11, a = ⟨#[x0, .pointer (some a1), .pointer (some a2), .pointer (some a3), .pointer (some a4), .pointer (some a5), .int .i64 e, x7, y8, y9, y10, y11, x12, x13, x14, x15, x16, x17, x18, x19, x20, x21, x22, x23, x24], []⟩ ∧ OldSame v v1)
      (w_more x0 (.pointer (some a2)) (.pointer (some a3)) (.pointer (some a4)) (.pointer (some a5)) x7 x8 x9 x10 x11 x12 x13 x14 x15 x16 x17 x18 x19 x20 x21 x22 x23 x24 e a1 A ln lc v hFv.h1 (by omega) (fun y8 y9 y10 y11 => ⟨y8, y9, y10, y11, rfl, OldSame.refl _⟩)) (B 29 .deferred) [.code (.seq (.block 1 wR3) wR2), .inLoop wLB, .inBlock 0, .code wR4] [trap]
    have ho1' := hov.trans ho1
    have hF1 := hF0.old ho1'
    obtain ⟨ad, hA, hz⟩ := hF1.hL.int (k := e) (by omega)
    have hb := hzs e (by omega)
    obtain ⟨t2, v2, ⟨y15, y16, y17, y18, y19, y20, y21, rfl, ho2⟩, hs2⟩ := w_round (K := fun a v2 => ∃ y15 y16 y17 y18 y19 y20 y21, a = ⟨#[x0, .pointer (some a1), .pointer (some a2), .pointer (some a3), .pointer (some a4), .pointer (some a5), .int .i64 e, x7, y8, y9, y10, y11, x12, x13, x14, y15, y16, y17, y18, y19, y20, y21, .int .i64 (safeR (zs[e]?.getD 0) rs), .pointer (some ⟨bO, e, none⟩), x24], []⟩ ∧ OldSame v1 v2)
      (a := ⟨#[x0, .pointer (some a1), .pointer (some a2), .pointer (some a3), .pointer (some a4), .pointer (some a5), .int .i64 e, x7, y8, y9, y10, y11, x12, x13, x14, x15, x16, x17, x18, x19, x20, x21, x22, x23, x24], []⟩) (w := v1)
      (w_result x0 (.pointer (some a2)) (.pointer (some a5)) x7 y8 y9 y10 y11 x12 x13 x14 x15 x16 x17 x18 x19 x20 x21 x22 x23 x24 e a1 a3 a4 ac ad A bO ln lc co _ (safeR (zs[e]?.getD 0) rs) { v1 with drawn := v1.drawn + 1 } hA (by omega) hF1.h1 hF1.h3 hF1.h4 hz (by omega)
        (fun w' hw' => by
          have hw1 : OldSame v1 w' := (OldSame.heap rfl : OldSame v1 { v1 with drawn := v1.drawn + 1 }).trans hw'
          have hF2 := hF1.old hw1
          exact how_any _ ac R rn rc rs w' hb hF2.hr hF2.hR hrn hrs)
        (fun w' y15 y16 y17 y18 y19 y20 y21 hw' => ⟨y15, y16, y17, y18, y19, y20, y21, rfl, (OldSame.heap rfl : OldSame v1 { v1 with drawn := v1.drawn + 1 }).trans hw'⟩)) (B 29 .deferred) [.inBlock 1, .code wR2, .inLoop wLB, .inBlock 0, .code wR4] [trap]
    have ho2' := ho1'.trans ho2
    refine ⟨(B 29 .deferred).at ⟨#[x0, .pointer (some a1), .pointer (some a2), .pointer (some a3), .pointer (some a4), .pointer (some a5), .int .i64 e, x7, y8, y9, y10, y11, x12, x13, x14, y15, y16, y17, y18, y19, y20, y21, .int .i64 (safeR (zs[e]?.getD 0) rs), .pointer (some ⟨bO, e, none⟩), x24], []⟩ (.inRegion (opsOf wR3) [9] :: [.inBlock 1, .code wR2, .inLoop wLB, .inBlock 0, .code wR4]), [], v2, ?_, ⟨rfl, .inl rfl⟩, ⟨rfl, .inr ⟨by omega, (B 29 .deferred).at ⟨#[x0, .pointer (some a1), .pointer (some a2), .pointer (some a3), .pointer (some a4), .pointer (some a5), .int .i64 e, x7, y8, y9, y10, y11, x12, x13, x14, y15, y16, y17, y18, y19, y20, y21, .int .i64 (safeR (zs[e]?.getD 0) rs), .pointer (some ⟨bO, e, none⟩), x24], []⟩ (.inRegion (opsOf wR3) [] :: [.inBlock 1, .code wR2, .inLoop wLB, .inBlock 0, .code wR4]), ?_, ?_⟩⟩, ?_⟩
    rotate_left 1
    · refine ⟨_, wSt, fun x => (B 29 .deferred).at ⟨#[x0, .pointer (some a1), .pointer (some a2), .pointer (some a3), .pointer (some a4), .pointer (some a5), .int .i64 e, x7, y8, y9, y10, y11, x12, x13, x14, y15, y16, y17, y18, y19, y20, y21, .int .i64 (safeR (zs[e]?.getD 0) rs), .pointer (some ⟨bO, e, none⟩), x24], []⟩ (.inRegion (opsOf wR3) [] :: [.inBlock 1, .code wR2, .inLoop wLB, .inBlock 0, .code wR4]), 2, 23, 22, ⟨_, _, _, _, _, _, rfl, w_st, w_stG, fun x => ?_⟩, w_stOp, rfl, rfl, one_int, rfl⟩
      rw [w_stD]; rfl
    · refine Seg.of_steps fun T d => ?_
      obtain ⟨u, hu⟩ : ∃ u, u = Sm.rt v2 T d := ⟨_, rfl⟩
      rw [← hu]
      have hou : OldSame v2 u := OldSame.heap (by rw [hu]; rfl)
      have hFu := hF0.old (ho2'.trans hou)
      obtain ⟨t3, v3, ⟨y12, y13, y14, rfl, ho3⟩, hs3⟩ := wp_steps (P := Try.prog) (K := fun a v3 => ∃ y12 y13 y14, a = ⟨#[x0, .pointer (some a1), .pointer (some a2), .pointer (some a3), .pointer (some a4), .pointer (some a5), .int .i64 ((e : Int) + n), x7, y8, y9, y10, y11, y12, y13, y14, y15, y16, y17, y18, y19, y20, y21, .int .i64 (safeR (zs[e]?.getD 0) rs), .pointer (some ⟨bO, e, none⟩), x24], []⟩ ∧ OldSame u v3)
        (w_step x0 (.pointer (some a1)) (.pointer (some a2)) (.pointer (some a3)) (.pointer (some a4)) (.pointer (some a5)) x7 y8 y9 y10 y11 x12 x13 x14 y15 y16 y17 y18 y19 y20 y21 _ _ x24 e n a2 u rfl hFu.h2 (by omega) (by omega) (fun y12 y13 y14 => ⟨y12, y13, y14, rfl, OldSame.refl _⟩)) (B 29 .deferred) [.inLoop wLB, .inBlock 0, .code wR4] [trap]
      refine ⟨_, [], v3, ?_, ih (e + n) x0 x7 y8 y9 y10 y11 y12 y13 y14 y15 y16 y17 y18 y19 y20 y21 (.int .i64 (safeR (zs[e]?.getD 0) rs)) (.pointer (some ⟨bO, e, none⟩)) x24 v3 ((ho2'.trans hou).trans ho3) (by omega)⟩
      refine .head step_region_end (.head step_inBlock (Steps.trans hs3 (.one ?_)))
      unfold WHead
      rw [show ((e : Int) + (n : Int)) = ((e + n : Nat) : Int) from by omega]
      exact step_inLoop
    · intro b o hb hget
      obtain ⟨o1, h1, h2⟩ := hCh b hb
      have := ho2'.get h1
      rw [this] at hget
      cases hget; exact h2
    · unfold WHead
      rw [w_loop]
      refine .head step_seq (Steps.trans hs1 (.head step_seq (.head step_block hs2)))

theorem enter_eq {P : Program} {f : FuncId} {fn : Func} {c : Code} {k : Nat} (h1 : P.funcs[f]? = some fn) (h2 : fn.ntmps = k) (h3 : fn.body = some c) (args : Array Value) (kind : CallKind) : Frame.enter P f args kind = (B f kind).at ⟨args ++ Array.replicate (k - args.size) undef, []⟩ [.code c] := by
  subst h2
  unfold Frame.enter
  simp only [h1, Option.map_some, Option.getD_some, Option.bind_some, h3]
  rfl
theorem w_enter (p0 p1 p2 p3 p4 p5 : Value) : Frame.enter Try.prog 29 #[p0, p1, p2, p3, p4, p5] .deferred =
    (B 29 .deferred).at ⟨#[p0, p1, p2, p3, p4, p5, undef, undef, undef, undef, undef, undef, undef, undef, undef, undef, undef, undef, undef, undef, undef, undef, undef, undef, undef], []⟩ [.code (.seq (.seq wR0 (.block 0 (.loop wLB))) wR4)] := by
  have h1 : Try.prog.funcs[29]? = some Try.f29 := by kernel_rfl
  have h2 : Try.f29.ntmps = 25 := by kernel_rfl
  have e : #[p0, p1, p2, p3, p4, p5] ++ Array.replicate (25 - #[p0, p1, p2, p3, p4, p5].size) undef = #[p0, p1, p2, p3, p4, p5, undef, undef, undef, undef, undef, undef, undef, undef, undef, undef, undef, undef, undef, undef, undef, undef, undef, undef, undef] := by
    apply Array.ext'
    simp [List.replicate]
  rw [enter_eq h1 h2 w_body, e]

/-- ████ .. FROM ITS ENTRY ████ -/
theorem w_entry {w1 : World} {Ch : Nat → Prop} (hCh : ∀ b, Ch b → ∃ o, w1.heap[b]? = some o ∧ ¬ IsMap o) (hn : 1 ≤ n ∧ n ≤ 8) (hl : ln ≤ 60) (hrn : rn ≤ 60) (hrs : RateIs rs) (hzs : ∀ i, i < ln → 0 ≤ zs[i]?.getD 0 ∧ zs[i]?.getD 0 ≤ 1000000000) (hF0 : WkF w1 a1 a2 a3 a4 a5 ac A ln lc co n zs bO bC R rn rc rs)
    (a0 : Addr) (k : Nat) (hk : w1.cell? a0 = some (.int .i64 k)) :
    Seg Try.prog Ch (WStop Try.prog Ch bO bC n ln (fun i => safeR (zs[i]?.getD 0) rs) (ln + 1) k) (Frame.enter Try.prog 29 #[.pointer (some a0), .pointer (some a1), .pointer (some a2), .pointer (some a3), .pointer (some a4), .pointer (some a5)] .deferred) [] w1 := by
  refine Seg.of_steps fun T d => ?_
  obtain ⟨v, hv⟩ : ∃ v, v = Sm.rt w1 T d := ⟨_, rfl⟩
  rw [← hv]
  have hov : OldSame w1 v := OldSame.heap (by rw [hv]; rfl)
  obtain ⟨t1, v1, ⟨y7, rfl, ho1⟩, hs1⟩ := wp_steps (P := Try.prog) (K := fun a v1 => ∃ y7, a = ⟨#[.pointer (some a0), .pointer (some a1), .pointer (some a2), .pointer (some a3), .pointer (some a4), .pointer (some a5), .int .i64 k, y7, undef, undef, undef, undef, undef, undef, undef, undef, undef, undef, undef, undef, undef, undef, undef, undef, undef], []⟩ ∧ OldSame v v1)
    (w_first (.pointer (some a1)) (.pointer (some a2)) (.pointer (some a3)) (.pointer (some a4)) (.pointer (some a5)) undef undef undef undef undef undef undef undef undef undef undef undef undef undef undef undef undef undef undef k a0 v (hov.cell hk) (fun y7 => ⟨y7, rfl, OldSame.refl _⟩)) (B 29 .deferred) [.code (.block 0 (.loop wLB)), .code wR4] [trap]
  refine ⟨_, [], v1, ?_, w_seg hCh hn hl hrn hrs hzs hF0 (ln + 1) k (.pointer (some a0)) y7 undef undef undef undef undef undef undef undef undef undef undef undef undef undef undef undef undef v1 (hov.trans ho1) (by omega)⟩
  rw [w_enter]
  refine .head step_seq (.head step_seq (Steps.trans hs1 (.head step_block (.one ?_))))
  exact step_loop
end
end Go.Proofs.Ytneclhkpgalnlaa
