/-
  shared$1: the worker's script.
-/
import Derived.Test.YtmfglflahlddbaaSkZa
namespace Go.Proofs.Ytmfglflahlddbaa
open Go.ChangeShapes Go.WideShapes Go.ChangeAt Go.RowKit Sm Go.Conc
set_option linter.unusedVariables false

theorem w_quits (t : Array Value) (ops : Array Oper) : QuitsIn Try.prog 4 (G ((B 47 .deferred).at ⟨t, []⟩ [.inRegion ops []]) [Sm.base Try.prog]) := by
  refine .inr ⟨rfl, _, fun w => stepG_region_end, ?_⟩
  refine .inr ⟨rfl, _, fun w => stepG_end, ?_⟩
  refine .inr ⟨rfl, G (Sm.base Try.prog) [], fun w => ?_, ?_⟩
  · have hf : ∃ fn, Try.prog.funcs[47]? = some fn ∧ fn.results = #[] := ⟨_, rfl, by kernel_rfl⟩
    obtain ⟨fn, h1, h2⟩ := hf
    simp [G, stepG, unwind, doReturn, results, Frame.at, B, Sm.base, h1, h2, seen, GStep.after, goexitEntry]
  refine .inr ⟨rfl, { G (Sm.base Try.prog) [] with status := .finished }, fun w => ?_, rfl⟩
  simp [G, stepG, unwind, Sm.base, goexitEntry, Frame.catches]
  rfl

theorem _root_.Go.Proofs.Ytmfglflahlddbaa.Sm.OldSame.of_below {w w' : World} (h : Below w.heap.size w w') : OldSame w w' := ⟨h.size, h.block⟩

noncomputable def fA (ds : List Rl) (zss : List (List Int)) (day : Int) (i : Nat) : Int := ansN ds (zss[i]?.getD []) day
/-- What is known of the lists. -/
structure WkC (ds : List Rl) (ws : List Rw) (day : Int) (k : Nat) : Prop where
  hz : szD ds ≤ 1048576
  hb : ∀ d ∈ ds, RlB d
  hk : k ≤ 16
  rows : ∀ r ∈ ws, r.n ≤ 1048576 ∧ courtOk ds r.zs day = true
/-- What a worker finds. -/
structure WkF (w : World) (a1 a2 a3 a4 a5 c1 c2 c3 : Addr) (A : Option Addr) (ln lc co n : Nat) (bO bC : Nat) (AL : Option Addr) (m cl : Nat) (AM : Option Addr) (ck : Nat) (day : Int) (ds : List Rl) (ws : List Rw) : Prop where
  h1 : w.cell? a1 = some (.slice A ln lc)
  h2 : w.cell? a2 = some (.int .i64 n)
  h3 : w.cell? a3 = some (.func (.func 32) #[] #[.pointer (some c1), .pointer (some c2), .pointer (some c3)])
  h4 : w.cell? a4 = some (.slice (some ⟨bO, 0, none⟩) ln co)
  h5 : w.cell? a5 = some (.chan (some bC))
  g1 : w.cell? c1 = some (.slice AL m cl)
  g2 : w.cell? c2 = some (.slice AM ln ck)
  g3 : w.cell? c3 = some (.int .i64 day)
  hR : RsRd w w.heap.size AL m ds
  hM : MRd w w.heap.size AM ln ws
  hL : Rd w w.heap.size 1 A ln (ints (up 0 ln))

section
variable {w w' : World} {a1 a2 a3 a4 a5 c1 c2 c3 : Addr} {A AL AM : Option Addr} {ln lc co n bO bC m cl ck : Nat} {day : Int} {ds : List Rl} {ws : List Rw}
theorem Rd.old {B size m : Nat} {xs : List Value} (hB : B ≤ w.heap.size) (h : Rd w B size A m xs) (ho : OldSame w w') : Rd w' B size A m xs := h.keep fun p hp => by
  unfold World.cell?
  rw [ho.block _ (by omega)]
theorem RRd.old {B m : Nat} {rs : List Ru} (hB : B ≤ w.heap.size) (h : RRd w B A m rs) (ho : OldSame w w') : RRd w' B A m rs := ⟨Rd.old hB h.1 ho, fun r hr => Rd.old hB (h.2 r hr) ho⟩
theorem RsRd.old {B m : Nat} {ds : List Rl} (hB : B ≤ w.heap.size) (h : RsRd w B A m ds) (ho : OldSame w w') : RsRd w' B A m ds := by obtain ⟨rs, hr, e⟩ := h; exact ⟨rs, hr.old hB ho, e⟩
theorem MRd.old {B m : Nat} {rs : List Rw} (hB : B ≤ w.heap.size) (h : MRd w B A m rs) (ho : OldSame w w') : MRd w' B A m rs := ⟨Rd.old hB h.1 ho, fun r hr => Rd.old hB (h.2 r hr) ho⟩
theorem WkF.old (h : WkF w a1 a2 a3 a4 a5 c1 c2 c3 A ln lc co n bO bC AL m cl AM ck day ds ws) (ho : OldSame w w') : WkF w' a1 a2 a3 a4 a5 c1 c2 c3 A ln lc co n bO bC AL m cl AM ck day ds ws :=
  ⟨ho.cell h.h1, ho.cell h.h2, ho.cell h.h3, ho.cell h.h4, ho.cell h.h5, ho.cell h.g1, ho.cell h.g2, ho.cell h.g3, (h.hR.old (Nat.le_refl _) ho).more ho.size, (h.hM.old (Nat.le_refl _) ho).more ho.size, (h.hL.old (Nat.le_refl _) ho).more ho.size⟩
/-- What a worker does with one place. -/
theorem WkF.how (h : WkF w a1 a2 a3 a4 a5 c1 c2 c3 A ln lc co n bO bC AL m cl AM ck day ds ws) (hc : WkC ds ws day ln) {i : Nat} (hi : i < ln) :
    Calls Try.prog 32 #[.int .i64 i, .pointer (some c1), .pointer (some c2), .pointer (some c3)] w fun e w'' => e = .returned (.int .i64 (fA ds (ws.map Rw.zs) day i)) ∧ OldSame w w'' := by
  obtain ⟨ad, r, rfl, _, hr, hcell, hrd⟩ := h.hM.row hi
  obtain ⟨e1, e2⟩ := hc.rows r (List.mem_of_getElem? hr)
  have ef : fA ds (ws.map Rw.zs) day i = ansN ds r.zs day := by unfold fA; rw [rw_at hr]; rfl
  rw [ef]
  refine (how_at i c1 c2 c3 ad AL r.A m cl ln ck r.n r.c ds r.zs day w hi (by have := hc.hk; omega) h.g1 h.g2 h.g3 hcell h.hR hc.hz hc.hb hrd e1 e2).mono ?_
  rintro e w3 ⟨rfl, hb⟩
  exact ⟨rfl, .of_below hb⟩
/-- At the loop's head. -/
noncomputable def WHead (a1 a2 a3 a4 a5 : Addr) (e : Nat) (x0 x7 x8 x9 x10 x11 x12 x13 x14 x15 x16 x17 x18 x19 x20 x21 x22 x23 x24 : Value) : Frame := (B 47 .deferred).at ⟨#[x0, .pointer (some a1), .pointer (some a2), .pointer (some a3), .pointer (some a4), .pointer (some a5), .int .i64 e, x7, x8, x9, x10, x11, x12, x13, x14, x15, x16, x17, x18, x19, x20, x21, x22, x23, x24], []⟩ [.code wLB, .inLoop wLB, .inBlock 0, .code wR4]

theorem cutLast_facts (ops : Array Oper) (h : ops.size = 10) : (cutLast ops).size = 10 ∧ (∀ i : Nat, i ≠ 9 → (cutLast ops)[i]? = ops[i]?) ∧ (∀ i : Nat, ((cutLast ops)[i]?).bind (fun o : Oper => o.dst) = (ops[i]?).bind (fun o : Oper => o.dst)) ∧
    (∀ i : Nat, ((cutLast ops)[i]?).map (fun o : Oper => o.after) = (ops[i]?).map (fun o : Oper => o.after)) ∧ (∀ o, ops[9]? = some o → (cutLast ops)[9]? = some { o with op := .move (.tmp 22) }) := by
  obtain ⟨l⟩ := ops
  rcases l with _ | ⟨o0, _ | ⟨o1, _ | ⟨o2, _ | ⟨o3, _ | ⟨o4, _ | ⟨o5, _ | ⟨o6, _ | ⟨o7, _ | ⟨o8, _ | ⟨o9, _ | ⟨o10, l⟩⟩⟩⟩⟩⟩⟩⟩⟩⟩⟩ <;> simp at h
  refine ⟨rfl, fun i hi => ?_, fun i => ?_, fun i => ?_, fun o ho => ?_⟩
  · rcases i with _ | _ | _ | _ | _ | _ | _ | _ | _ | _ | i <;> first | rfl | exact absurd rfl hi | simp [cutLast]
  · rcases i with _ | _ | _ | _ | _ | _ | _ | _ | _ | _ | i <;> first | rfl | simp [cutLast]
  · rcases i with _ | _ | _ | _ | _ | _ | _ | _ | _ | _ | i <;> first | rfl | simp [cutLast]
  · simp at ho
    subst ho
    rfl
def joinOk (ops : Array Oper) : Bool := ((List.range 10).all fun i => match ops[i]? with | some o => o.after.all fun e => !(Region.binds .any e) || decide (e.on < i) | none => true) &&
  (match ops[9]? with | some o => (List.range 9).all fun i => o.after.any fun e => Region.binds .any e && (e.on == i) | none => false)
theorem joinOk_of {ops : Array Oper} (hs : ops.size = 10) (h : joinOk ops = true) : (∀ (i : Nat) o, ops[i]? = some o → ∀ e ∈ o.after, Region.binds .any e = true → e.on < i) ∧
    (∀ o, ops[9]? = some o → ∀ i, i < 9 → ∃ e ∈ o.after, Region.binds .any e = true ∧ e.on = i) := by
  unfold joinOk at h
  rw [Bool.and_eq_true, List.all_eq_true] at h
  refine ⟨fun i o ho e he hb => ?_, fun o ho i hi => ?_⟩
  · have h1 := h.1 i (List.mem_range.2 (by have := (Array.getElem?_eq_some_iff.1 ho).1; omega))
    simp only [ho] at h1
    obtain ⟨j, hj, rfl⟩ := Array.mem_iff_getElem.1 he
    have h2 := Array.all_eq_true.1 h1 j hj
    rw [hb] at h2
    simpa using h2
  · have h1 := h.2
    simp only [ho, List.all_eq_true] at h1
    have h2 := h1 i (List.mem_range.2 hi)
    obtain ⟨j, hj, h3⟩ := Array.any_eq_true.1 h2
    simp only [Bool.and_eq_true, beq_iff_eq] at h3
    exact ⟨_, Array.getElem_mem hj, h3⟩
/-- The last of the round's operations. -/
noncomputable def wSt : Oper := match (opsOf wR3)[9]? with | some o => o | none => default
theorem w_st : (opsOf wR3)[9]? = some wSt := by kernel_rfl
theorem w_size : (opsOf wR3).size = 10 := by kernel_rfl
theorem w_join : joinOk (opsOf wR3) = true := by kernel_rfl
theorem w_stOp : wSt.op = .store 2 (.tmp 23) (.tmp 22) := by kernel_rfl
theorem w_stG : wSt.guard = none := by kernel_rfl
theorem w_stD : wSt.dst = none := by kernel_rfl
theorem one_int : OneCell Try.prog 2 := ⟨_, rfl, by kernel_rfl⟩

theorem w_round {K : Act → World → Prop} {a : Act} {w : World} (h : wpAny Try.prog .any (cutLast (opsOf wR3)) (QN K) 10 (Array.replicate 10 false) a { w with drawn := w.drawn + 1 }) (b : Frame) (k : List Item) (cs : List Frame) :
    ∃ a' w', K a' w' ∧ Steps Try.prog (lone (b.at a (.code wR3 :: k)) cs w) (lone (b.at a' (.inRegion (opsOf wR3) [9] :: k)) cs w') := by
  obtain ⟨f1, f2, f3, f4, f5⟩ := cutLast_facts _ w_size
  obtain ⟨j1, j2⟩ := joinOk_of w_size w_join
  rw [w_r3]
  refine region_cut (n := 9) (by kernel_rfl) w_size f1 (fun t => ?_) f2 f4 j1 j2 ⟨_, _, f5 _ w_st, rfl, w_stD, w_stG⟩ (by rw [f1]; exact h) b k cs
  funext j
  unfold yielded
  rw [f3]
end
end Go.Proofs.Ytmfglflahlddbaa
namespace Go.Proofs.Ytmfglflahlddbaa
open Go.ChangeShapes Go.WideShapes Go.ChangeAt Go.RowKit Sm Go.Conc
set_option linter.unusedVariables false
noncomputable def wLd : Oper := match (opsOf wR4)[0]? with | some o => o | none => default
noncomputable def wSn : Oper := match (opsOf wR4)[1]? with | some o => o | none => default
theorem w_sn : (opsOf wR4)[1]? = some wSn := by kernel_rfl
theorem w_snOp : wSn.op = .send (.tmp 24) (.const (.bool true)) := by kernel_rfl
theorem w_snG : wSn.guard = none := by kernel_rfl
theorem w_snD : wSn.dst = none := by kernel_rfl
theorem w_size4 : (opsOf wR4).size = 2 := by kernel_rfl
theorem w_load {K : Act → World → Prop} (x0 x1 x2 x3 x4 x6 x7 x8 x9 x10 x11 x12 x13 x14 x15 x16 x17 x18 x19 x20 x21 x22 x23 x24 : Value) (a5 : Addr) (c : Nat) (w : World) (hc : w.cell? a5 = some (.chan (some c)))
    (hK : K ⟨#[x0, x1, x2, x3, x4, .pointer (some a5), x6, x7, x8, x9, x10, x11, x12, x13, x14, x15, x16, x17, x18, x19, x20, x21, x22, x23, .chan (some c)], []⟩ w) :
    wpOps Try.prog (opsOf wR4) (QN K) [0] ⟨#[x0, x1, x2, x3, x4, .pointer (some a5), x6, x7, x8, x9, x10, x11, x12, x13, x14, x15, x16, x17, x18, x19, x20, x21, x22, x23, x24], []⟩ w := by
  unfold wR4 wAll Try.f47
  dsimp only [opsOf]
  go_wp2_with fail
  refine Or.inl ?_
  go_simp
  exact ⟨rfl, hK⟩

section
variable {a1 a2 a3 a4 a5 c1 c2 c3 : Addr} {A AL AM : Option Addr} {ln lc co n bO bC m cl ck : Nat} {day : Int} {ds : List Rl} {ws : List Rw}

/-- The worker's end: it stands at its send. -/
theorem w_end {w1 : World} {Ch : Nat → Prop} (hCh : ∀ b, Ch b → ∃ o, w1.heap[b]? = some o ∧ ¬ IsMap o) (e : Nat) (x0 x7 x8 x9 x10 x11 x12 x13 x14 x15 x16 x17 x18 x19 x20 x21 x22 x23 x24 : Value) (w : World) (ho : OldSame w1 w) (hF : WkF w a1 a2 a3 a4 a5 c1 c2 c3 A ln lc co n bO bC AL m cl AM ck day ds ws) (hle : ln ≤ e) :
    Seg Try.prog Ch (fun fr up v => up = [] ∧ SendOp Try.prog bC fr) (WHead a1 a2 a3 a4 a5 e x0 x7 x8 x9 x10 x11 x12 x13 x14 x15 x16 x17 x18 x19 x20 x21 x22 x23 x24) [] w := by
  intro T d
  obtain ⟨v, hv⟩ : ∃ v, v = Sm.rt w T d := ⟨_, rfl⟩
  rw [← hv]
  have hov : OldSame w v := OldSame.heap (by rw [hv]; rfl)
  have hFv := hF.old hov
  obtain ⟨t1, v1, ⟨y8, y9, y10, y11, rfl, ho1⟩, hs1⟩ := wp_steps_exit (P := Try.prog) (K := fun a v1 => ∃ y8 y9 y10 y11, a = ⟨#[x0, .pointer (some a1), .pointer (some a2), .pointer (some a3), .pointer (some a4), .pointer (some a5), .int .i64 e, x7, y8, y9, y10, y11, x12, x13, x14, x15, x16, x17, x18, x19, x20, x21, x22, x23, x24], []⟩ ∧ OldSame v v1)
    (w_stop x0 (.pointer (some a2)) (.pointer (some a3)) (.pointer (some a4)) (.pointer (some a5)) x7 x8 x9 x10 x11 x12 x13 x14 x15 x16 x17 x18 x19 x20 x21 x22 x23 x24 e a1 A ln lc v hFv.h1 (by omega) (fun y8 y9 y10 y11 => ⟨y8, y9, y10, y11, rfl, OldSame.refl _⟩)) (B 47 .deferred) (k := [.code (.seq (.block 1 wR3) wR2), .inLoop wLB, .inBlock 0, .code wR4]) (k' := [.code wR4]) rfl [trap]
  have hF1 := hFv.old ho1
  obtain ⟨t2, v2, ⟨z, hz1, hz2, ho2⟩, hs2⟩ := ops_more (P := Try.prog) (ops := opsOf wR4) (ops2 := opsOf wR4) (K := fun a v2 => ∃ t : Array Value, a = ⟨t, []⟩ ∧ t.getD 24 undef = .chan (some bC) ∧ OldSame v1 v2) (fun _ => rfl) [0] _ v1 (fun _ _ => rfl)
    (w_load _ _ _ _ _ _ _ y8 y9 y10 y11 x12 x13 x14 x15 x16 x17 x18 x19 x20 x21 x22 x23 x24 a5 bC v1 hF1.h5 ⟨_, rfl, rfl, OldSame.refl _⟩) (B 47 .deferred) [1] [] [trap]
  subst hz1
  refine ⟨(B 47 .deferred).at ⟨z, []⟩ [.inRegion (opsOf wR4) [1]], [], v2, ?_, ⟨rfl, .inl rfl⟩, ⟨rfl, ?_⟩, ?_⟩
  · unfold WHead
    rw [w_loop]
    refine .head step_seq (Steps.trans hs1 ?_)
    rw [show wR4 = .region 4 (opsOf wR4) false from w_r4]
    refine .head step_region ?_
    have hr : List.range (opsOf wR4).size = [0] ++ [1] := by rw [w_size4]; rfl
    rw [hr]
    exact hs2
  · exact ⟨_, _, _, _, _, _, _, _, _, rfl, w_sn, w_snG, w_snD, w_snOp, hz2, 4, fun t' => w_quits t' _⟩
  · intro b o hb hget
    obtain ⟨o1, h1, h2⟩ := hCh b hb
    have := (((ho.trans hov).trans ho1).trans ho2).get h1
    rw [this] at hget
    cases hget; exact h2

/-- ████ THE WORKER'S SCRIPT, FROM ITS LOOP's HEAD ████ -/
theorem w_seg {w1 : World} {Ch : Nat → Prop} (hCh : ∀ b, Ch b → ∃ o, w1.heap[b]? = some o ∧ ¬ IsMap o) (hn : 1 ≤ n ∧ n ≤ 8) (hcc : WkC ds ws day ln) (hF0 : WkF w1 a1 a2 a3 a4 a5 c1 c2 c3 A ln lc co n bO bC AL m cl AM ck day ds ws) :
    ∀ (r e : Nat) (x0 x7 x8 x9 x10 x11 x12 x13 x14 x15 x16 x17 x18 x19 x20 x21 x22 x23 x24 : Value) (w : World), OldSame w1 w → ln < e + r →
      Seg Try.prog Ch (WStop Try.prog Ch bO bC n ln (fA ds (ws.map Rw.zs) day) r e) (WHead a1 a2 a3 a4 a5 e x0 x7 x8 x9 x10 x11 x12 x13 x14 x15 x16 x17 x18 x19 x20 x21 x22 x23 x24) [] w := by
  intro r
  induction r with
  | zero =>
    intro e x0 x7 x8 x9 x10 x11 x12 x13 x14 x15 x16 x17 x18 x19 x20 x21 x22 x23 x24 w ho hlt T d
    obtain ⟨frS, upS, vS, h1, h2, ⟨h3, h4⟩, h5⟩ := w_end hCh e x0 x7 x8 x9 x10 x11 x12 x13 x14 x15 x16 x17 x18 x19 x20 x21 x22 x23 x24 w ho (hF0.old ho) (by omega) T d
    exact ⟨frS, upS, vS, h1, h2, ⟨h3, by omega, h4⟩, h5⟩
  | succ r ih =>
    intro e x0 x7 x8 x9 x10 x11 x12 x13 x14 x15 x16 x17 x18 x19 x20 x21 x22 x23 x24 w ho hlt T d
    by_cases hle : ln ≤ e
    · obtain ⟨frS, upS, vS, h1, h2, ⟨h3, h4⟩, h5⟩ := w_end hCh e x0 x7 x8 x9 x10 x11 x12 x13 x14 x15 x16 x17 x18 x19 x20 x21 x22 x23 x24 w ho (hF0.old ho) hle T d
      exact ⟨frS, upS, vS, h1, h2, ⟨h3, .inl ⟨hle, h4⟩⟩, h5⟩
    obtain ⟨v, hv⟩ : ∃ v, v = Sm.rt w T d := ⟨_, rfl⟩
    rw [← hv]
    have hov : OldSame w1 v := ho.trans (OldSame.heap (by rw [hv]; rfl))
    have hFv := hF0.old hov
    obtain ⟨t1, v1, ⟨y8, y9, y10, y11, rfl, ho1⟩, hs1⟩ := wp_steps (P := Try.prog) (K := fun a v1 => ∃ y8 y9 y10 y11, a = ⟨#[x0, .pointer (some a1), .pointer (some a2), .pointer (some a3), .pointer (some a4), .pointer (some a5), .int .i64 e, x7, y8, y9, y10, y11, x12, x13, x14, x15, x16, x17, x18, x19, x20, x21, x22, x23, x24], []⟩ ∧ OldSame v v1)
      (w_more x0 (.pointer (some a2)) (.pointer (some a3)) (.pointer (some a4)) (.pointer (some a5)) x7 x8 x9 x10 x11 x12 x13 x14 x15 x16 x17 x18 x19 x20 x21 x22 x23 x24 e a1 A ln lc v hFv.h1 (by omega) (fun y8 y9 y10 y11 => ⟨y8, y9, y10, y11, rfl, OldSame.refl _⟩)) (B 47 .deferred) [.code (.seq (.block 1 wR3) wR2), .inLoop wLB, .inBlock 0, .code wR4] [trap]
    have ho1' := hov.trans ho1
    have hF1 := hF0.old ho1'
    obtain ⟨ad, hA, hz⟩ := hF1.hL.int (k := e) (by omega)
    rw [up_at 0 ln e (by omega), Int.zero_add] at hz
    have hl16 := hcc.hk
    obtain ⟨t2, v2, ⟨y15, y16, y17, y18, y19, y20, y21, rfl, ho2⟩, hs2⟩ := w_round (K := fun a v2 => ∃ y15 y16 y17 y18 y19 y20 y21, a = ⟨#[x0, .pointer (some a1), .pointer (some a2), .pointer (some a3), .pointer (some a4), .pointer (some a5), .int .i64 e, x7, y8, y9, y10, y11, x12, x13, x14, y15, y16, y17, y18, y19, y20, y21, .int .i64 (fA ds (ws.map Rw.zs) day e), .pointer (some ⟨bO, e, none⟩), x24], []⟩ ∧ OldSame v1 v2)
      (a := ⟨#[x0, .pointer (some a1), .pointer (some a2), .pointer (some a3), .pointer (some a4), .pointer (some a5), .int .i64 e, x7, y8, y9, y10, y11, x12, x13, x14, x15, x16, x17, x18, x19, x20, x21, x22, x23, x24], []⟩) (w := v1)
      (w_result x0 (.pointer (some a2)) (.pointer (some a5)) x7 y8 y9 y10 y11 x12 x13 x14 x15 x16 x17 x18 x19 x20 x21 x22 x23 x24 e a1 a3 a4 c1 c2 c3 ad A bO ln lc co e (fA ds (ws.map Rw.zs) day e) { v1 with drawn := v1.drawn + 1 } hA (by omega) hF1.h1 hF1.h3 hF1.h4 hz (by omega)
        (fun w' hw' => by
          have hw1 : OldSame v1 w' := (OldSame.heap rfl : OldSame v1 { v1 with drawn := v1.drawn + 1 }).trans hw'
          have hF2 := hF1.old hw1
          exact hF2.how hcc (by omega))
        (fun w' y15 y16 y17 y18 y19 y20 y21 hw' => ⟨y15, y16, y17, y18, y19, y20, y21, rfl, (OldSame.heap rfl : OldSame v1 { v1 with drawn := v1.drawn + 1 }).trans hw'⟩)) (B 47 .deferred) [.inBlock 1, .code wR2, .inLoop wLB, .inBlock 0, .code wR4] [trap]
    have ho2' := ho1'.trans ho2
    refine ⟨(B 47 .deferred).at ⟨#[x0, .pointer (some a1), .pointer (some a2), .pointer (some a3), .pointer (some a4), .pointer (some a5), .int .i64 e, x7, y8, y9, y10, y11, x12, x13, x14, y15, y16, y17, y18, y19, y20, y21, .int .i64 (fA ds (ws.map Rw.zs) day e), .pointer (some ⟨bO, e, none⟩), x24], []⟩ (.inRegion (opsOf wR3) [9] :: [.inBlock 1, .code wR2, .inLoop wLB, .inBlock 0, .code wR4]), [], v2, ?_, ⟨rfl, .inl rfl⟩, ⟨rfl, .inr ⟨by omega, (B 47 .deferred).at ⟨#[x0, .pointer (some a1), .pointer (some a2), .pointer (some a3), .pointer (some a4), .pointer (some a5), .int .i64 e, x7, y8, y9, y10, y11, x12, x13, x14, y15, y16, y17, y18, y19, y20, y21, .int .i64 (fA ds (ws.map Rw.zs) day e), .pointer (some ⟨bO, e, none⟩), x24], []⟩ (.inRegion (opsOf wR3) [] :: [.inBlock 1, .code wR2, .inLoop wLB, .inBlock 0, .code wR4]), ?_, ?_⟩⟩, ?_⟩
    rotate_left 1
    · refine ⟨_, wSt, fun x => (B 47 .deferred).at ⟨#[x0, .pointer (some a1), .pointer (some a2), .pointer (some a3), .pointer (some a4), .pointer (some a5), .int .i64 e, x7, y8, y9, y10, y11, x12, x13, x14, y15, y16, y17, y18, y19, y20, y21, .int .i64 (fA ds (ws.map Rw.zs) day e), .pointer (some ⟨bO, e, none⟩), x24], []⟩ (.inRegion (opsOf wR3) [] :: [.inBlock 1, .code wR2, .inLoop wLB, .inBlock 0, .code wR4]), 2, 23, 22, ⟨_, _, _, _, _, _, rfl, w_st, w_stG, fun x => ?_⟩, w_stOp, rfl, rfl, one_int, rfl⟩
      rw [w_stD]; rfl
    · refine Seg.of_steps fun T d => ?_
      obtain ⟨u, hu⟩ : ∃ u, u = Sm.rt v2 T d := ⟨_, rfl⟩
      rw [← hu]
      have hou : OldSame v2 u := OldSame.heap (by rw [hu]; rfl)
      have hFu := hF0.old (ho2'.trans hou)
      obtain ⟨t3, v3, ⟨y12, y13, y14, rfl, ho3⟩, hs3⟩ := wp_steps (P := Try.prog) (K := fun a v3 => ∃ y12 y13 y14, a = ⟨#[x0, .pointer (some a1), .pointer (some a2), .pointer (some a3), .pointer (some a4), .pointer (some a5), .int .i64 ((e : Int) + n), x7, y8, y9, y10, y11, y12, y13, y14, y15, y16, y17, y18, y19, y20, y21, .int .i64 (fA ds (ws.map Rw.zs) day e), .pointer (some ⟨bO, e, none⟩), x24], []⟩ ∧ OldSame u v3)
        (w_step x0 (.pointer (some a1)) (.pointer (some a2)) (.pointer (some a3)) (.pointer (some a4)) (.pointer (some a5)) x7 y8 y9 y10 y11 x12 x13 x14 y15 y16 y17 y18 y19 y20 y21 _ _ x24 e n a2 u rfl hFu.h2 (by omega) (by omega) (fun y12 y13 y14 => ⟨y12, y13, y14, rfl, OldSame.refl _⟩)) (B 47 .deferred) [.inLoop wLB, .inBlock 0, .code wR4] [trap]
      refine ⟨_, [], v3, ?_, ih (e + n) x0 x7 y8 y9 y10 y11 y12 y13 y14 y15 y16 y17 y18 y19 y20 y21 (.int .i64 (fA ds (ws.map Rw.zs) day e)) (.pointer (some ⟨bO, e, none⟩)) x24 v3 ((ho2'.trans hou).trans ho3) (by omega)⟩
      refine .head step_region_end (.head step_inBlock (Steps.trans hs3 (.one ?_)))
      unfold WHead
      rw [show ((e : Int) + (n : Int)) = ((e + n : Nat) : Int) from by omega]
      exact step_inLoop
    · intro b o hb hget
      obtain ⟨o1, h1, h2⟩ := hCh b hb
      have := ho2'.get h1
      rw [this] at hget
      cases hget; exact h2
    · unfold WHead
      rw [w_loop]
      refine .head step_seq (Steps.trans hs1 (.head step_seq (.head step_block hs2)))

theorem enter_eq {P : Program} {f : FuncId} {fn : Func} {c : Code} {k : Nat} (h1 : P.funcs[f]? = some fn) (h2 : fn.ntmps = k) (h3 : fn.body = some c) (args : Array Value) (kind : CallKind) : Frame.enter P f args kind = (B f kind).at ⟨args ++ Array.replicate (k - args.size) undef, []⟩ [.code c] := by
  subst h2
  unfold Frame.enter
  simp only [h1, Option.map_some, Option.getD_some, Option.bind_some, h3]
  rfl
theorem w_enter (p0 p1 p2 p3 p4 p5 : Value) : Frame.enter Try.prog 47 #[p0, p1, p2, p3, p4, p5] .deferred =
    (B 47 .deferred).at ⟨#[p0, p1, p2, p3, p4, p5, undef, undef, undef, undef, undef, undef, undef, undef, undef, undef, undef, undef, undef, undef, undef, undef, undef, undef, undef], []⟩ [.code (.seq (.seq wR0 (.block 0 (.loop wLB))) wR4)] := by
  have h1 : Try.prog.funcs[47]? = some Try.f47 := by kernel_rfl
  have h2 : Try.f47.ntmps = 25 := by kernel_rfl
  have e : #[p0, p1, p2, p3, p4, p5] ++ Array.replicate (25 - #[p0, p1, p2, p3, p4, p5].size) undef = #[p0, p1, p2, p3, p4, p5, undef, undef, undef, undef, undef, undef, undef, undef, undef, undef, undef, undef, undef, undef, undef, undef, undef, undef, undef] := by
    apply Array.ext'
    simp [List.replicate]
  rw [enter_eq h1 h2 w_body, e]

/-- ████ .. FROM ITS ENTRY ████ -/
theorem w_entry {w1 : World} {Ch : Nat → Prop} (hCh : ∀ b, Ch b → ∃ o, w1.heap[b]? = some o ∧ ¬ IsMap o) (hn : 1 ≤ n ∧ n ≤ 8) (hcc : WkC ds ws day ln) (hF0 : WkF w1 a1 a2 a3 a4 a5 c1 c2 c3 A ln lc co n bO bC AL m cl AM ck day ds ws)
    (a0 : Addr) (k : Nat) (hk : w1.cell? a0 = some (.int .i64 k)) :
    Seg Try.prog Ch (WStop Try.prog Ch bO bC n ln (fA ds (ws.map Rw.zs) day) (ln + 1) k) (Frame.enter Try.prog 47 #[.pointer (some a0), .pointer (some a1), .pointer (some a2), .pointer (some a3), .pointer (some a4), .pointer (some a5)] .deferred) [] w1 := by
  refine Seg.of_steps fun T d => ?_
  obtain ⟨v, hv⟩ : ∃ v, v = Sm.rt w1 T d := ⟨_, rfl⟩
  rw [← hv]
  have hov : OldSame w1 v := OldSame.heap (by rw [hv]; rfl)
  obtain ⟨t1, v1, ⟨y7, rfl, ho1⟩, hs1⟩ := wp_steps (P := Try.prog) (K := fun a v1 => ∃ y7, a = ⟨#[.pointer (some a0), .pointer (some a1), .pointer (some a2), .pointer (some a3), .pointer (some a4), .pointer (some a5), .int .i64 k, y7, undef, undef, undef, undef, undef, undef, undef, undef, undef, undef, undef, undef, undef, undef, undef, undef, undef], []⟩ ∧ OldSame v v1)
    (w_first (.pointer (some a1)) (.pointer (some a2)) (.pointer (some a3)) (.pointer (some a4)) (.pointer (some a5)) undef undef undef undef undef undef undef undef undef undef undef undef undef undef undef undef undef undef undef k a0 v (hov.cell hk) (fun y7 => ⟨y7, rfl, OldSame.refl _⟩)) (B 47 .deferred) [.code (.block 0 (.loop wLB)), .code wR4] [trap]
  refine ⟨_, [], v1, ?_, w_seg hCh hn hcc hF0 (ln + 1) k (.pointer (some a0)) y7 undef undef undef undef undef undef undef undef undef undef undef undef undef undef undef undef undef v1 (hov.trans ho1) (by omega)⟩
  rw [w_enter]
  refine .head step_seq (.head step_seq (Steps.trans hs1 (.head step_block (.one ?_))))
  exact step_loop
end
end Go.Proofs.Ytmfglflahlddbaa
namespace Go.Proofs.Ytmfglflahlddbaa
open Go.ChangeShapes Go.WideShapes Go.ChangeAt Go.RowKit Sm Go.Conc
set_option linter.unusedVariables false

noncomputable def sAll : Code := match Try.f31.body with | some c => c | none => .skip
def sq1 : Code → Code | .seq a _ => a | _ => .skip
def sq2 : Code → Code | .seq _ b => b | _ => .skip
def inBl : Code → Code | .block _ (.loop b) => b | .block _ b => b | _ => .skip
noncomputable def sR0 : Code := sq1 sAll
noncomputable def sR1 : Code := sq1 (sq2 sAll)
noncomputable def sLp1 : Code := sq1 (sq2 (sq2 sAll))
noncomputable def sLp2 : Code := sq1 (sq2 (sq2 (sq2 sAll)))
noncomputable def sEnd : Code := sq2 (sq2 (sq2 (sq2 sAll)))
noncomputable def sR2 : Code := sq1 sLp1
noncomputable def sL1 : Code := inBl (sq2 sLp1)
noncomputable def sR7 : Code := sq1 sLp2
noncomputable def sL2 : Code := inBl (sq2 sLp2)
noncomputable def sR3 : Code := sq1 sL1
noncomputable def sR4 : Code := sq1 (inBl (sq1 (sq2 (sq2 sL1))))
noncomputable def sR5 : Code := sq2 (inBl (sq1 (sq2 (sq2 sL1))))
noncomputable def sR6 : Code := sq2 (sq2 (sq2 sL1))
noncomputable def sR8 : Code := sq1 sL2
noncomputable def sR9 : Code := inBl (sq1 (sq2 (sq2 sL2)))
noncomputable def sR10 : Code := sq2 (sq2 (sq2 sL2))
theorem s_body : Try.f31.body = some (.seq sR0 (.seq sR1 (.seq (.seq sR2 (.block 0 (.loop sL1))) (.seq (.seq sR7 (.block 2 (.loop sL2))) sEnd)))) := by kernel_rfl
theorem s_l1 : sL1 = .seq sR3 (.seq (.cond (.tmp 16) .skip (.exit 0)) (.seq (.block 1 (.seq sR4 sR5)) sR6)) := by kernel_rfl
theorem s_l2 : sL2 = .seq sR8 (.seq (.cond (.tmp 22) .skip (.exit 2)) (.seq (.block 3 sR9) sR10)) := by kernel_rfl
theorem s_r5 : sR5 = .region 5 (opsOf sR5) false := by kernel_rfl
theorem s_r9 : sR9 = .region 9 (opsOf sR9) false := by kernel_rfl
theorem s_size5 : (opsOf sR5).size = 2 := by kernel_rfl
theorem s_size9 : (opsOf sR9).size = 2 := by kernel_rfl
noncomputable def sGo : Oper := match (opsOf sR5)[1]? with | some o => o | none => default
noncomputable def sRc : Oper := match (opsOf sR9)[1]? with | some o => o | none => default
def callOf : Op → Call | .go c => c | _ => ⟨.value (.tmp 0), #[], #[]⟩
theorem s_go : (opsOf sR5)[1]? = some sGo := by kernel_rfl
theorem s_goOp : sGo.op = .go (callOf sGo.op) := by kernel_rfl
theorem s_goC : (callOf sGo.op).callee = .value (.tmp 18) := by kernel_rfl
theorem s_goA : (callOf sGo.op).args = #[] := by kernel_rfl
theorem s_goG : sGo.guard = none := by kernel_rfl
theorem s_goD : sGo.dst = none := by kernel_rfl
theorem s_rc : (opsOf sR9)[1]? = some sRc := by kernel_rfl
theorem s_rcOp : sRc.op = .recv 74 (.tmp 23) false := by kernel_rfl
theorem s_rcG : sRc.guard = none := by kernel_rfl
theorem s_rcD : sRc.dst = some 24 := by kernel_rfl


theorem s_more {K : Act → World → Prop} (z0 z1 z2 z3 z4 z5 z6 z7 z8 x9 x10 x11 x12 x13 x16 x17 x18 x19 x20 x21 x22 x23 x24 x25 x26 : Value) (n i : Int) (w : World)
    (hK : K ⟨#[z0, z1, z2, z3, z4, z5, z6, z7, z8, x9, x10, x11, x12, x13, .int .i64 n, .int .i64 i, .bool (decide (i < n)), x17, x18, x19, x20, x21, x22, x23, x24, x25, x26], []⟩ w) :
    sR3.wp Try.prog (QN K) ⟨#[z0, z1, z2, z3, z4, z5, z6, z7, z8, x9, x10, x11, x12, x13, .int .i64 n, .int .i64 i, x16, x17, x18, x19, x20, x21, x22, x23, x24, x25, x26], []⟩ w := by
  unfold sR3
  unfold sL1 sLp1 sAll Try.f31
  dsimp only [sq1, sq2, inBl, opsOf]
  go_wp2_with fail
  exact ⟨rfl, hK⟩
theorem s_box {K : Act → World → Prop} (z0 z1 z2 z3 z4 z5 z6 z7 z8 x9 x10 x11 x12 x13 x14 x16 x17 x18 x19 x20 x21 x22 x23 x24 x25 x26 : Value) (i : Int) (w : World)
    (hK : ∀ w', OldSame w w' → w'.heap.size = w.heap.size + 1 → w'.heap[w.heap.size]? = some (.cells #[.int .i64 i] 2 (0, 0)) → K ⟨#[z0, z1, z2, z3, z4, z5, z6, z7, z8, .pointer (some ⟨w.heap.size, 0, none⟩), x10, x11, x12, x13, x14, .int .i64 i, x16, .int .i64 i, x18, x19, x20, x21, x22, x23, x24, x25, x26], []⟩ w') :
    sR4.wp Try.prog (QN K) ⟨#[z0, z1, z2, z3, z4, z5, z6, z7, z8, x9, x10, x11, x12, x13, x14, .int .i64 i, x16, x17, x18, x19, x20, x21, x22, x23, x24, x25, x26], []⟩ w := by
  unfold sR4
  unfold sL1 sLp1 sAll Try.f31
  dsimp only [sq1, sq2, inBl, opsOf]
  go_wp2_with fail
  exact ⟨rfl, hK _ (.of_below (Below.alloc (Below.refl _ _) (Nat.le_refl _) _)) (by simp) (by show (w.heap.push _)[w.heap.size]? = _; simp)⟩
theorem s_fun {K : Act → World → Prop} (z0 z1 z2 z6 x10 x11 x12 x13 x14 x15 x16 x17 x18 x19 x20 x21 x22 x23 x24 x25 x26 : Value) (a1 a2 a3 a4 a5 a9 : Addr) (w : World)
    (hK : K ⟨#[z0, z1, z2, .pointer (some a1), .pointer (some a2), .pointer (some a3), z6, .pointer (some a4), .pointer (some a5), .pointer (some a9), x10, x11, x12, x13, x14, x15, x16, x17, .func (.func 47) #[] #[.pointer (some a9), .pointer (some a1), .pointer (some a2), .pointer (some a3), .pointer (some a4), .pointer (some a5)], x19, x20, x21, x22, x23, x24, x25, x26], []⟩ w) :
    wpOps Try.prog (opsOf sR5) (QN K) [0] ⟨#[z0, z1, z2, .pointer (some a1), .pointer (some a2), .pointer (some a3), z6, .pointer (some a4), .pointer (some a5), .pointer (some a9), x10, x11, x12, x13, x14, x15, x16, x17, x18, x19, x20, x21, x22, x23, x24, x25, x26], []⟩ w := by
  unfold sR5 sL1 sLp1 sAll Try.f31
  dsimp only [sq1, sq2, inBl, opsOf]
  go_wp2_with fail
  refine Or.inl ?_
  go_simp
  exact ⟨rfl, hK⟩
theorem s_inc {K : Act → World → Prop} (z0 z1 z2 z3 z4 z5 z6 z7 z8 x9 x10 x11 x12 x13 x14 x16 x17 x18 x19 x20 x21 x22 x23 x24 x25 x26 : Value) (i : Int) (w : World) (hi : 0 ≤ i ∧ i ≤ 1000)
    (hK : K ⟨#[z0, z1, z2, z3, z4, z5, z6, z7, z8, x9, x10, x11, x12, x13, x14, .int .i64 (i + 1), x16, x17, x18, .int .i64 (i + 1), x20, x21, x22, x23, x24, x25, x26], []⟩ w) :
    sR6.wp Try.prog (QN K) ⟨#[z0, z1, z2, z3, z4, z5, z6, z7, z8, x9, x10, x11, x12, x13, x14, .int .i64 i, x16, x17, x18, x19, x20, x21, x22, x23, x24, x25, x26], []⟩ w := by
  unfold sR6
  unfold sL1 sLp1 sAll Try.f31
  dsimp only [sq1, sq2, inBl, opsOf]
  go_wp2_with fail
  exact ⟨rfl, hK⟩
theorem s_two {K : Act → World → Prop} (z0 z1 z2 z3 z5 z6 z7 z8 x9 x10 x11 x12 x13 x14 x15 x16 x17 x18 x19 x20 x21 x22 x23 x24 x25 x26 : Value) (n : Int) (a2 : Addr) (w : World) (hc : w.cell? a2 = some (.int .i64 n))
    (hK : K ⟨#[z0, z1, z2, z3, .pointer (some a2), z5, z6, z7, z8, x9, x10, x11, x12, x13, x14, x15, x16, x17, x18, x19, .int .i64 n, .int .i64 0, x22, x23, x24, x25, x26], []⟩ w) :
    sR7.wp Try.prog (QN K) ⟨#[z0, z1, z2, z3, .pointer (some a2), z5, z6, z7, z8, x9, x10, x11, x12, x13, x14, x15, x16, x17, x18, x19, x20, x21, x22, x23, x24, x25, x26], []⟩ w := by
  unfold sR7
  unfold sLp2 sAll Try.f31
  dsimp only [sq1, sq2, inBl, opsOf]
  go_wp2_with fail
  exact ⟨rfl, hK⟩
theorem s_more2 {K : Act → World → Prop} (z0 z1 z2 z3 z4 z5 z6 z7 z8 x9 x10 x11 x12 x13 x14 x15 x16 x17 x18 x19 x22 x23 x24 x25 x26 : Value) (n i : Int) (w : World)
    (hK : K ⟨#[z0, z1, z2, z3, z4, z5, z6, z7, z8, x9, x10, x11, x12, x13, x14, x15, x16, x17, x18, x19, .int .i64 n, .int .i64 i, .bool (decide (i < n)), x23, x24, x25, x26], []⟩ w) :
    sR8.wp Try.prog (QN K) ⟨#[z0, z1, z2, z3, z4, z5, z6, z7, z8, x9, x10, x11, x12, x13, x14, x15, x16, x17, x18, x19, .int .i64 n, .int .i64 i, x22, x23, x24, x25, x26], []⟩ w := by
  unfold sR8
  unfold sL2 sLp2 sAll Try.f31
  dsimp only [sq1, sq2, inBl, opsOf]
  go_wp2_with fail
  exact ⟨rfl, hK⟩
theorem s_chan {K : Act → World → Prop} (z0 z1 z2 z3 z4 z5 z6 z7 x9 x10 x11 x12 x13 x14 x15 x16 x17 x18 x19 x20 x21 x22 x23 x24 x25 x26 : Value) (a5 : Addr) (c : Nat) (w : World) (hc : w.cell? a5 = some (.chan (some c)))
    (hK : K ⟨#[z0, z1, z2, z3, z4, z5, z6, z7, .pointer (some a5), x9, x10, x11, x12, x13, x14, x15, x16, x17, x18, x19, x20, x21, x22, .chan (some c), x24, x25, x26], []⟩ w) :
    wpOps Try.prog (opsOf sR9) (QN K) [0] ⟨#[z0, z1, z2, z3, z4, z5, z6, z7, .pointer (some a5), x9, x10, x11, x12, x13, x14, x15, x16, x17, x18, x19, x20, x21, x22, x23, x24, x25, x26], []⟩ w := by
  unfold sR9 sL2 sLp2 sAll Try.f31
  dsimp only [sq1, sq2, inBl, opsOf]
  go_wp2_with fail
  refine Or.inl ?_
  go_simp
  exact ⟨rfl, hK⟩
theorem s_inc2 {K : Act → World → Prop} (z0 z1 z2 z3 z4 z5 z6 z7 z8 x9 x10 x11 x12 x13 x14 x15 x16 x17 x18 x19 x20 x22 x23 x24 x25 x26 : Value) (i : Int) (w : World) (hi : 0 ≤ i ∧ i ≤ 1000)
    (hK : K ⟨#[z0, z1, z2, z3, z4, z5, z6, z7, z8, x9, x10, x11, x12, x13, x14, x15, x16, x17, x18, x19, x20, .int .i64 (i + 1), x22, x23, x24, .int .i64 (i + 1), x26], []⟩ w) :
    sR10.wp Try.prog (QN K) ⟨#[z0, z1, z2, z3, z4, z5, z6, z7, z8, x9, x10, x11, x12, x13, x14, x15, x16, x17, x18, x19, x20, .int .i64 i, x22, x23, x24, x25, x26], []⟩ w := by
  unfold sR10
  unfold sL2 sLp2 sAll Try.f31
  dsimp only [sq1, sq2, inBl, opsOf]
  go_wp2_with fail
  exact ⟨rfl, hK⟩
end Go.Proofs.Ytmfglflahlddbaa
namespace Go.Proofs.Ytmfglflahlddbaa
open Go.ChangeShapes Go.WideShapes Go.ChangeAt Go.RowKit Sm Go.Conc
set_option linter.unusedVariables false

section
variable {b1 b2 b3 b4 b5 : Nat}
/-- The slots in the first loop. -/
def S1 (b1 b2 b3 b4 b5 n i : Nat) (t : Array Value) : Prop := ∃ z0 z1 z2 z6 x9 x10 x11 x12 x13 x16 x17 x18 x19 x20 x21 x22 x23 x24 x25 x26 : Value, t = #[z0, z1, z2, .pointer (some ⟨b1, 0, none⟩), .pointer (some ⟨b2, 0, none⟩), .pointer (some ⟨b3, 0, none⟩), z6, .pointer (some ⟨b4, 0, none⟩), .pointer (some ⟨b5, 0, none⟩), x9, x10, x11, x12, x13, .int .i64 (n : Nat), .int .i64 (i : Nat), x16, x17, x18, x19, x20, x21, x22, x23, x24, x25, x26]
/-- The slots in the second. -/
def S2 (b1 b2 b3 b4 b5 n i : Nat) (t : Array Value) : Prop := ∃ z0 z1 z2 z6 x9 x10 x11 x12 x13 x14 x15 x16 x17 x18 x19 x22 x23 x24 x25 x26 : Value, t = #[z0, z1, z2, .pointer (some ⟨b1, 0, none⟩), .pointer (some ⟨b2, 0, none⟩), .pointer (some ⟨b3, 0, none⟩), z6, .pointer (some ⟨b4, 0, none⟩), .pointer (some ⟨b5, 0, none⟩), x9, x10, x11, x12, x13, x14, x15, x16, x17, x18, x19, .int .i64 (n : Nat), .int .i64 (i : Nat), x22, x23, x24, x25, x26]
noncomputable def sK1 : List Item := [.inBlock 1, .code sR6, .inLoop sL1, .inBlock 0, .code (.seq (.seq sR7 (.block 2 (.loop sL2))) sEnd)]
noncomputable def sH1 : List Item := [.code sL1, .inLoop sL1, .inBlock 0, .code (.seq (.seq sR7 (.block 2 (.loop sL2))) sEnd)]
noncomputable def sK2 : List Item := [.inBlock 3, .code sR10, .inLoop sL2, .inBlock 2, .code sEnd]
noncomputable def sH2 : List Item := [.code sL2, .inLoop sL2, .inBlock 2, .code sEnd]
noncomputable def sB : Frame := B 31 .normal

variable {n i : Nat} {t : Array Value} {v : World}

theorem head1_go (h : S1 b1 b2 b3 b4 b5 n i t) (hi : i < n) (cs : List Frame) : ∃ t' v', S1 b1 b2 b3 b4 b5 n i t' ∧ OldSame v v' ∧ v'.heap[v.heap.size]? = some (.cells #[.int .i64 i] 2 (0, 0)) ∧
    t'.getD 18 undef = .func (.func 47) #[] #[.pointer (some ⟨v.heap.size, 0, none⟩), .pointer (some ⟨b1, 0, none⟩), .pointer (some ⟨b2, 0, none⟩), .pointer (some ⟨b3, 0, none⟩), .pointer (some ⟨b4, 0, none⟩), .pointer (some ⟨b5, 0, none⟩)] ∧
    Steps Try.prog (lone (sB.at ⟨t, []⟩ sH1) cs v) (lone (sB.at ⟨t', []⟩ (.inRegion (opsOf sR5) [1] :: sK1)) cs v') := by
  obtain ⟨z0, z1, z2, z6, x9, x10, x11, x12, x13, x16, x17, x18, x19, x20, x21, x22, x23, x24, x25, x26, rfl⟩ := h
  obtain ⟨t1, v1, ⟨rfl, rfl⟩, hs1⟩ := wp_steps (P := Try.prog) (K := fun a v1 => a = ⟨#[z0, z1, z2, .pointer (some ⟨b1, 0, none⟩), .pointer (some ⟨b2, 0, none⟩), .pointer (some ⟨b3, 0, none⟩), z6, .pointer (some ⟨b4, 0, none⟩), .pointer (some ⟨b5, 0, none⟩), x9, x10, x11, x12, x13, .int .i64 (n : Nat), .int .i64 (i : Nat), .bool (decide ((i : Int) < (n : Int))), x17, x18, x19, x20, x21, x22, x23, x24, x25, x26], []⟩ ∧ v1 = v)
    (s_more z0 z1 z2 (.pointer (some ⟨b1, 0, none⟩)) (.pointer (some ⟨b2, 0, none⟩)) (.pointer (some ⟨b3, 0, none⟩)) z6 (.pointer (some ⟨b4, 0, none⟩)) (.pointer (some ⟨b5, 0, none⟩)) x9 x10 x11 x12 x13 x16 x17 x18 x19 x20 x21 x22 x23 x24 x25 x26 n i v ⟨rfl, rfl⟩) sB [.code (.seq (.cond (.tmp 16) .skip (.exit 0)) (.seq (.block 1 (.seq sR4 sR5)) sR6)), .inLoop sL1, .inBlock 0, .code (.seq (.seq sR7 (.block 2 (.loop sL2))) sEnd)] cs
  obtain ⟨t2, v2, ⟨rfl, ho, hsz, hbox⟩, hs2⟩ := wp_steps (P := Try.prog) (K := fun a v2 => a = ⟨#[z0, z1, z2, .pointer (some ⟨b1, 0, none⟩), .pointer (some ⟨b2, 0, none⟩), .pointer (some ⟨b3, 0, none⟩), z6, .pointer (some ⟨b4, 0, none⟩), .pointer (some ⟨b5, 0, none⟩), .pointer (some ⟨v1.heap.size, 0, none⟩), x10, x11, x12, x13, .int .i64 (n : Nat), .int .i64 (i : Nat), .bool (decide ((i : Int) < (n : Int))), .int .i64 (i : Nat), x18, x19, x20, x21, x22, x23, x24, x25, x26], []⟩ ∧ OldSame v1 v2 ∧ v2.heap.size = v1.heap.size + 1 ∧ v2.heap[v1.heap.size]? = some (.cells #[.int .i64 i] 2 (0, 0)))
    (s_box z0 z1 z2 (.pointer (some ⟨b1, 0, none⟩)) (.pointer (some ⟨b2, 0, none⟩)) (.pointer (some ⟨b3, 0, none⟩)) z6 (.pointer (some ⟨b4, 0, none⟩)) (.pointer (some ⟨b5, 0, none⟩)) x9 x10 x11 x12 x13 (.int .i64 (n : Nat)) (.bool (decide ((i : Int) < (n : Int)))) x17 x18 x19 x20 x21 x22 x23 x24 x25 x26 i v1 (fun w' h1 h2 h3 => ⟨rfl, h1, h2, h3⟩)) sB [.code sR5, .inBlock 1, .code sR6, .inLoop sL1, .inBlock 0, .code (.seq (.seq sR7 (.block 2 (.loop sL2))) sEnd)] cs
  obtain ⟨t3, v3, ⟨rfl, rfl⟩, hs3⟩ := ops_more (P := Try.prog) (ops := opsOf sR5) (ops2 := opsOf sR5) (K := fun a v3 => a = ⟨#[z0, z1, z2, .pointer (some ⟨b1, 0, none⟩), .pointer (some ⟨b2, 0, none⟩), .pointer (some ⟨b3, 0, none⟩), z6, .pointer (some ⟨b4, 0, none⟩), .pointer (some ⟨b5, 0, none⟩), .pointer (some ⟨v1.heap.size, 0, none⟩), x10, x11, x12, x13, .int .i64 (n : Nat), .int .i64 (i : Nat), .bool (decide ((i : Int) < (n : Int))), .int .i64 (i : Nat), .func (.func 47) #[] #[.pointer (some ⟨v1.heap.size, 0, none⟩), .pointer (some ⟨b1, 0, none⟩), .pointer (some ⟨b2, 0, none⟩), .pointer (some ⟨b3, 0, none⟩), .pointer (some ⟨b4, 0, none⟩), .pointer (some ⟨b5, 0, none⟩)], x19, x20, x21, x22, x23, x24, x25, x26], []⟩ ∧ v3 = v2) (fun _ => rfl) [0] _ v2 (fun _ _ => rfl)
    (s_fun z0 z1 z2 z6 x10 x11 x12 x13 (.int .i64 (n : Nat)) (.int .i64 (i : Nat)) (.bool (decide ((i : Int) < (n : Int)))) (.int .i64 (i : Nat)) x18 x19 x20 x21 x22 x23 x24 x25 x26 ⟨b1, 0, none⟩ ⟨b2, 0, none⟩ ⟨b3, 0, none⟩ ⟨b4, 0, none⟩ ⟨b5, 0, none⟩ ⟨v1.heap.size, 0, none⟩ v2 ⟨rfl, rfl⟩) sB [1] sK1 cs
  refine ⟨#[z0, z1, z2, .pointer (some ⟨b1, 0, none⟩), .pointer (some ⟨b2, 0, none⟩), .pointer (some ⟨b3, 0, none⟩), z6, .pointer (some ⟨b4, 0, none⟩), .pointer (some ⟨b5, 0, none⟩), .pointer (some ⟨v1.heap.size, 0, none⟩), x10, x11, x12, x13, .int .i64 (n : Nat), .int .i64 (i : Nat), .bool (decide ((i : Int) < (n : Int))), .int .i64 (i : Nat), .func (.func 47) #[] #[.pointer (some ⟨v1.heap.size, 0, none⟩), .pointer (some ⟨b1, 0, none⟩), .pointer (some ⟨b2, 0, none⟩), .pointer (some ⟨b3, 0, none⟩), .pointer (some ⟨b4, 0, none⟩), .pointer (some ⟨b5, 0, none⟩)], x19, x20, x21, x22, x23, x24, x25, x26], v3, ⟨_, _, _, _, _, _, _, _, _, _, _, _, _, _, _, _, _, _, _, _, rfl⟩, ho, hbox, rfl, ?_⟩
  unfold sH1
  rw [s_l1]
  refine .head step_seq (Steps.trans hs1 (.head step_seq (.head (step_cond (t := true) (by rw [show (decide ((i : Int) < (n : Int))) = true from decide_eq_true (by omega)]; rfl)) ?_)))
  refine .head step_skip (.head step_seq (.head step_block (.head step_seq (Steps.trans hs2 ?_))))
  rw [show sR5 = .region 5 (opsOf sR5) false from s_r5]
  refine .head step_region ?_
  rw [show List.range (opsOf sR5).size = [0] ++ [1] from by rw [s_size5]; rfl]
  exact hs3

theorem go_next (h : S1 b1 b2 b3 b4 b5 n i t) (hi : i ≤ 1000) (cs : List Frame) : ∃ t', S1 b1 b2 b3 b4 b5 n (i + 1) t' ∧ Steps Try.prog (lone (sB.at ⟨t, []⟩ (.inRegion (opsOf sR5) [] :: sK1)) cs v) (lone (sB.at ⟨t', []⟩ sH1) cs v) := by
  obtain ⟨z0, z1, z2, z6, x9, x10, x11, x12, x13, x16, x17, x18, x19, x20, x21, x22, x23, x24, x25, x26, rfl⟩ := h
  obtain ⟨t1, v1, ⟨rfl, rfl⟩, hs1⟩ := wp_steps (P := Try.prog) (K := fun a v1 => a = ⟨#[z0, z1, z2, .pointer (some ⟨b1, 0, none⟩), .pointer (some ⟨b2, 0, none⟩), .pointer (some ⟨b3, 0, none⟩), z6, .pointer (some ⟨b4, 0, none⟩), .pointer (some ⟨b5, 0, none⟩), x9, x10, x11, x12, x13, .int .i64 (n : Nat), .int .i64 ((i : Int) + 1), x16, x17, x18, .int .i64 ((i : Int) + 1), x20, x21, x22, x23, x24, x25, x26], []⟩ ∧ v1 = v)
    (s_inc z0 z1 z2 (.pointer (some ⟨b1, 0, none⟩)) (.pointer (some ⟨b2, 0, none⟩)) (.pointer (some ⟨b3, 0, none⟩)) z6 (.pointer (some ⟨b4, 0, none⟩)) (.pointer (some ⟨b5, 0, none⟩)) x9 x10 x11 x12 x13 (.int .i64 (n : Nat)) x16 x17 x18 x19 x20 x21 x22 x23 x24 x25 x26 i v (by omega) ⟨rfl, rfl⟩) sB [.inLoop sL1, .inBlock 0, .code (.seq (.seq sR7 (.block 2 (.loop sL2))) sEnd)] cs
  refine ⟨#[z0, z1, z2, .pointer (some ⟨b1, 0, none⟩), .pointer (some ⟨b2, 0, none⟩), .pointer (some ⟨b3, 0, none⟩), z6, .pointer (some ⟨b4, 0, none⟩), .pointer (some ⟨b5, 0, none⟩), x9, x10, x11, x12, x13, .int .i64 (n : Nat), .int .i64 ((i + 1 : Nat) : Int), x16, x17, x18, .int .i64 ((i + 1 : Nat) : Int), x20, x21, x22, x23, x24, x25, x26], ⟨_, _, _, _, _, _, _, _, _, _, _, _, .int .i64 ((i + 1 : Nat) : Int), _, _, _, _, _, _, _, rfl⟩, .head step_region_end (.head step_inBlock (Steps.trans hs1 (.one ?_)))⟩
  rw [show ((i : Int) + 1) = ((i + 1 : Nat) : Int) from by omega]
  exact step_inLoop

theorem head1_exit (h : S1 b1 b2 b3 b4 b5 n n t) (h2 : v.cell? ⟨b2, 0, none⟩ = some (.int .i64 n)) (cs : List Frame) : ∃ t', S2 b1 b2 b3 b4 b5 n 0 t' ∧ Steps Try.prog (lone (sB.at ⟨t, []⟩ sH1) cs v) (lone (sB.at ⟨t', []⟩ sH2) cs v) := by
  obtain ⟨z0, z1, z2, z6, x9, x10, x11, x12, x13, x16, x17, x18, x19, x20, x21, x22, x23, x24, x25, x26, rfl⟩ := h
  obtain ⟨t1, v1, ⟨rfl, rfl⟩, hs1⟩ := wp_steps (P := Try.prog) (K := fun a v1 => a = ⟨#[z0, z1, z2, .pointer (some ⟨b1, 0, none⟩), .pointer (some ⟨b2, 0, none⟩), .pointer (some ⟨b3, 0, none⟩), z6, .pointer (some ⟨b4, 0, none⟩), .pointer (some ⟨b5, 0, none⟩), x9, x10, x11, x12, x13, .int .i64 (n : Nat), .int .i64 (n : Nat), .bool (decide ((n : Int) < (n : Int))), x17, x18, x19, x20, x21, x22, x23, x24, x25, x26], []⟩ ∧ v1 = v)
    (s_more z0 z1 z2 (.pointer (some ⟨b1, 0, none⟩)) (.pointer (some ⟨b2, 0, none⟩)) (.pointer (some ⟨b3, 0, none⟩)) z6 (.pointer (some ⟨b4, 0, none⟩)) (.pointer (some ⟨b5, 0, none⟩)) x9 x10 x11 x12 x13 x16 x17 x18 x19 x20 x21 x22 x23 x24 x25 x26 n n v ⟨rfl, rfl⟩) sB [.code (.seq (.cond (.tmp 16) .skip (.exit 0)) (.seq (.block 1 (.seq sR4 sR5)) sR6)), .inLoop sL1, .inBlock 0, .code (.seq (.seq sR7 (.block 2 (.loop sL2))) sEnd)] cs
  obtain ⟨t2, v2, ⟨rfl, rfl⟩, hs2⟩ := wp_steps (P := Try.prog) (K := fun a v2 => a = ⟨#[z0, z1, z2, .pointer (some ⟨b1, 0, none⟩), .pointer (some ⟨b2, 0, none⟩), .pointer (some ⟨b3, 0, none⟩), z6, .pointer (some ⟨b4, 0, none⟩), .pointer (some ⟨b5, 0, none⟩), x9, x10, x11, x12, x13, .int .i64 (n : Nat), .int .i64 (n : Nat), .bool (decide ((n : Int) < (n : Int))), x17, x18, x19, .int .i64 (n : Nat), .int .i64 0, x22, x23, x24, x25, x26], []⟩ ∧ v2 = v1)
    (s_two z0 z1 z2 (.pointer (some ⟨b1, 0, none⟩)) (.pointer (some ⟨b3, 0, none⟩)) z6 (.pointer (some ⟨b4, 0, none⟩)) (.pointer (some ⟨b5, 0, none⟩)) x9 x10 x11 x12 x13 (.int .i64 (n : Nat)) (.int .i64 (n : Nat)) (.bool (decide ((n : Int) < (n : Int)))) x17 x18 x19 x20 x21 x22 x23 x24 x25 x26 n ⟨b2, 0, none⟩ v1 h2 ⟨rfl, rfl⟩) sB [.code (.block 2 (.loop sL2)), .code sEnd] cs
  refine ⟨#[z0, z1, z2, .pointer (some ⟨b1, 0, none⟩), .pointer (some ⟨b2, 0, none⟩), .pointer (some ⟨b3, 0, none⟩), z6, .pointer (some ⟨b4, 0, none⟩), .pointer (some ⟨b5, 0, none⟩), x9, x10, x11, x12, x13, .int .i64 (n : Nat), .int .i64 (n : Nat), .bool (decide ((n : Int) < (n : Int))), x17, x18, x19, .int .i64 (n : Nat), .int .i64 0, x22, x23, x24, x25, x26], ⟨_, _, _, _, _, _, _, _, _, _, _, _, _, _, _, _, _, _, _, _, rfl⟩, ?_⟩
  unfold sH1
  rw [s_l1]
  refine .head step_seq (Steps.trans hs1 (.head step_seq (.head (step_cond (t := false) (by rw [show (decide ((n : Int) < (n : Int))) = false from decide_eq_false (by omega)]; rfl)) ?_)))
  refine .head (step_exit (k' := [.code (.seq (.seq sR7 (.block 2 (.loop sL2))) sEnd)]) rfl) ?_
  exact .head step_seq (.head step_seq (Steps.trans hs2 (.head step_block (.one step_loop))))

theorem head2_recv {bC : Nat} (h : S2 b1 b2 b3 b4 b5 n i t) (hi : i < n) (h5 : v.cell? ⟨b5, 0, none⟩ = some (.chan (some bC))) (cs : List Frame) : ∃ t', S2 b1 b2 b3 b4 b5 n i t' ∧ t'.getD 23 undef = .chan (some bC) ∧
    Steps Try.prog (lone (sB.at ⟨t, []⟩ sH2) cs v) (lone (sB.at ⟨t', []⟩ (.inRegion (opsOf sR9) [1] :: sK2)) cs v) := by
  obtain ⟨z0, z1, z2, z6, x9, x10, x11, x12, x13, x14, x15, x16, x17, x18, x19, x22, x23, x24, x25, x26, rfl⟩ := h
  obtain ⟨t1, v1, ⟨rfl, rfl⟩, hs1⟩ := wp_steps (P := Try.prog) (K := fun a v1 => a = ⟨#[z0, z1, z2, .pointer (some ⟨b1, 0, none⟩), .pointer (some ⟨b2, 0, none⟩), .pointer (some ⟨b3, 0, none⟩), z6, .pointer (some ⟨b4, 0, none⟩), .pointer (some ⟨b5, 0, none⟩), x9, x10, x11, x12, x13, x14, x15, x16, x17, x18, x19, .int .i64 (n : Nat), .int .i64 (i : Nat), .bool (decide ((i : Int) < (n : Int))), x23, x24, x25, x26], []⟩ ∧ v1 = v)
    (s_more2 z0 z1 z2 (.pointer (some ⟨b1, 0, none⟩)) (.pointer (some ⟨b2, 0, none⟩)) (.pointer (some ⟨b3, 0, none⟩)) z6 (.pointer (some ⟨b4, 0, none⟩)) (.pointer (some ⟨b5, 0, none⟩)) x9 x10 x11 x12 x13 x14 x15 x16 x17 x18 x19 x22 x23 x24 x25 x26 n i v ⟨rfl, rfl⟩) sB [.code (.seq (.cond (.tmp 22) .skip (.exit 2)) (.seq (.block 3 sR9) sR10)), .inLoop sL2, .inBlock 2, .code sEnd] cs
  obtain ⟨t3, v3, ⟨rfl, rfl⟩, hs3⟩ := ops_more (P := Try.prog) (ops := opsOf sR9) (ops2 := opsOf sR9) (K := fun a v3 => a = ⟨#[z0, z1, z2, .pointer (some ⟨b1, 0, none⟩), .pointer (some ⟨b2, 0, none⟩), .pointer (some ⟨b3, 0, none⟩), z6, .pointer (some ⟨b4, 0, none⟩), .pointer (some ⟨b5, 0, none⟩), x9, x10, x11, x12, x13, x14, x15, x16, x17, x18, x19, .int .i64 (n : Nat), .int .i64 (i : Nat), .bool (decide ((i : Int) < (n : Int))), .chan (some bC), x24, x25, x26], []⟩ ∧ v3 = v1) (fun _ => rfl) [0] _ v1 (fun _ _ => rfl)
    (s_chan z0 z1 z2 (.pointer (some ⟨b1, 0, none⟩)) (.pointer (some ⟨b2, 0, none⟩)) (.pointer (some ⟨b3, 0, none⟩)) z6 (.pointer (some ⟨b4, 0, none⟩)) x9 x10 x11 x12 x13 x14 x15 x16 x17 x18 x19 (.int .i64 (n : Nat)) (.int .i64 (i : Nat)) (.bool (decide ((i : Int) < (n : Int)))) x23 x24 x25 x26 ⟨b5, 0, none⟩ bC v1 h5 ⟨rfl, rfl⟩) sB [1] sK2 cs
  refine ⟨#[z0, z1, z2, .pointer (some ⟨b1, 0, none⟩), .pointer (some ⟨b2, 0, none⟩), .pointer (some ⟨b3, 0, none⟩), z6, .pointer (some ⟨b4, 0, none⟩), .pointer (some ⟨b5, 0, none⟩), x9, x10, x11, x12, x13, x14, x15, x16, x17, x18, x19, .int .i64 (n : Nat), .int .i64 (i : Nat), .bool (decide ((i : Int) < (n : Int))), .chan (some bC), x24, x25, x26], ⟨_, _, _, _, _, _, _, _, _, _, _, _, _, _, _, _, _, _, _, _, rfl⟩, rfl, ?_⟩
  unfold sH2
  rw [s_l2]
  refine .head step_seq (Steps.trans hs1 (.head step_seq (.head (step_cond (t := true) (by rw [show (decide ((i : Int) < (n : Int))) = true from decide_eq_true (by omega)]; rfl)) ?_)))
  refine .head step_skip (.head step_seq (.head step_block ?_))
  rw [show sR9 = .region 9 (opsOf sR9) false from s_r9]
  refine .head step_region ?_
  rw [show List.range (opsOf sR9).size = [0] ++ [1] from by rw [s_size9]; rfl]
  exact hs3

theorem recv_next (h : S2 b1 b2 b3 b4 b5 n i t) (hi : i ≤ 1000) (cs : List Frame) : ∃ t', S2 b1 b2 b3 b4 b5 n (i + 1) t' ∧ Steps Try.prog (lone (sB.at ⟨t, []⟩ (.inRegion (opsOf sR9) [] :: sK2)) cs v) (lone (sB.at ⟨t', []⟩ sH2) cs v) := by
  obtain ⟨z0, z1, z2, z6, x9, x10, x11, x12, x13, x14, x15, x16, x17, x18, x19, x22, x23, x24, x25, x26, rfl⟩ := h
  obtain ⟨t1, v1, ⟨rfl, rfl⟩, hs1⟩ := wp_steps (P := Try.prog) (K := fun a v1 => a = ⟨#[z0, z1, z2, .pointer (some ⟨b1, 0, none⟩), .pointer (some ⟨b2, 0, none⟩), .pointer (some ⟨b3, 0, none⟩), z6, .pointer (some ⟨b4, 0, none⟩), .pointer (some ⟨b5, 0, none⟩), x9, x10, x11, x12, x13, x14, x15, x16, x17, x18, x19, .int .i64 (n : Nat), .int .i64 ((i : Int) + 1), x22, x23, x24, .int .i64 ((i : Int) + 1), x26], []⟩ ∧ v1 = v)
    (s_inc2 z0 z1 z2 (.pointer (some ⟨b1, 0, none⟩)) (.pointer (some ⟨b2, 0, none⟩)) (.pointer (some ⟨b3, 0, none⟩)) z6 (.pointer (some ⟨b4, 0, none⟩)) (.pointer (some ⟨b5, 0, none⟩)) x9 x10 x11 x12 x13 x14 x15 x16 x17 x18 x19 (.int .i64 (n : Nat)) x22 x23 x24 x25 x26 i v (by omega) ⟨rfl, rfl⟩) sB [.inLoop sL2, .inBlock 2, .code sEnd] cs
  refine ⟨#[z0, z1, z2, .pointer (some ⟨b1, 0, none⟩), .pointer (some ⟨b2, 0, none⟩), .pointer (some ⟨b3, 0, none⟩), z6, .pointer (some ⟨b4, 0, none⟩), .pointer (some ⟨b5, 0, none⟩), x9, x10, x11, x12, x13, x14, x15, x16, x17, x18, x19, .int .i64 (n : Nat), .int .i64 ((i + 1 : Nat) : Int), x22, x23, x24, .int .i64 ((i + 1 : Nat) : Int), x26], ⟨_, _, _, _, _, _, _, _, _, _, _, _, _, _, _, _, _, _, .int .i64 ((i + 1 : Nat) : Int), _, rfl⟩, .head step_region_end (.head step_inBlock (Steps.trans hs1 (.one ?_)))⟩
  rw [show ((i : Int) + 1) = ((i + 1 : Nat) : Int) from by omega]
  exact step_inLoop

theorem head2_exit (h : S2 b1 b2 b3 b4 b5 n n t) (cs : List Frame) : ∃ t', S2 b1 b2 b3 b4 b5 n n t' ∧ Steps Try.prog (lone (sB.at ⟨t, []⟩ sH2) cs v) (lone (sB.at ⟨t', []⟩ [.code sEnd]) cs v) := by
  obtain ⟨z0, z1, z2, z6, x9, x10, x11, x12, x13, x14, x15, x16, x17, x18, x19, x22, x23, x24, x25, x26, rfl⟩ := h
  obtain ⟨t1, v1, ⟨rfl, rfl⟩, hs1⟩ := wp_steps (P := Try.prog) (K := fun a v1 => a = ⟨#[z0, z1, z2, .pointer (some ⟨b1, 0, none⟩), .pointer (some ⟨b2, 0, none⟩), .pointer (some ⟨b3, 0, none⟩), z6, .pointer (some ⟨b4, 0, none⟩), .pointer (some ⟨b5, 0, none⟩), x9, x10, x11, x12, x13, x14, x15, x16, x17, x18, x19, .int .i64 (n : Nat), .int .i64 (n : Nat), .bool (decide ((n : Int) < (n : Int))), x23, x24, x25, x26], []⟩ ∧ v1 = v)
    (s_more2 z0 z1 z2 (.pointer (some ⟨b1, 0, none⟩)) (.pointer (some ⟨b2, 0, none⟩)) (.pointer (some ⟨b3, 0, none⟩)) z6 (.pointer (some ⟨b4, 0, none⟩)) (.pointer (some ⟨b5, 0, none⟩)) x9 x10 x11 x12 x13 x14 x15 x16 x17 x18 x19 x22 x23 x24 x25 x26 n n v ⟨rfl, rfl⟩) sB [.code (.seq (.cond (.tmp 22) .skip (.exit 2)) (.seq (.block 3 sR9) sR10)), .inLoop sL2, .inBlock 2, .code sEnd] cs
  refine ⟨#[z0, z1, z2, .pointer (some ⟨b1, 0, none⟩), .pointer (some ⟨b2, 0, none⟩), .pointer (some ⟨b3, 0, none⟩), z6, .pointer (some ⟨b4, 0, none⟩), .pointer (some ⟨b5, 0, none⟩), x9, x10, x11, x12, x13, x14, x15, x16, x17, x18, x19, .int .i64 (n : Nat), .int .i64 (n : Nat), .bool (decide ((n : Int) < (n : Int))), x23, x24, x25, x26], ⟨_, _, _, _, _, _, _, _, _, _, _, _, _, _, _, _, _, _, _, _, rfl⟩, ?_⟩
  unfold sH2
  rw [s_l2]
  refine .head step_seq (Steps.trans hs1 (.head step_seq (.head (step_cond (t := false) (by rw [show (decide ((n : Int) < (n : Int))) = false from decide_eq_false (by omega)]; rfl)) ?_)))
  exact .one (step_exit rfl)
end
end Go.Proofs.Ytmfglflahlddbaa
namespace Go.Proofs.Ytmfglflahlddbaa
open Go.ChangeShapes Go.WideShapes Go.ChangeAt Go.RowKit Sm Go.Conc
set_option linter.unusedVariables false

section
variable {b1 b2 b3 b4 b5 bC n i : Nat} {t : Array Value} {v w : World} {Ch : Nat → Prop}
/-- What the starter reads in the phase. -/
structure SG (Ch : Nat → Prop) (b2 b5 bC n : Nat) (v : World) : Prop where
  h2 : v.cell? ⟨b2, 0, none⟩ = some (.int .i64 n)
  h5 : v.cell? ⟨b5, 0, none⟩ = some (.chan (some bC))
  ch : ∀ b, Ch b → ∃ o, v.heap[b]? = some o ∧ ¬ IsMap o
theorem SG.old (h : SG Ch b2 b5 bC n v) (ho : OldSame v w) : SG Ch b2 b5 bC n w := ⟨ho.cell h.h2, ho.cell h.h5, fun b hb => by
  obtain ⟨o, h1, h2⟩ := h.ch b hb
  exact ⟨o, ho.get h1, h2⟩⟩
theorem frz_cell (v : World) (p : Addr) : (frz v).cell? p = v.cell? p := by
  unfold World.cell? frz
  simp only [Array.getElem?_map]
  cases v.heap[p.block]? with
  | none => rfl
  | some o => cases o <;> rfl
theorem SG.frz (h : SG Ch b2 b5 bC n v) : SG Ch b2 b5 bC n (frz v) := ⟨(frz_cell _ _).trans h.h2, (frz_cell _ _).trans h.h5, fun b hb => by
  obtain ⟨o, h1, h2⟩ := h.ch b hb
  refine ⟨frzO o, by simp [Sm.frz, h1], ?_⟩
  cases o <;> exact h2⟩
theorem SG.rt {T : Tape} {d : Nat} (h : SG Ch b2 b5 bC n v) : SG Ch b2 b5 bC n (Sm.rt v T d) := ⟨h.h2, h.h5, h.ch⟩
theorem SG.map (h : SG Ch b2 b5 bC n v) : ∀ b o, Ch b → v.heap[b]? = some o → ¬ IsMap o := fun b o hb hg => by
  obtain ⟨o1, h1, h2⟩ := h.ch b hb
  rw [h1] at hg
  cases hg; exact h2

/-- Behind the last receive. -/
def SFin (b1 b2 b3 b4 b5 n : Nat) (up0 : List Frame) : VStop := fun fr up v => up = up0 ∧ ∃ t, S2 b1 b2 b3 b4 b5 n (n - 1) t ∧ fr = sB.at ⟨t, []⟩ (.inRegion (opsOf sR9) [] :: sK2)

theorem S2.put (h : S2 b1 b2 b3 b4 b5 n i t) (x : Value) : S2 b1 b2 b3 b4 b5 n i (t.setIfInBounds 24 x) := by
  obtain ⟨z0, z1, z2, z6, x9, x10, x11, x12, x13, x14, x15, x16, x17, x18, x19, x22, x23, x24, x25, x26, rfl⟩ := h
  exact ⟨z0, z1, z2, z6, x9, x10, x11, x12, x13, x14, x15, x16, x17, x18, x19, x22, x23, x, x25, x26, by simp only [List.setIfInBounds_toArray, List.set_cons_zero, List.set_cons_succ]⟩
theorem s_rcvAt (h : t.getD 23 undef = .chan (some bC)) : RcvOp bC (sB.at ⟨t, []⟩ (.inRegion (opsOf sR9) [1] :: sK2)) (sB.at ⟨t.setIfInBounds 24 (.bool true), []⟩ (.inRegion (opsOf sR9) [] :: sK2)) := by
  refine ⟨t, sRc, fun x => sB.at ⟨t.setIfInBounds 24 x, []⟩ (.inRegion (opsOf sR9) [] :: sK2), 74, 23, ⟨_, _, _, _, _, _, rfl, s_rc, s_rcG, fun x => ?_⟩, s_rcOp, h, rfl⟩
  rw [s_rcD]; rfl

theorem s_rnext (up : List Frame) : ∀ (r i : Nat) (t : Array Value) (v : World), i + 1 + r = n → n ≤ 8 → S2 b1 b2 b3 b4 b5 n i t → SG Ch b2 b5 bC n v → RNext Try.prog Ch bC (SFin b1 b2 b3 b4 b5 n up) r (sB.at ⟨t, []⟩ (.inRegion (opsOf sR9) [] :: sK2)) up v := by
  intro r
  induction r with
  | zero =>
    intro i t v hi hn hS hG
    refine ⟨rfl, t, ?_, rfl⟩
    rw [show n - 1 = i from by omega]; exact hS
  | succ r ih =>
    intro i t v hi hn hS hG T d
    obtain ⟨t1, hS1, hs1⟩ := recv_next (v := Sm.rt v T d) hS (by omega) (up ++ [trap])
    obtain ⟨t2, hS2, h23, hs2⟩ := head2_recv (v := Sm.rt v T d) hS1 (by omega) hG.rt.h5 (up ++ [trap])
    exact ⟨_, up, _, Steps.trans hs1 hs2, ⟨rfl, .inl rfl⟩, ⟨_, s_rcvAt h23, ih (i + 1) _ _ (by omega) hn (hS2.put _) hG.rt⟩, hG.rt.map⟩

theorem s_goAt (up : List Frame) (b : Nat) (hb : v.heap[b]? = some (.cells #[.int .i64 (i : Nat)] 2 (0, 0))) (h : t.getD 18 undef = .func (.func 47) #[] #[.pointer (some ⟨b, 0, none⟩), .pointer (some ⟨b1, 0, none⟩), .pointer (some ⟨b2, 0, none⟩), .pointer (some ⟨b3, 0, none⟩), .pointer (some ⟨b4, 0, none⟩), .pointer (some ⟨b5, 0, none⟩)]) :
    GoAt 47 [b1, b2, b3, b4, b5] 2 i (sB.at ⟨t, []⟩ (.inRegion (opsOf sR5) [1] :: sK1)) (sB.at ⟨t, []⟩ (.inRegion (opsOf sR5) [] :: sK1)) v := by
  refine ⟨b, ⟨t, sGo, fun x => sB.at ⟨t, []⟩ (.inRegion (opsOf sR5) [] :: sK1), callOf sGo.op, 18, ⟨_, _, _, _, _, _, rfl, s_go, s_goG, fun x => ?_⟩, s_goOp, s_goC, s_goA, ?_, rfl⟩, hb⟩
  · rw [s_goD]; rfl
  · rw [h]; simp

/-- ████ THE STARTER's SCRIPT, FROM BEHIND A GO STATEMENT ████ -/
theorem s_gnext (up : List Frame) : ∀ (s i : Nat) (t : Array Value) (v : World), i + 1 + s = n → n ≤ 8 → S1 b1 b2 b3 b4 b5 n i t → SG Ch b2 b5 bC n v →
    GNext Try.prog Ch 47 [b1, b2, b3, b4, b5] 2 bC n (SFin b1 b2 b3 b4 b5 n up) s (sB.at ⟨t, []⟩ (.inRegion (opsOf sR5) [] :: sK1)) up v := by
  intro s
  induction s with
  | zero =>
    intro i t v hi hn hS hG
    obtain ⟨m, hm⟩ : ∃ m, n = m + 1 := ⟨i, by omega⟩
    show RNext Try.prog Ch bC (SFin b1 b2 b3 b4 b5 n up) n _ up v
    have key : RNext Try.prog Ch bC (SFin b1 b2 b3 b4 b5 n up) (m + 1) (sB.at ⟨t, []⟩ (.inRegion (opsOf sR5) [] :: sK1)) up v := by
      intro T d
      obtain ⟨t1, hS1, hs1⟩ := go_next (v := Sm.rt v T d) hS (by omega) (up ++ [trap])
      rw [show i + 1 = n from by omega] at hS1
      obtain ⟨t2, hS2, hs2⟩ := head1_exit (v := Sm.rt v T d) hS1 hG.rt.h2 (up ++ [trap])
      obtain ⟨t3, hS3, h23, hs3⟩ := head2_recv (v := Sm.rt v T d) hS2 (by omega) hG.rt.h5 (up ++ [trap])
      exact ⟨_, up, _, Steps.trans hs1 (Steps.trans hs2 hs3), ⟨rfl, .inl rfl⟩, ⟨_, s_rcvAt h23, s_rnext up m 0 _ _ (by omega) hn (hS3.put _) hG.rt⟩, hG.rt.map⟩
    rw [← hm] at key; exact key
  | succ s ih =>
    intro i t v hi hn hS hG T d
    obtain ⟨t1, hS1, hs1⟩ := go_next (v := Sm.rt v T d) hS (by omega) (up ++ [trap])
    obtain ⟨t2, v2, hS2, ho, hbox, h18, hs2⟩ := head1_go (v := Sm.rt v T d) hS1 (by omega) (up ++ [trap])
    have hG2 := hG.rt (T := T) (d := d) |>.old ho
    refine ⟨_, up, v2, Steps.trans hs1 hs2, ⟨rfl, .inl rfl⟩, ⟨_, ?_, ih (i + 1) t2 _ (by omega) hn hS2 hG2.frz⟩, hG2.map⟩
    rw [show n - (s + 1) = i + 1 from by omega]
    exact s_goAt up _ hbox h18

/-- ████ .. FROM ITS LOOP's HEAD ████ -/
theorem s_ghead (up : List Frame) (t : Array Value) (v : World) (h1 : 1 ≤ n) (hn : n ≤ 8) (hS : S1 b1 b2 b3 b4 b5 n 0 t) (hG : SG Ch b2 b5 bC n v) :
    GNext Try.prog Ch 47 [b1, b2, b3, b4, b5] 2 bC n (SFin b1 b2 b3 b4 b5 n up) n (sB.at ⟨t, []⟩ sH1) up v := by
  obtain ⟨m, hm⟩ : ∃ m, n = m + 1 := ⟨n - 1, by omega⟩
  have key : GNext Try.prog Ch 47 [b1, b2, b3, b4, b5] 2 bC n (SFin b1 b2 b3 b4 b5 n up) (m + 1) (sB.at ⟨t, []⟩ sH1) up v := by
    intro T d
    obtain ⟨t2, v2, hS2, ho, hbox, h18, hs2⟩ := head1_go (v := Sm.rt v T d) hS (by omega) (up ++ [trap])
    have hG2 := hG.rt (T := T) (d := d) |>.old ho
    refine ⟨_, up, v2, hs2, ⟨rfl, .inl rfl⟩, ⟨_, ?_, s_gnext up m 0 t2 _ (by omega) hn hS2 hG2.frz⟩, hG2.map⟩
    rw [show n - (m + 1) = 0 from by omega]
    exact s_goAt up _ hbox h18
  have e : GNext Try.prog Ch 47 [b1, b2, b3, b4, b5] 2 bC n (SFin b1 b2 b3 b4 b5 n up) n = GNext Try.prog Ch 47 [b1, b2, b3, b4, b5] 2 bC n (SFin b1 b2 b3 b4 b5 n up) (m + 1) := by
    congr 1
  rw [e]; exact key
end
end Go.Proofs.Ytmfglflahlddbaa
namespace Go.Proofs.Ytmfglflahlddbaa
open Go.ChangeShapes Go.WideShapes Go.ChangeAt Go.RowKit Sm Go.Conc
set_option linter.unusedVariables false
theorem cell_of {v : World} {b : Nat} {c : Array Value} {el : TypeId} {fz : Nat × Nat} (h : v.heap[b]? = some (.cells c el fz)) (i : Nat) : v.cell? ⟨b, i, none⟩ = c[i]? := by
  unfold World.cell?
  rw [h]; rfl
theorem shade_cell {u : World} {bO : Nat} {el : TypeId} {p : Addr} (h : p.block ≠ bO) : (shade u bO el).cell? p = u.cell? p := by
  unfold shade
  rw [frz_cell]
  unfold World.cell?
  rw [cut_ne h]
theorem push_cell {u : World} {o : Go.Obj} {p : Addr} {x : Value} (h : u.cell? p = some x) : ({ u with heap := u.heap.push o } : World).cell? p = some x := by
  have hlt : p.block < u.heap.size := block_lt_of_cell h
  unfold World.cell? at h ⊢
  simp only [Array.getElem?_push, if_neg (show ¬ p.block = u.heap.size from by omega)]
  exact h
theorem Rd.kp {w w' : World} {B s n : Nat} {A : Option Addr} {xs : List Value} (h : Rd w B s A n xs) (hk : ∀ (p : Addr) x, p.block < B → x ∈ xs → w.cell? p = some x → w'.cell? p = some x) : Rd w' B s A n xs :=
  ⟨h.1, fun hn => by
    obtain ⟨ad, e, hb, hc⟩ := h.2 hn
    exact ⟨ad, e, hb, fun j u hu => hk _ u (by rw [add_block]; exact hb) (List.mem_of_getElem? hu) (hc j u hu)⟩⟩
theorem ints_mem {zs : List Int} {x : Value} (h : x ∈ ints zs) : ∃ z, x = .int .i64 z := by
  simp only [ints, List.mem_map] at h
  obtain ⟨z, _, rfl⟩ := h
  exact ⟨z, rfl⟩
theorem flat_mem {rs : List Ru} {x : Value} (h : x ∈ flat rs) : (∃ z, x = .int .i64 z) ∨ ∃ r ∈ rs, x = r.V := by
  simp only [flat, List.mem_flatMap] at h
  obtain ⟨r, hr, hx⟩ := h
  simp only [Ru.cells, List.mem_cons, List.not_mem_nil, or_false] at hx
  rcases hx with rfl | rfl | rfl | rfl | rfl
  · exact .inl ⟨_, rfl⟩
  · exact .inr ⟨r, hr, rfl⟩
  · exact .inl ⟨_, rfl⟩
  · exact .inl ⟨_, rfl⟩
  · exact .inl ⟨_, rfl⟩
theorem rws_mem {rs : List Rw} {x : Value} (h : x ∈ rws rs) : ∃ r ∈ rs, x = r.V := by
  simp only [rws, List.mem_map] at h
  obtain ⟨r, hr, rfl⟩ := h
  exact ⟨r, hr, rfl⟩
section
variable {w w' : World} {Q : Value → Prop}
theorem RRd.kp {B m : Nat} {A : Option Addr} {rs : List Ru} (h : RRd w B A m rs) (hq : ∀ r ∈ rs, Q r.V) (hi : ∀ z, Q (.int .i64 z)) (hk : ∀ (p : Addr) x, p.block < B → Q x → w.cell? p = some x → w'.cell? p = some x) : RRd w' B A m rs :=
  ⟨h.1.kp fun p x hp hx => hk p x hp (by
    rcases flat_mem hx with ⟨z, rfl⟩ | ⟨r, hr, rfl⟩
    · exact hi z
    · exact hq r hr), fun r hr => (h.2 r hr).kp fun p x hp hx => hk p x hp (by obtain ⟨z, rfl⟩ := ints_mem hx; exact hi z)⟩
theorem MRd.kp {B m : Nat} {A : Option Addr} {rs : List Rw} (h : MRd w B A m rs) (hq : ∀ r ∈ rs, Q r.V) (hi : ∀ z, Q (.int .i64 z)) (hk : ∀ (p : Addr) x, p.block < B → Q x → w.cell? p = some x → w'.cell? p = some x) : MRd w' B A m rs :=
  ⟨h.1.kp fun p x hp hx => hk p x hp (by
    obtain ⟨r, hr, rfl⟩ := rws_mem hx
    exact hq r hr), fun r hr => (h.2 r hr).kp fun p x hp hx => hk p x hp (by obtain ⟨z, rfl⟩ := ints_mem hx; exact hi z)⟩
end
/-- What the phase finds. -/
structure PhF (v : World) (B b1 b2 b3 b4 b5 bL bM bD bO bC : Nat) (A : Option Addr) (ln lc n : Nat) (AL : Option Addr) (m cl : Nat) (AM : Option Addr) (ck : Nat) (day : Int) (rs : List Ru) (ws : List Rw) : Prop where
  c1 : ∃ el fz, v.heap[b1]? = some (.cells #[.slice A ln lc] el fz)
  c2 : ∃ el fz, v.heap[b2]? = some (.cells #[.int .i64 n] el fz)
  c3 : ∃ el fz, v.heap[b3]? = some (.cells #[.func (.func 32) #[] #[.pointer (some ⟨bL, 0, none⟩), .pointer (some ⟨bM, 0, none⟩), .pointer (some ⟨bD, 0, none⟩)]] el fz)
  c4 : ∃ el fz, v.heap[b4]? = some (.cells #[.slice (some ⟨bO, 0, none⟩) ln ln] el fz)
  c5 : ∃ el fz, v.heap[b5]? = some (.cells #[.chan (some bC)] el fz)
  cL : v.cell? ⟨bL, 0, none⟩ = some (.slice AL m cl)
  cM : v.cell? ⟨bM, 0, none⟩ = some (.slice AM ln ck)
  cD : v.cell? ⟨bD, 0, none⟩ = some (.int .i64 day)
  cO : ∃ zs0, v.heap[bO]? = some (.cells zs0 2 (0, 0)) ∧ zs0.size = ln
  cC : chansOf v bC
  hB : B ≤ bO
  rA : Rd v B 1 A ln (ints (up 0 ln))
  kA : Hk v (.slice A ln lc)
  rL : RRd v B AL m rs
  kL : Hk v (.slice AL m cl)
  kR : ∀ r ∈ rs, Hk v r.V
  rM : MRd v B AM ln ws
  kM : Hk v (.slice AM ln ck)
  kW : ∀ r ∈ ws, Hk v r.V
  d1 : bO ≠ b1 ∧ bO ≠ b2 ∧ bO ≠ b3 ∧ bO ≠ b4 ∧ bO ≠ b5 ∧ bO ≠ bL ∧ bO ≠ bM ∧ bO ≠ bD
  hn : 1 ≤ n ∧ n ≤ 8
  wc : WkC (rs.map Ru.dat) ws day ln

section
variable {v : World} {B b1 b2 b3 b4 b5 bL bM bD bO bC : Nat} {A : Option Addr} {ln lc n : Nat} {AL : Option Addr} {m cl : Nat} {AM : Option Addr} {ck : Nat} {day : Int} {rs : List Ru} {ws : List Rw}
theorem PhF.ltO (h : PhF v B b1 b2 b3 b4 b5 bL bM bD bO bC A ln lc n AL m cl AM ck day rs ws) : bO < v.heap.size := by
  obtain ⟨zs, e, _⟩ := h.cO
  exact (Array.getElem?_eq_some_iff.1 e).1
/-- The world that a worker starts in. -/
noncomputable def wkW (v : World) (bO : Nat) (o : Go.Obj) : World := { shade (fadeW (Nn v) v) bO 2 with heap := (shade (fadeW (Nn v) v) bO 2).heap.push o }
theorem wk_cell {o : Go.Obj} {p : Addr} {x : Value} (hp : p.block ≠ bO) (h : v.cell? p = some x) (hx : ∀ b, Pt x b → Nn v b) : (wkW v bO o).cell? p = some x := by
  refine push_cell ?_
  rw [shade_cell hp]
  exact fade_cell h hx
theorem PhF.work (h : PhF v B b1 b2 b3 b4 b5 bL bM bD bO bC A ln lc n AL m cl AM ck day rs ws) (o : Go.Obj) : WkF (wkW v bO o) ⟨b1, 0, none⟩ ⟨b2, 0, none⟩ ⟨b3, 0, none⟩ ⟨b4, 0, none⟩ ⟨b5, 0, none⟩ ⟨bL, 0, none⟩ ⟨bM, 0, none⟩ ⟨bD, 0, none⟩ A ln lc ln n bO bC AL m cl AM ck day (rs.map Ru.dat) ws := by
  obtain ⟨d1, d2, d3, d4, d5, dL, dM, dD⟩ := h.d1
  have hlt := h.ltO
  have one : ∀ {b : Nat} {x : Value}, bO ≠ b → (∃ el fz, v.heap[b]? = some (.cells #[x] el fz)) → (∀ b, Pt x b → Nn v b) → (wkW v bO o).cell? ⟨b, 0, none⟩ = some x := by
    intro b x hb ⟨el, fz, hc⟩ hx
    exact wk_cell (Ne.symm hb) (by rw [cell_of hc]; rfl) hx
  have kc : ∀ {b : Nat} {x : Value}, (∃ el fz, v.heap[b]? = some (.cells #[x] el fz)) → Kc v b := fun ⟨el, fz, hc⟩ => ⟨_, el, fz, hc⟩
  have hsz : B ≤ (wkW v bO o).heap.size := by
    show B ≤ ((shade (fadeW (Nn v) v) bO 2).heap.push o).size
    rw [Array.size_push, shade_size, fade_size]
    have := h.hB
    omega
  have key : ∀ (p : Addr) x, p.block < B → (∀ b, Pt x b → Nn v b) → v.cell? p = some x → (wkW v bO o).cell? p = some x := fun p x hp hx hc => wk_cell (by have := h.hB; omega) hc hx
  have hint : ∀ z, ∀ b, Pt (.int .i64 z) b → Nn v b := fun z b hb => absurd hb pt_int
  refine ⟨one d1 h.c1 h.kA.nn, one d2 h.c2 (hint _), one d3 h.c3 (fun b hb => ?_), one d4 h.c4 (fun b hb => ?_), one d5 h.c5 (fun b hb => ?_), wk_cell (Ne.symm dL) h.cL h.kL.nn, wk_cell (Ne.symm dM) h.cM h.kM.nn, wk_cell (Ne.symm dD) h.cD (hint _), ?_, ?_, ?_⟩
  · cases hb with
    | first h1 hx => simp at h1
    | @capt _ _ _ i x _ h1 hx =>
      rcases i with _ | _ | _ | i
      · simp at h1; subst h1; cases hx; exact .inl (Kc.of_cell h.cL)
      · simp at h1; subst h1; cases hx; exact .inl (Kc.of_cell h.cM)
      · simp at h1; subst h1; cases hx; exact .inl (Kc.of_cell h.cD)
      · simp at h1
  · cases hb
    obtain ⟨zs, e, _⟩ := h.cO
    exact .inl ⟨_, _, _, e⟩
  · cases hb; exact .inr h.cC
  · exact ⟨rs, (h.rL.kp (Q := fun x => ∀ b, Pt x b → Nn v b) (fun r hr => (h.kR r hr).nn) hint key).more hsz, rfl⟩
  · exact (h.rM.kp (Q := fun x => ∀ b, Pt x b → Nn v b) (fun r hr => (h.kW r hr).nn) hint key).more hsz
  · exact (h.rA.kp fun p x hp hx => key p x hp (by obtain ⟨z, rfl⟩ := ints_mem hx; exact hint z)).more hsz

theorem rel_cell {F : FuncId → Prop} {R : BR} {v w : World} (h : WR F R v w) {b c : Nat} (hr : R b c) {cs : Array Value} {el : TypeId} {fz : Nat × Nat} (e : v.heap[b]? = some (.cells cs el fz)) {i : Nat} {x : Value} (hx : cs[i]? = some x) {b' : Nat} (hp : Pt x b') : ∃ c', R b' c' := by
  obtain ⟨o, o', ho, ho', hOR⟩ := h.obj b c hr
  rw [e] at ho
  cases ho
  cases hOR with
  | cells k1 k2 =>
    obtain ⟨y', g1, g2⟩ := k1 i x hx
    exact g2.pt hp

/-- ████ THE PHASE ████ -/
theorem shared_phase {H : Nat} {W : World} {gs : Array Goroutine} {w : World} {sl : Option (Nat × Nat)} {t : Trace} {q : Nat → Nat} {s : Sm.St} {t1 : Array Value} (hC : Sm.Calm Try.prog Fs12 H W (fun _ => False) gs w t q s)
    (hfr : s.fr = sB.at ⟨t1, []⟩ sH1) (hS : S1 b1 b2 b3 b4 b5 n 0 t1) (hF : PhF s.v B b1 b2 b3 b4 b5 bL bM bD bO bC A ln lc n AL m cl AM ck day rs ws) :
    ∃ N gs' w' sl' t' q' s', runNT Try.prog N (crowd gs w sl) t = (.next (crowd gs' w' sl'), t') ∧ Sm.Calm Try.prog Fs12 H W (fun _ => False) gs' w' t' q' s' ∧ s'.up = s.up ∧
      (∃ t2, S2 b1 b2 b3 b4 b5 n (n - 1) t2 ∧ s'.fr = sB.at ⟨t2, []⟩ (.inRegion (opsOf sR9) [] :: sK2)) ∧ s'.v.heap[bO]? = some (.cells (Sm.results (fA (rs.map Ru.dat) (ws.map Rw.zs) day) ln) 2 (0, 0)) ∧
      s.v.heap.size ≤ s'.v.heap.size ∧ ∀ (b : Nat) (c : Array Value) (el : TypeId) (fz : Nat × Nat), b ≠ bO → s.v.heap[b]? = some (.cells c el fz) → ∃ c', s'.v.heap[b]? = some (.cells c' el fz) ∧ c'.size = c.size ∧ ∀ (i : Nat) x, c[i]? = some x → (∀ b, Pt x b → Nn s.v b) → c'[i]? = some x := by
  have hslots : ∃ t', AVR (FFs Fs12) s.R t1 t' := by
    obtain ⟨fn1, u1, u1', todo1, mode1, kind1, e1, _, _, _, _, h6, _⟩ := hC.ok.1
    rw [hfr] at e1
    simp only [sB, Frame.at, Sm.B, Frame.mk.injEq] at e1
    obtain ⟨_, rfl, _⟩ := e1
    exact ⟨u1', h6⟩
  obtain ⟨t1', ht1⟩ := hslots
  have hs : ∀ (i : Nat) b, t1[i]? = some (.pointer (some ⟨b, 0, none⟩)) → ∃ c, s.R b c := fun i b hb => by
    obtain ⟨x', _, hv⟩ := ht1.get hb
    exact hv.pt (.pointer ⟨b, 0, none⟩)
  have hS' := hS
  obtain ⟨z0, z1, z2, z6, x9, x10, x11, x12, x13, x16, x17, x18, x19, x20, x21, x22, x23, x24, x25, x26, rfl⟩ := hS
  have r1 := hs 3 b1 rfl
  have r2 := hs 4 b2 rfl
  have r3 := hs 5 b3 rfl
  have r4 := hs 7 b4 rfl
  have r5 := hs 8 b5 rfl
  obtain ⟨e4, f4, k4⟩ := hF.c4
  obtain ⟨e5, f5, k5⟩ := hF.c5
  obtain ⟨q4, r4⟩ := r4
  obtain ⟨q5, r5⟩ := r5
  have rO : ∃ c, s.R bO c := rel_cell hC.wr r4 k4 (i := 0) rfl (.slice ⟨bO, 0, none⟩ _ _)
  have rC : ∃ c, s.R bC c := rel_cell hC.wr r5 k5 (i := 0) rfl (.chan bC)
  have kc : ∀ {b : Nat} {x : Value}, (∃ el fz, s.v.heap[b]? = some (.cells #[x] el fz)) → Kc s.v b := fun ⟨el, fz, hc⟩ => ⟨_, el, fz, hc⟩
  obtain ⟨zO, cO, szO⟩ := hF.cO
  have hch : ∀ b, chansOf s.v b → ∃ o, (shade (fadeW (Nn s.v) s.v) bO 2).heap[b]? = some o ∧ ¬ IsMap o := by
    rintro b ⟨s0, tm, e⟩
    have hne : b ≠ bO := by rintro rfl; rw [e] at cO; cases cO
    exact ⟨_, shade_non hne (fade_non e (by simp [IsCells])) (by simp [IsCells]), by simp [IsMap]⟩
  obtain ⟨N, gs', w', sl', t', q', s', hrun, hC', ⟨T, d, u, hup, t2, hS2, hfr2⟩, hrow, hsz, hkeep⟩ := phase_fade (sl := sl) (fW := 47) (n := n) (len := ln) (f := fA (rs.map Ru.dat) (ws.map Rw.zs) day) (bO := bO) (bC := bC) (el0 := 2) (elO := 2) (ps := [b1, b2, b3, b4, b5]) (Fin := SFin b1 b2 b3 b4 b5 n s.up)
    okP hC hF.hn.1 (by kernel_rfl) rO rC (fun b hb => by
      simp only [List.mem_cons, List.not_mem_nil, or_false] at hb
      rcases hb with rfl | rfl | rfl | rfl | rfl
      · exact ⟨r1, kc hF.c1⟩
      · exact ⟨r2, kc hF.c2⟩
      · exact ⟨r3, kc hF.c3⟩
      · exact ⟨⟨q4, r4⟩, kc hF.c4⟩
      · exact ⟨⟨q5, r5⟩, kc hF.c5⟩) ⟨zO, cO, szO⟩ hF.cC
    (fun k hk => by
      have := w_entry (Ch := chansOf s.v) (w1 := wkW s.v bO (.cells #[.int .i64 (k : Nat)] 2 (0, 1))) (fun b hb => by
        obtain ⟨o, h1, h2⟩ := hch b hb
        refine ⟨o, ?_, h2⟩
        show ((shade (fadeW (Nn s.v) s.v) bO 2).heap.push _)[b]? = some o
        rw [Array.getElem?_push, if_neg (by have := (Array.getElem?_eq_some_iff.1 h1).1; omega)]
        exact h1) hF.hn hF.wc (hF.work _) ⟨(shade (fadeW (Nn s.v) s.v) bO 2).heap.size, 0, none⟩ k (by
          unfold World.cell? wkW
          simp)
      simpa [wkW] using this)
    (by
      rw [hfr]
      refine s_ghead s.up _ _ hF.hn.1 hF.hn.2 hS' ⟨?_, ?_, hch⟩
      · obtain ⟨e2, f2, k2⟩ := hF.c2
        rw [shade_cell (Ne.symm hF.d1.2.1)]
        exact fade_cell (by rw [cell_of k2]; rfl) fun b hb => absurd hb pt_int
      · rw [shade_cell (Ne.symm hF.d1.2.2.2.2.1)]
        exact fade_cell (by rw [cell_of k5]; rfl) fun b hb => by cases hb; exact .inr hF.cC)
  exact ⟨N, gs', w', sl', t', q', s', hrun, hC', hup, ⟨t2, hS2, hfr2⟩, hrow, hsz, hkeep⟩
end
end Go.Proofs.Ytmfglflahlddbaa
