/-
  shared$1: the worker's script.
-/
import Derived.Test.YtneclhkpgalnlaaShP
import Derived.Test.YtneclhkpgalnlaaSafe
namespace Go.Proofs.Ytneclhkpgalnlaa
open Go.ChangeShapes Go.WideShapes Go.ChangeAt Go.RowKit Sm Go.Conc
set_option linter.unusedVariables false

theorem w_quits (t : Array Value) (ops : Array Oper) : QuitsIn Try.prog 4 (G ((B 29 .deferred).at ⟨t, []⟩ [.inRegion ops []]) [Sm.base Try.prog]) := by
  refine .inr ⟨rfl, _, fun w => stepG_region_end, ?_⟩
  refine .inr ⟨rfl, _, fun w => stepG_end, ?_⟩
  refine .inr ⟨rfl, G (Sm.base Try.prog) [], fun w => ?_, ?_⟩
  · have hf : ∃ fn, Try.prog.funcs[29]? = some fn ∧ fn.results = #[] := ⟨_, rfl, by kernel_rfl⟩
    obtain ⟨fn, h1, h2⟩ := hf
    simp [G, stepG, unwind, doReturn, results, Frame.at, B, Sm.base, h1, h2, seen, GStep.after, goexitEntry]
  refine .inr ⟨rfl, { G (Sm.base Try.prog) [] with status := .finished }, fun w => ?_, rfl⟩
  simp [G, stepG, unwind, Sm.base, goexitEntry, Frame.catches]
  rfl

theorem _root_.Go.Proofs.Ytneclhkpgalnlaa.Sm.OldSame.of_below {w w' : World} (h : Below w.heap.size w w') : OldSame w w' := ⟨h.size, h.block⟩

theorem how_any (z : Int) (ac : Addr) (R : Option Addr) (rn rc : Nat) (rs : List Int) (w : World) (hz : 0 ≤ z ∧ z ≤ 1000000000) (hc : w.cell? ac = some (.slice R rn rc)) (hr : Rd w w.heap.size 1 R rn (ints rs)) (hn : rn ≤ 60) (hs : RateIs rs) :
    Calls Try.prog 22 #[.int .i64 z, .pointer (some ac)] w fun e w'' => e = .returned (.int .i64 (safeR z rs)) ∧ OldSame w w'' := by
  have HZ := Lib.hid hs
  clear hs
  go_enter Try.func22, Try.ntmps22
  go_wp2_with fail
  refine (safe_any _ _ _ _ rs _ hz hr hn HZ.out).mono ?_
  rintro e w3 ⟨rfl, hb⟩
  go_wp2_with fail
  go_ret
  exact ⟨rfl, .of_below hb⟩

/-- What a worker finds. -/
structure WkF (w : World) (a1 a2 a3 a4 a5 ac : Addr) (A : Option Addr) (ln lc co n : Nat) (zs : List Int) (bO bC : Nat) (R : Option Addr) (rn rc : Nat) (rs : List Int) : Prop where
  h1 : w.cell? a1 = some (.slice A ln lc)
  h2 : w.cell? a2 = some (.int .i64 n)
  h3 : w.cell? a3 = some (.func (.func 22) #[] #[.pointer (some ac)])
  h4 : w.cell? a4 = some (.slice (some ⟨bO, 0, none⟩) ln co)
  h5 : w.cell? a5 = some (.chan (some bC))
  hr : w.cell? ac = some (.slice R rn rc)
  hR : Rd w w.heap.size 1 R rn (ints rs)
  hL : Rd w w.heap.size 1 A ln (ints zs)

section
variable {w w' : World} {a1 a2 a3 a4 a5 ac : Addr} {A R : Option Addr} {ln lc co n bO bC rn rc : Nat} {zs rs : List Int}
theorem Rd.old {B size m : Nat} {xs : List Value} (hB : B ≤ w.heap.size) (h : Rd w B size A m xs) (ho : OldSame w w') : Rd w' B size A m xs := h.keep fun p hp => by
  unfold World.cell?
  rw [ho.block _ (by omega)]
theorem WkF.old (h : WkF w a1 a2 a3 a4 a5 ac A ln lc co n zs bO bC R rn rc rs) (ho : OldSame w w') : WkF w' a1 a2 a3 a4 a5 ac A ln lc co n zs bO bC R rn rc rs :=
  ⟨ho.cell h.h1, ho.cell h.h2, ho.cell h.h3, ho.cell h.h4, ho.cell h.h5, ho.cell h.hr, (h.hR.old (Nat.le_refl _) ho).more ho.size, (h.hL.old (Nat.le_refl _) ho).more ho.size⟩

/-- At the loop's head. -/
noncomputable def WHead (a1 a2 a3 a4 a5 : Addr) (e : Nat) (x0 x7 x8 x9 x10 x11 x12 x13 x14 x15 x16 x17 x18 x19 x20 x21 x22 x23 x24 : Value) : Frame := (B 29 .deferred).at ⟨#[x0, .pointer (some a1), .pointer (some a2), .pointer (some a3), .pointer (some a4), .pointer (some a5), .int .i64 e, x7, x8, x9, x10, x11, x12, x13, x14, x15, x16, x17, x18, x19, x20, x21, x22, x23, x24], []⟩ [.code wLB, .inLoop wLB, .inBlock 0, .code wR4]

theorem cutLast_facts (ops : Array Oper) (h : ops.size = 10) : (cutLast ops).size = 10 ∧ (∀ i : Nat, i ≠ 9 → (cutLast ops)[i]? = ops[i]?) ∧ (∀ i : Nat, ((cutLast ops)[i]?).bind (fun o : Oper => o.dst) = (ops[i]?).bind (fun o : Oper => o.dst)) ∧
    (∀ i : Nat, ((cutLast ops)[i]?).map (fun o : Oper => o.after) = (ops[i]?).map (fun o : Oper => o.after)) ∧ (∀ o, ops[9]? = some o → (cutLast ops)[9]? = some { o with op := .move (.tmp 22) }) := by
  obtain ⟨l⟩ := ops
  rcases l with _ | ⟨o0, _ | ⟨o1, _ | ⟨o2, _ | ⟨o3, _ | ⟨o4, _ | ⟨o5, _ | ⟨o6, _ | ⟨o7, _ | ⟨o8, _ | ⟨o9, _ | ⟨o10, l⟩⟩⟩⟩⟩⟩⟩⟩⟩⟩⟩ <;> simp at h
  refine ⟨rfl, fun i hi => ?_, fun i => ?_, fun i => ?_, fun o ho => ?_⟩
  · rcases i with _ | _ | _ | _ | _ | _ | _ | _ | _ | _ | i <;> first | rfl | exact absurd rfl hi | simp [cutLast]
  · rcases i with _ | _ | _ | _ | _ | _ | _ | _ | _ | _ | i <;> first | rfl | simp [cutLast]
  · rcases i with _ | _ | _ | _ | _ | _ | _ | _ | _ | _ | i <;> first | rfl | simp [cutLast]
  · simp at ho
    subst ho
    rfl
def joinOk (ops : Array Oper) : Bool := ((List.range 10).all fun i => match ops[i]? with | some o => o.after.all fun e => !(Region.binds .any e) || decide (e.on < i) | none => true) &&
  (match ops[9]? with | some o => (List.range 9).all fun i => o.after.any fun e => Region.binds .any e && (e.on == i) | none => false)
theorem joinOk_of {ops : Array Oper} (hs : ops.size = 10) (h : joinOk ops = true) : (∀ (i : Nat) o, ops[i]? = some o → ∀ e ∈ o.after, Region.binds .any e = true → e.on < i) ∧
    (∀ o, ops[9]? = some o → ∀ i, i < 9 → ∃ e ∈ o.after, Region.binds .any e = true ∧ e.on = i) := by
  unfold joinOk at h
  rw [Bool.and_eq_true, List.all_eq_true] at h
  refine ⟨fun i o ho e he hb => ?_, fun o ho i hi => ?_⟩
  · have h1 := h.1 i (List.mem_range.2 (by have := (Array.getElem?_eq_some_iff.1 ho).1; omega))
    simp only [ho] at h1
    obtain ⟨j, hj, rfl⟩ := Array.mem_iff_getElem.1 he
    have h2 := Array.all_eq_true.1 h1 j hj
    rw [hb] at h2
    simpa using h2
  · have h1 := h.2
    simp only [ho, List.all_eq_true] at h1
    have h2 := h1 i (List.mem_range.2 hi)
    obtain ⟨j, hj, h3⟩ := Array.any_eq_true.1 h2
    simp only [Bool.and_eq_true, beq_iff_eq] at h3
    exact ⟨_, Array.getElem_mem hj, h3⟩
/-- The last of the round's operations. -/
noncomputable def wSt : Oper := match (opsOf wR3)[9]? with | some o => o | none => default
theorem w_st : (opsOf wR3)[9]? = some wSt := by kernel_rfl
theorem w_size : (opsOf wR3).size = 10 := by kernel_rfl
theorem w_join : joinOk (opsOf wR3) = true := by kernel_rfl
theorem w_stOp : wSt.op = .store 2 (.tmp 23) (.tmp 22) := by kernel_rfl
theorem w_stG : wSt.guard = none := by kernel_rfl
theorem w_stD : wSt.dst = none := by kernel_rfl
theorem one_int : OneCell Try.prog 2 := ⟨_, rfl, by kernel_rfl⟩

theorem w_round {K : Act → World → Prop} {a : Act} {w : World} (h : wpAny Try.prog .any (cutLast (opsOf wR3)) (QN K) 10 (Array.replicate 10 false) a { w with drawn := w.drawn + 1 }) (b : Frame) (k : List Item) (cs : List Frame) :
    ∃ a' w', K a' w' ∧ Steps Try.prog (lone (b.at a (.code wR3 :: k)) cs w) (lone (b.at a' (.inRegion (opsOf wR3) [9] :: k)) cs w') := by
  obtain ⟨f1, f2, f3, f4, f5⟩ := cutLast_facts _ w_size
  obtain ⟨j1, j2⟩ := joinOk_of w_size w_join
  rw [w_r3]
  refine region_cut (n := 9) (by kernel_rfl) w_size f1 (fun t => ?_) f2 f4 j1 j2 ⟨_, _, f5 _ w_st, rfl, w_stD, w_stG⟩ (by rw [f1]; exact h) b k cs
  funext j
  unfold yielded
  rw [f3]
end
end Go.Proofs.Ytneclhkpgalnlaa
