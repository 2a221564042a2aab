/-
  DrawsShared: in and out.
-/
import Derived.Test.YtneclhkpgalnlaaShM
import Derived.Test.YtneclhkpgalnlaaShO
import Derived.Test.YtneclhkpgalnlaaLawI
namespace Go.Proofs.Ytneclhkpgalnlaa
open Go.ChangeShapes Go.WideShapes Go.ChangeAt Go.RowKit Sm Go.Conc
set_option linter.unusedVariables false
noncomputable def dAll : Code := match Try.f7.body with | some c => c | none => .skip
noncomputable def dR0 : Code := sq1 dAll
noncomputable def dChk : Code := sq1 (sq2 dAll)
noncomputable def dR3 : Code := sq1 (sq2 (sq2 dAll))
theorem d_body : Try.f7.body = some (.seq dR0 (.seq dChk (.seq dR3 .ret))) := by kernel_rfl
theorem d_r3 : dR3 = .region 3 (opsOf dR3) false := by kernel_rfl
theorem d_size3 : (opsOf dR3).size = 6 := by kernel_rfl
noncomputable def dCall : Oper := match (opsOf dR3)[3]? with | some o => o | none => default
theorem d_call : (opsOf dR3)[3]? = some dCall := by kernel_rfl
theorem d_callOp : dCall.op = .call { callee := .value (.func 21), args := #[.tmp 21, .tmp 22, .tmp 23], argTypes := #[22, 2, 42] } := by kernel_rfl
theorem d_callG : dCall.guard = none := by kernel_rfl
theorem d_callD : dCall.dst = some 24 := by kernel_rfl

theorem d_r0w {K : Act → World → Prop} (A R : Option Addr) (n c m d : Nat) (k : Int) (x3 x4 x5 x6 x7 x8 x9 x10 x11 x12 x13 x14 x15 x16 x17 x18 x19 x20 x21 x22 x23 x24 : Value) (w : World)
    (hK : ∀ w', OldSame w w' → w'.heap.size = w.heap.size + 1 → w'.heap[w.heap.size]? = some (.cells #[.slice R m d] 22 (0, 0)) → K ⟨#[.slice A n c, .slice R m d, .int .i64 k, x3, .pointer (some ⟨w.heap.size, 0, none⟩), x5, .slice none 0 0, .bool false, x8, x9, x10, x11, x12, x13, x14, x15, x16, x17, x18, x19, x20, x21, x22, x23, x24], []⟩ w') :
    dR0.wp Try.prog (QN K) ⟨#[.slice A n c, .slice R m d, .int .i64 k, x3, x4, x5, x6, x7, x8, x9, x10, x11, x12, x13, x14, x15, x16, x17, x18, x19, x20, x21, x22, x23, x24], []⟩ w := by
  unfold dR0 dAll Try.f7
  dsimp only [sq1, sq2, inBl, opsOf]
  go_wp2_with fail
  exact ⟨rfl, hK _ (al_same _ _) (by simp) (al_new _ _)⟩

theorem d_chkw {K : Act → World → Prop} (A R : Option Addr) (n c m d : Nat) (zs rs : List Int) (k : Int) (a4 : Addr) (x3 x5 x6 x7 x8 x9 x10 x11 x12 x13 x14 x15 x16 x17 x18 x19 x20 x21 x22 x23 x24 : Value) (w : World) (hr : Rd w w.heap.size 1 A n (ints zs)) (hn : n ≤ 1048576) (hs : Rd w w.heap.size 1 R m (ints rs)) (hm : m ≤ 1048576) (hc : w.cell? a4 = some (.slice R m d)) (ha : a4.block < w.heap.size)
    (hok : shareOk zs rs k = true)
    (hK : ∀ w' y8 y9 y10 y11 y12 y13 y14 y15 y16 y17 y18 y19 y20, OldSame w w' → K ⟨#[.slice A n c, .slice R m d, .int .i64 k, x3, .pointer (some a4), x5, x6, x7, y8, y9, y10, y11, y12, y13, y14, y15, y16, y17, y18, y19, y20, x21, x22, x23, x24], []⟩ w') :
    dChk.wp Try.prog (QN K) ⟨#[.slice A n c, .slice R m d, .int .i64 k, x3, .pointer (some a4), x5, x6, x7, x8, x9, x10, x11, x12, x13, x14, x15, x16, x17, x18, x19, x20, x21, x22, x23, x24], []⟩ w := by
  have h0 := hok
  unfold shareOk at h0
  rw [Bool.and_eq_true, Bool.and_eq_true] at h0
  obtain ⟨⟨h1, h2⟩, h3⟩ := h0
  have HK := Lib.hid hK
  clear hK hok
  unfold dChk dAll Try.f7
  dsimp only [sq1, sq2, inBl, opsOf]
  go_wp2_with fail
  refine (hasCount_any _ _ _ zs _ _ _ _ _ hr (by omega)).mono ?_
  rintro e w2 ⟨rfl, hb⟩
  have hbox : w2.cell? a4 = some (.slice R m d) := by rw [hb.cell ha]; exact hc
  have hB2 := hb
  clear hb hc
  go_wp2_with fail
  refine (areReturns_any _ _ _ rs _ ((hs.below hB2).more hB2.size) (by omega)).mono ?_
  rintro e w3 ⟨rfl, hb⟩
  replace hB2 := below_step hB2 hb
  clear hb hbox
  go_wp2_with fail
  refine (isWorkers_any _ _).mono ?_
  rintro e w4 ⟨rfl, rfl⟩
  go_wp2_with fail
  exact ⟨rfl, HK.out _ _ _ _ _ _ _ _ _ _ _ _ _ _ (.of_below hB2)⟩

theorem d_argw {K : Act → World → Prop} (A R : Option Addr) (n c m d : Nat) (k : Int) (a4 : Addr) (x3 x5 x6 x7 x8 x9 x10 x11 x12 x13 x14 x15 x16 x17 x18 x19 x20 x21 x22 x23 x24 : Value) (w : World)
    (hK : K ⟨#[.slice A n c, .slice R m d, .int .i64 k, x3, .pointer (some a4), x5, x6, x7, x8, x9, x10, x11, x12, x13, x14, x15, x16, x17, x18, x19, x20, .slice A n c, .int .i64 k, .func (.func 22) #[] #[.pointer (some a4)], x24], []⟩ w) :
    wpOps Try.prog (opsOf dR3) (QN K) [0, 1, 2] ⟨#[.slice A n c, .slice R m d, .int .i64 k, x3, .pointer (some a4), x5, x6, x7, x8, x9, x10, x11, x12, x13, x14, x15, x16, x17, x18, x19, x20, x21, x22, x23, x24], []⟩ w := by
  unfold dR3 dAll Try.f7
  dsimp only [sq1, sq2, inBl, opsOf]
  go_wp2_with fail
  refine Or.inl ?_
  go_simp
  refine Or.inl ?_
  go_simp
  refine Or.inl ?_
  go_simp
  exact ⟨rfl, hK⟩
theorem d_resw {K : Act → World → Prop} (x0 x1 x2 x3 x4 x5 x6 x7 x8 x9 x10 x11 x12 x13 x14 x15 x16 x17 x18 x19 x20 x21 x22 x23 x24 : Value) (w : World)
    (hK : K ⟨#[x0, x1, x2, x3, x4, x5, x24, .bool true, x8, x9, x10, x11, x12, x13, x14, x15, x16, x17, x18, x19, x20, x21, x22, x23, x24], []⟩ w) :
    wpOps Try.prog (opsOf dR3) (QN K) [4, 5] ⟨#[x0, x1, x2, x3, x4, x5, x6, x7, x8, x9, x10, x11, x12, x13, x14, x15, x16, x17, x18, x19, x20, x21, x22, x23, x24], []⟩ w := by
  unfold dR3 dAll Try.f7
  dsimp only [sq1, sq2, inBl, opsOf]
  go_wp2_with fail
  refine Or.inl ?_
  go_simp
  refine Or.inl ?_
  go_simp
  exact ⟨rfl, hK⟩
end Go.Proofs.Ytneclhkpgalnlaa
namespace Go.Proofs.Ytneclhkpgalnlaa
open Go.ChangeShapes Go.WideShapes Go.ChangeAt Go.RowKit Sm Go.Conc
set_option linter.unusedVariables false

/-- A call is entered. -/
theorem step_call {P : Program} {b : Frame} {a : Act} {k : List Item} {cs : List Frame} {w w' : World} {ops : Array Oper} {i : Nat} {rest : List Nat} {o : Oper} {f : FuncId} {args : Array Value} (ho : ops[i]? = some o) (hg : o.guard = none) (hr : (execOp a.eval o).run P w = .ok (.enter f args) w') :
    step P (lone (b.at a (.inRegion ops (i :: rest) :: k)) cs w) = .next (lone (Frame.enter P f args .normal) (b.at a (.inRegion ops (i :: rest) :: k) :: cs) w') :=
  step_lone_go (by rw [stepG_op ho (wanted_none hg _)]; simp [stepG.apply, hr, Frame.at])

noncomputable def dB : Frame := B 7 .normal
/-- The frame that waits for the workers' list. -/
noncomputable def dF (t : Array Value) : Frame := dB.at ⟨t, []⟩ (.inRegion (opsOf dR3) [3, 4, 5] :: [.code .ret])

theorem d_enter (p0 p1 p2 : Value) : Frame.enter Try.prog 7 #[p0, p1, p2] .normal = dB.at ⟨#[p0, p1, p2, undef, undef, undef, undef, undef, undef, undef, undef, undef, undef, undef, undef, undef, undef, undef, undef, undef, undef, undef, undef, undef, undef], []⟩ [.code (.seq dR0 (.seq dChk (.seq dR3 .ret)))] := by
  have h1 : Try.prog.funcs[7]? = some Try.f7 := by kernel_rfl
  have h2 : Try.f7.ntmps = 25 := by kernel_rfl
  have e : #[p0, p1, p2] ++ Array.replicate (25 - #[p0, p1, p2].size) undef = #[p0, p1, p2, undef, undef, undef, undef, undef, undef, undef, undef, undef, undef, undef, undef, undef, undef, undef, undef, undef, undef, undef, undef, undef, undef] := by
    apply Array.ext'
    simp [List.replicate]
  rw [enter_eq h1 h2 d_body, e]
  rfl
/-- ████ FROM THE ENTRY TO THE CALL ████ -/
theorem ds_in (A R : Option Addr) (n c m d : Nat) (zs rs : List Int) (k : Int) (v : World) (hr : Rd v v.heap.size 1 A n (ints zs)) (hn : n ≤ 1048576) (hs : Rd v v.heap.size 1 R m (ints rs)) (hm : m ≤ 1048576) (hok : shareOk zs rs k = true) (cs : List Frame) :
    ∃ t v', t.size = 25 ∧ OldSame v v' ∧ v.heap.size < v'.heap.size ∧ v'.heap[v.heap.size]? = some (.cells #[.slice R m d] 22 (0, 0)) ∧
      Steps Try.prog (lone (Frame.enter Try.prog 7 #[.slice A n c, .slice R m d, .int .i64 k] .normal) cs v)
        (lone (Frame.enter Try.prog 21 #[.slice A n c, .int .i64 k, .func (.func 22) #[] #[.pointer (some ⟨v.heap.size, 0, none⟩)]] .normal) (dF t :: cs) v') := by
  obtain ⟨t1, v1, ⟨rfl, o1, s1, e1⟩, hs1⟩ := wp_steps (P := Try.prog) (K := fun a u => a = ⟨#[.slice A n c, .slice R m d, .int .i64 k, undef, .pointer (some ⟨v.heap.size, 0, none⟩), undef, .slice none 0 0, .bool false, undef, undef, undef, undef, undef, undef, undef, undef, undef, undef, undef, undef, undef, undef, undef, undef, undef], []⟩ ∧ OldSame v u ∧ u.heap.size = v.heap.size + 1 ∧ u.heap[v.heap.size]? = some (.cells #[.slice R m d] 22 (0, 0)))
    (d_r0w A R n c m d k undef undef undef undef undef undef undef undef undef undef undef undef undef undef undef undef undef undef undef undef undef undef v (fun w' h1 h2 h3 => ⟨rfl, h1, h2, h3⟩)) dB [.code (.seq dChk (.seq dR3 .ret))] cs
  obtain ⟨t2, v2, ⟨y8, y9, y10, y11, y12, y13, y14, y15, y16, y17, y18, y19, y20, rfl, o2⟩, hs2⟩ := wp_steps (P := Try.prog) (K := fun a u => ∃ y8 y9 y10 y11 y12 y13 y14 y15 y16 y17 y18 y19 y20, a = ⟨#[.slice A n c, .slice R m d, .int .i64 k, undef, .pointer (some ⟨v.heap.size, 0, none⟩), undef, .slice none 0 0, .bool false, y8, y9, y10, y11, y12, y13, y14, y15, y16, y17, y18, y19, y20, undef, undef, undef, undef], []⟩ ∧ OldSame v1 u)
    (d_chkw A R n c m d zs rs k ⟨v.heap.size, 0, none⟩ undef undef _ _ undef undef undef undef undef undef undef undef undef undef undef undef undef undef undef undef undef v1 ((hr.old (Nat.le_refl _) o1).more o1.size) hn ((hs.old (Nat.le_refl _) o1).more o1.size) hm (by rw [cell_of e1]; rfl) (by simp only; omega) hok (fun w' y8 y9 y10 y11 y12 y13 y14 y15 y16 y17 y18 y19 y20 h => ⟨y8, y9, y10, y11, y12, y13, y14, y15, y16, y17, y18, y19, y20, rfl, h⟩)) dB [.code (.seq dR3 .ret)] cs
  obtain ⟨t3, v3, ⟨rfl, rfl⟩, hs3⟩ := ops_more (P := Try.prog) (ops := opsOf dR3) (ops2 := opsOf dR3) (K := fun a u => a = ⟨#[.slice A n c, .slice R m d, .int .i64 k, undef, .pointer (some ⟨v.heap.size, 0, none⟩), undef, .slice none 0 0, .bool false, y8, y9, y10, y11, y12, y13, y14, y15, y16, y17, y18, y19, y20, .slice A n c, .int .i64 k, .func (.func 22) #[] #[.pointer (some ⟨v.heap.size, 0, none⟩)], undef], []⟩ ∧ u = v2) (fun _ => rfl) [0, 1, 2] _ v2 (fun _ _ => rfl)
    (d_argw A R n c m d k ⟨v.heap.size, 0, none⟩ undef undef _ _ y8 y9 y10 y11 y12 y13 y14 y15 y16 y17 y18 y19 y20 undef undef undef undef v2 ⟨rfl, rfl⟩) dB [3, 4, 5] [.code .ret] cs
  refine ⟨#[.slice A n c, .slice R m d, .int .i64 k, undef, .pointer (some ⟨v.heap.size, 0, none⟩), undef, .slice none 0 0, .bool false, y8, y9, y10, y11, y12, y13, y14, y15, y16, y17, y18, y19, y20, .slice A n c, .int .i64 k, .func (.func 22) #[] #[.pointer (some ⟨v.heap.size, 0, none⟩)], undef], v3, rfl, o1.trans o2, by have := o2.size; omega, o2.get e1, ?_⟩
  rw [d_enter]
  refine .head step_seq (Steps.trans hs1 (.head step_seq (Steps.trans hs2 (.head step_seq ?_))))
  rw [show dR3 = .region 3 (opsOf dR3) false from d_r3]
  refine .head step_region ?_
  rw [show List.range (opsOf dR3).size = [0, 1, 2] ++ [3, 4, 5] from by rw [d_size3]; rfl]
  refine Steps.trans hs3 (.one (step_call d_call d_callG ?_))
  unfold execOp
  rw [d_callOp]
  dsimp only
  go_simp
/-- ████ FROM THE LIST TO THE RETURN ████ -/
theorem ds_out {t : Array Value} (ht : t.size = 25) (x : Value) (c : Frame) (cs : List Frame) (v : World) : Steps Try.prog (lone ((dF t).finish x) (c :: cs) v) (lone (c.finish (.tuple #[x, .bool true])) cs v) := by
  have hf : (dF t).finish x = dB.at ⟨t.setIfInBounds 24 x, []⟩ (.inRegion (opsOf dR3) [4, 5] :: [.code .ret]) := by
    unfold dF
    rw [Frame.finish_at, d_call]
    simp only [Option.bind_some, d_callD]
    rfl
  obtain ⟨x0, x1, x2, x3, x4, x5, x6, x7, x8, x9, x10, x11, x12, x13, x14, x15, x16, x17, x18, x19, x20, x21, x22, x23, x24, rfl⟩ : ∃ x0 x1 x2 x3 x4 x5 x6 x7 x8 x9 x10 x11 x12 x13 x14 x15 x16 x17 x18 x19 x20 x21 x22 x23 x24 : Value, t = #[x0, x1, x2, x3, x4, x5, x6, x7, x8, x9, x10, x11, x12, x13, x14, x15, x16, x17, x18, x19, x20, x21, x22, x23, x24] := by
    obtain ⟨l⟩ := t
    rcases l with _ | ⟨x0, _ | ⟨x1, _ | ⟨x2, _ | ⟨x3, _ | ⟨x4, _ | ⟨x5, _ | ⟨x6, _ | ⟨x7, _ | ⟨x8, _ | ⟨x9, _ | ⟨x10, _ | ⟨x11, _ | ⟨x12, _ | ⟨x13, _ | ⟨x14, _ | ⟨x15, _ | ⟨x16, _ | ⟨x17, _ | ⟨x18, _ | ⟨x19, _ | ⟨x20, _ | ⟨x21, _ | ⟨x22, _ | ⟨x23, _ | ⟨x24, _ | ⟨y, l⟩⟩⟩⟩⟩⟩⟩⟩⟩⟩⟩⟩⟩⟩⟩⟩⟩⟩⟩⟩⟩⟩⟩⟩⟩⟩ <;> simp at ht
    exact ⟨x0, x1, x2, x3, x4, x5, x6, x7, x8, x9, x10, x11, x12, x13, x14, x15, x16, x17, x18, x19, x20, x21, x22, x23, x24, rfl⟩
  rw [hf]
  simp only [List.setIfInBounds_toArray, List.set_cons_zero, List.set_cons_succ]
  obtain ⟨t3, v3, ⟨rfl, rfl⟩, hs3⟩ := ops_more (P := Try.prog) (ops := opsOf dR3) (ops2 := opsOf dR3) (K := fun a u => a = ⟨#[x0, x1, x2, x3, x4, x5, x, .bool true, x8, x9, x10, x11, x12, x13, x14, x15, x16, x17, x18, x19, x20, x21, x22, x23, x], []⟩ ∧ u = v) (fun _ => rfl) [4, 5] _ v (fun _ _ => rfl)
    (d_resw x0 x1 x2 x3 x4 x5 x6 x7 x8 x9 x10 x11 x12 x13 x14 x15 x16 x17 x18 x19 x20 x21 x22 x23 x v ⟨rfl, rfl⟩) dB [] [.code .ret] (c :: cs)
  refine Steps.trans hs3 (.head step_region_end (.head step_ret (.one (step_leave_returned ?_))))
  refine ⟨rfl, rfl, rfl, Try.f7, by kernel_rfl, ?_⟩
  rw [results_tmp2 (t := 6) (u := 7) (by kernel_rfl)]
  rfl
end Go.Proofs.Ytneclhkpgalnlaa
namespace Go.Proofs.Ytneclhkpgalnlaa
open Go.ConcN (sumTo)
open Go.ChangeShapes Go.WideShapes Go.ChangeAt Go.RowKit Sm Go.Conc
set_option linter.unusedVariables false

/-- What such a call leaves as it was. -/
structure KpX (gA gR ln rn : Nat) (v v' : World) : Prop where
  size : v.heap.size ≤ v'.heap.size
  cell : ∀ (p : Addr) x, v.cell? p = some x → (p.block = gA → p.off < ln) → (p.block = gR → p.off < rn) → v'.cell? p = some x
  obj : ∀ (b : Nat) c el fz, v.heap[b]? = some (.cells c el fz) → (b = gA → c.size ≤ ln) → (b = gR → c.size ≤ rn) → v'.heap[b]? = some (.cells c el fz)
theorem KpX.of_old {gA gR ln rn : Nat} {v v' : World} (h : OldSame v v') : KpX gA gR ln rn v v' := ⟨h.size, fun p x hx _ _ => h.cell hx, fun b c el fz hb _ _ => h.get hb⟩
theorem KpX.trans {gA gR ln rn : Nat} {a b c : World} (h : KpX gA gR ln rn a b) (k : KpX gA gR ln rn b c) : KpX gA gR ln rn a c := ⟨Nat.le_trans h.size k.size, fun p x hx h1 h2 => k.cell p x (h.cell p x hx h1 h2) h1 h2, fun i c el fz hb h1 h2 => k.obj i c el fz (h.obj i c el fz hb h1 h2) h1 h2⟩

/-- From a stretch to its end, in company. -/
theorem calm_seg {H : Nat} {W : World} {Q : VStop} {gs : Array Goroutine} {w : World} {sl : Option (Nat × Nat)} {t : Trace} {q : Nat → Nat} {s : St} (hC : Sm.Calm Try.prog Fs10 H W (fun _ => False) gs w t q s) (h : Seg Try.prog (fun _ => False) Q s.fr s.up s.v) :
    ∃ N gs' w' sl' t' q' s', runNT Try.prog N (crowd gs w sl) t = (.next (crowd gs' w' sl'), t') ∧ Sm.Calm Try.prog Fs10 H W (fun _ => False) gs' w' t' q' s' ∧ s'.at Q := by
  obtain ⟨tr, hW⟩ := way_of_seg (main := true) (bs := []) okP hC.ok h hC.veil
  obtain ⟨N, gs', w', sl', t', q', s', h1, _, h2, h3⟩ := calm_way (tr, sumTo gs.size q) gs w sl t q s rfl hC hW
  exact ⟨N, gs', w', sl', t', q', s', h1, h2, h3⟩
theorem runs_on {P : Program} {a b : Nat} {m m1 m2 : Machine} {t t1 t2 : Trace} (h : runNT P a m t = (.next m1, t1)) (k : runNT P b m1 t1 = (.next m2, t2)) : ∃ N, runNT P N m t = (.next m2, t2) := ⟨a + b, by
  rw [runNT_add, h]; exact k⟩

theorem results_ints (zs rs : List Int) (n : Nat) (h : zs.length = n) : (Sm.results (fun i => safeR (zs[i]?.getD 0) rs) n).toList = ints (zs.map fun z => safeR z rs) := by
  unfold Sm.results ints
  refine List.ext_getElem (by simp [h]) fun i h1 h2 => ?_
  simp at h1 h2
  simp [List.getElem?_eq_getElem h2]

/-- ████ A CALL OF DrawsShared ████ -/
theorem call_run {H : Nat} {W : World} {gs : Array Goroutine} {w : World} {sl : Option (Nat × Nat)} {t : Trace} {q : Nat → Nat} {s : St} {b : Frame} {ts : Array Value} {ops : Array Oper} {i : Nat} {rest : List Nat} {kk : List Item} {o : Oper}
    {gA gR ln lc rn rc : Nat} {zs rs : List Int} {k : Int} (hC : Sm.Calm Try.prog Fs10 H W (fun _ => False) gs w t q s) (hfr : s.fr = b.at ⟨ts, []⟩ (.inRegion ops (i :: rest) :: kk)) (ho : ops[i]? = some o) (hg : o.guard = none)
    (hr : ∀ u, (execOp (⟨ts, []⟩ : Act).eval o).run Try.prog u = .ok (.enter 7 #[.slice (some ⟨gA, 0, none⟩) ln lc, .slice (some ⟨gR, 0, none⟩) rn rc, .int .i64 k]) u)
    (rA : Rd s.v s.v.heap.size 1 (some ⟨gA, 0, none⟩) ln (ints zs)) (rR : Rd s.v s.v.heap.size 1 (some ⟨gR, 0, none⟩) rn (ints rs)) (hne : gA ≠ gR) (hln : ln ≤ 1048576) (hrn : rn ≤ 1048576) :
    ∃ N gs' w' sl' t' q' s' v, runNT Try.prog N (crowd gs w sl) t = (.next (crowd gs' w' sl'), t') ∧ Sm.Calm Try.prog Fs10 H W (fun _ => False) gs' w' t' q' s' ∧ s'.up = s.up ∧
      s'.fr = b.at ((⟨ts, []⟩ : Act).put o.dst (.tuple #[v, .bool (shareOk zs rs k)])) (.inRegion ops rest :: kk) ∧ s'.v.ownsRow s.v.heap.size 2 1 v (shareR zs rs k).length (ints (shareR zs rs k)) ∧ KpX gA gR ln rn s.v s'.v := by
  have hfin : ∀ x, (b.at ⟨ts, []⟩ (.inRegion ops (i :: rest) :: kk)).finish x = b.at ((⟨ts, []⟩ : Act).put o.dst x) (.inRegion ops rest :: kk) := by
    intro x; rw [Frame.finish_at, ho]; rfl
  have hput : ∀ x, ((⟨ts, []⟩ : Act).put o.dst x).defers = [] := by
    intro x; cases o.dst <;> rfl
  rcases Bool.eq_false_or_eq_true (shareOk zs rs k) with hok | hno
  case inr =>
    obtain ⟨N, gs', w', sl', t', q', s', h1, h2, T, d, hup, hfr', hold⟩ := calm_seg (sl := sl) (Q := fun fr up v' => up = s.up ∧ fr = b.at ((⟨ts, []⟩ : Act).put o.dst (.tuple #[.slice none 0 0, .bool false])) (.inRegion ops rest :: kk) ∧ OldSame s.v v') hC (fun T d => by
      rw [hfr]
      obtain ⟨e, w', fr, ⟨rfl, hb⟩, hcomes, hfn, hleave⟩ := ds_no (some ⟨gA, 0, none⟩) ln lc zs (some ⟨gR, 0, none⟩) rn rc rs k (Sm.rt s.v T d) (rA.keep fun _ _ => rfl) hln (rR.keep fun _ _ => rfl) hrn hno (b.at ⟨ts, []⟩ (.inRegion ops (i :: rest) :: kk) :: (s.up ++ [trap]))
      refine ⟨_, s.up, w', .head (step_call ho hg (hr _)) (Steps.trans hcomes (.one (step_leave_returned hleave))), ?_, ⟨rfl, hfin _, .trans (OldSame.heap rfl : OldSame s.v (Sm.rt s.v T d)) (.of_below hb)⟩, fun b o hb => hb.elim⟩
      rw [hfin]
      exact ⟨hput _, .inl rfl⟩)
    have hold' : OldSame s.v s'.v := ⟨hold.size, hold.block⟩
    refine ⟨N, gs', w', sl', t', q', s', .slice none 0 0, h1, h2, hup, by rw [hno]; exact hfr', ?_, .of_old hold'⟩
    unfold shareR
    rw [hno]
    exact World.ownsRow_nil _ _ _ _
  have h0 := hok
  unfold shareOk at h0
  rw [Bool.and_eq_true, Bool.and_eq_true] at h0
  obtain ⟨⟨c1, c2⟩, c3⟩ := h0
  have d1 := cntIn_iff.1 c1
  have d2 := cntIn_iff.1 c2
  have d3 := inB_iff.1 c3
  have l1 := rA.ilen
  have l2 := rR.ilen
  obtain ⟨n, hn⟩ : ∃ n : Nat, k = n := ⟨k.toNat, by omega⟩
  subst hn
  have hAlt : gA < s.v.heap.size := by
    obtain ⟨ad, e, hb, _⟩ := rA.2 (by omega)
    cases e; exact hb
  have hRlt : gR < s.v.heap.size := by
    obtain ⟨ad, e, hb, _⟩ := rR.2 (by omega)
    cases e; exact hb
  -- to the loop's head
  obtain ⟨N1, gs1, w1, sl1, t1, q1, s1, run1, hC1, T, d, tD, tS, b1, b2, b3, b4, b5, bR, bO, bC, hsD, hup1, hfr1, hS1, hF, ho1, hge⟩ := calm_seg (sl := sl) (Q := fun fr up v' => ∃ (tD tS : Array Value) (b1 b2 b3 b4 b5 bR bO bC : Nat), tD.size = 25 ∧ up = dF tD :: b.at ⟨ts, []⟩ (.inRegion ops (i :: rest) :: kk) :: s.up ∧
      fr = sB.at ⟨tS, []⟩ sH1 ∧ S1 b1 b2 b3 b4 b5 n 0 tS ∧ PhF v' b1 b2 b3 b4 b5 bR bO bC gA gR ln lc n rn rc zs rs ∧ OldSame s.v v' ∧ s.v.heap.size ≤ bO) hC (fun T d => by
    obtain ⟨v, hv⟩ : ∃ v, v = Sm.rt s.v T d := ⟨_, rfl⟩
    rw [← hv]
    have hov : OldSame s.v v := OldSame.heap (by rw [hv]; rfl)
    obtain ⟨tD, v1, hsD, o1, hlt1, e1, hs1⟩ := ds_in (some ⟨gA, 0, none⟩) (some ⟨gR, 0, none⟩) ln lc rn rc zs rs n v ((rA.old (Nat.le_refl _) hov).more hov.size) hln ((rR.old (Nat.le_refl _) hov).more hov.size) hrn hok (b.at ⟨ts, []⟩ (.inRegion ops (i :: rest) :: kk) :: (s.up ++ [trap]))
    obtain ⟨tS, v2, b1, b2, b3, b4, b5, bO, bC, hs2, hS, o2, ⟨g1, g2, g3, g4, g5, g6⟩, ⟨n1, n2, n3, n4, n5⟩, x1, x2, x3, x4, x5, x6, x7⟩ := shared_in v1 gA ln lc n v.heap.size (by omega) (dF tD :: b.at ⟨ts, []⟩ (.inRegion ops (i :: rest) :: kk) :: (s.up ++ [trap]))
    have hsv : s.v.heap.size ≤ v.heap.size := hov.size
    have oo := (hov.trans o1).trans o2
    refine ⟨_, dF tD :: b.at ⟨ts, []⟩ (.inRegion ops (i :: rest) :: kk) :: s.up, v2, ?_, ⟨rfl, .inl rfl⟩, ⟨tD, tS, b1, b2, b3, b4, b5, v.heap.size, bO, bC, hsD, rfl, rfl, hS, ⟨x1, x2, x3, x4, x5, ⟨_, _, o2.get e1⟩, x6, x7, (rA.old (Nat.le_refl _) oo).more oo.size, (rR.old (Nat.le_refl _) oo).more oo.size, ⟨by omega, by omega, by omega, Ne.symm n4, Ne.symm n5, by omega, by omega, by omega⟩, hne, ?_, by omega, by omega, by omega, ?_, rates_is c2⟩, oo, by omega⟩, fun b o hb => hb.elim⟩
    · rw [hfr]
      exact .head (step_call ho hg (hr _)) (Steps.trans hs1 hs2)
    · rintro x (rfl | rfl | rfl | rfl | rfl | rfl | rfl) <;> omega
    · intro j hj
      exact allIn_at d1.2.2 _ (getD_mem (by omega)))
  have ho1' : OldSame s.v s1.v := ⟨ho1.size, ho1.block⟩
  have hF' : PhF s1.v b1 b2 b3 b4 b5 bR bO bC gA gR ln lc n rn rc zs rs := ⟨hF.c1, hF.c2, hF.c3, hF.c4, hF.c5, hF.cR, hF.cO, hF.cC, hF.rA, hF.rR, hF.d1, hF.d2, hF.d3, hF.hl, hF.hr, hF.hn, hF.hz, hF.hs⟩
  -- the phase
  obtain ⟨N2, gs2, w2, sl2, t2, q2, s2, run2, hC2, hup2, ⟨tS2, hS2, hfr2⟩, hrow, hkp⟩ := shared_phase (sl := sl1) hC1 hfr1 hS1 hF'
  -- to the return
  obtain ⟨e4, f4, c4⟩ := hF.c4
  have c4' : s2.v.cell? ⟨b4, 0, none⟩ = some (.slice (some ⟨bO, 0, none⟩) ln ln) := hkp.cell _ _ (Ne.symm hF.d1.2.2.2.1) (by rw [cell_of (show s1.v.heap[b4]? = _ from c4)]; rfl) (fun e => absurd e (hF.d3 b4 (by simp)).1) (fun e => absurd e (hF.d3 b4 (by simp)).2)
  obtain ⟨N3, gs3, w3, sl3, t3, q3, s3, run3, hC3, T3, d3', hup3, hfr3, hold3⟩ := calm_seg (sl := sl2) (Q := fun fr up v' => up = s.up ∧ fr = b.at ((⟨ts, []⟩ : Act).put o.dst (.tuple #[.slice (some ⟨bO, 0, none⟩) ln ln, .bool true])) (.inRegion ops rest :: kk) ∧ v'.heap = s2.v.heap) hC2 (fun T d => by
    rw [hfr2, hup2, hup1]
    have hs1 := shared_out (v := Sm.rt s2.v T d) (by omega) hS2 c4' (dF tD) (b.at ⟨ts, []⟩ (.inRegion ops (i :: rest) :: kk) :: (s.up ++ [trap]))
    have hs2 := ds_out hsD (.slice (some ⟨bO, 0, none⟩) ln ln) (b.at ⟨ts, []⟩ (.inRegion ops (i :: rest) :: kk)) (s.up ++ [trap]) (Sm.rt s2.v T d)
    refine ⟨_, s.up, _, Steps.trans hs1 hs2, ?_, ⟨rfl, hfin _, rfl⟩, fun b o hb => hb.elim⟩
    rw [hfin]
    exact ⟨hput _, .inl rfl⟩)
  have hheap : s3.v.heap = s2.v.heap := hold3
  obtain ⟨Na, runa⟩ := runs_on run1 run2
  obtain ⟨Nb, runb⟩ := runs_on runa run3
  refine ⟨Nb, gs3, w3, sl3, t3, q3, s3, .slice (some ⟨bO, 0, none⟩) ln ln, runb, hC3, hup3, by rw [hok]; exact hfr3, ?_, ?_⟩
  · have e : shareR zs rs n = zs.map fun z => safeR z rs := by unfold shareR; rw [if_pos hok]
    rw [e, List.length_map, l1]
    refine ⟨by simp [ints, l1], .inr ⟨bO, ln, _, rfl, hge, by rw [hheap]; exact hrow, Nat.le_refl _, by unfold maxLen; omega, by simp [Sm.results], ?_⟩⟩
    rw [results_ints zs rs ln l1, Nat.mul_one, List.take_of_length_le (by simp [ints, l1])]
  · refine ⟨by rw [hheap]; exact Nat.le_trans ho1'.size hkp.size, fun p x hx h1 h2 => ?_, fun b c el fz hb h1 h2 => ?_⟩
    · have hlt : p.block < s.v.heap.size := by
        unfold World.cell? at hx
        cases ho : s.v.heap[p.block]? with
        | none => rw [ho] at hx; cases hx
        | some o => exact (Array.getElem?_eq_some_iff.1 ho).1
      have := hkp.cell p x (by omega) (ho1'.cell hx) h1 h2
      unfold World.cell? at this ⊢
      rw [hheap]; exact this
    · have hlt := (Array.getElem?_eq_some_iff.1 hb).1
      rw [hheap]
      exact hkp.obj b c el fz (by omega) (ho1'.get hb) h1 h2
end Go.Proofs.Ytneclhkpgalnlaa
namespace Go.Proofs.Ytneclhkpgalnlaa
open Go.ConcN (sumTo)
open Go.ChangeShapes Go.WideShapes Go.ChangeAt Go.RowKit Sm Go.Conc
set_option linter.unusedVariables false

/-! ### pieces -/
/-- From c the walk comes to X. -/
def Gets (P : Program) (c X : Code) (b : Frame) (k : List Item) (cs : List Frame) (K : Act → World → Prop) (a : Act) (w : World) : Prop := ∃ a' w', K a' w' ∧ Steps P (lone (b.at a (.code c :: k)) cs w) (lone (b.at a' (.code X :: k)) cs w')
theorem Gets.done {P : Program} {X : Code} {b : Frame} {k : List Item} {cs : List Frame} {K : Act → World → Prop} {a : Act} {w : World} (h : K a w) : Gets P X X b k cs K a w := ⟨a, w, h, Steps.refl _ _⟩
theorem Gets.step {P : Program} {c x y X : Code} {b : Frame} {k : List Item} {cs : List Frame} {K : Act → World → Prop} {a : Act} {w : World} (e : c = .seq x y) (h : x.wp P (QN (Gets P y X b k cs K)) a w) : Gets P c X b k cs K a w := by
  subst e
  obtain ⟨a1, w1, ⟨a2, w2, hK, hs2⟩, hs1⟩ := wp_steps h b (.code y :: k) cs
  exact ⟨a2, w2, hK, .head step_seq (Steps.trans hs1 hs2)⟩

/-! ### the start -/
theorem pale_ex (x : Value) : ∃ u, (∀ F R, VR F R u x) ∧ ∀ k z, x = .int k z → u = .int k z := by
  match x with
  | .int k z => exact ⟨.int k z, fun _ _ => .int k z, fun k' z' e => e⟩
  | .bool b => exact ⟨.bool b, fun _ _ => .bool b, fun _ _ e => by cases e⟩
  | .agg c =>
    have ih : ∀ i (h : i < c.size), ∃ u, ∀ F R, VR F R u c[i] := fun i h => let ⟨u, hu, _⟩ := pale_ex c[i]; ⟨u, hu⟩
    refine ⟨.agg (Array.ofFn fun i : Fin c.size => Classical.choose (ih i.1 i.2)), fun F R => .agg (by simp) fun i h1 h2 => ?_, fun _ _ e => by cases e⟩
    simp only [Array.getElem_ofFn]
    exact Classical.choose_spec (ih i h2) F R
  | .tuple c =>
    have ih : ∀ i (h : i < c.size), ∃ u, ∀ F R, VR F R u c[i] := fun i h => let ⟨u, hu, _⟩ := pale_ex c[i]; ⟨u, hu⟩
    refine ⟨.tuple (Array.ofFn fun i : Fin c.size => Classical.choose (ih i.1 i.2)), fun F R => .tuple (by simp) fun i h1 h2 => ?_, fun _ _ e => by cases e⟩
    simp only [Array.getElem_ofFn]
    exact Classical.choose_spec (ih i h2) F R
  | .pointer _ | .slice .. | .string _ | .float .. | .complex .. | .map _ | .chan _ | .func .. | .nilFunc | .nilIface | .iface .. => exact ⟨.pointer none, fun _ _ => .bot ⟨by simp, by simp, by simp⟩, by simp⟩
termination_by SizeOf.sizeOf x

noncomputable def pale (x : Value) : Value := Classical.choose (pale_ex x)
theorem pale_rel {F : FuncId → Prop} {R : BR} (x : Value) : VR F R (pale x) x := (Classical.choose_spec (pale_ex x)).1 F R
theorem pale_int (k : IntKind) (z : Int) : pale (.int k z) = .int k z := (Classical.choose_spec (pale_ex (.int k z))).2 k z rfl
noncomputable def paleO : Obj → Obj
  | .cells c el _ => .cells (c.map pale) el (0, c.size)
  | o => o
noncomputable def paleW (W : World) : World := { W with heap := W.heap.map paleO }
theorem pale_size (W : World) : (paleW W).heap.size = W.heap.size := by simp [paleW]
theorem pale_get {W : World} {b : Nat} {c : Array Value} {el : TypeId} {fz : Nat × Nat} (h : W.heap[b]? = some (.cells c el fz)) : (paleW W).heap[b]? = some (.cells (c.map pale) el (0, c.size)) := by
  simp only [paleW, Array.getElem?_map, h]; rfl
theorem pale_cell {W : World} {p : Addr} {k : IntKind} {z : Int} (h : W.cell? p = some (.int k z)) : (paleW W).cell? p = some (.int k z) := by
  unfold World.cell? at h ⊢
  cases ho : W.heap[p.block]? with
  | none => rw [ho] at h; cases h
  | some o =>
    rw [ho] at h
    cases o <;> first | (cases h; done) | skip
    rename_i c el fz
    rw [pale_get ho]
    simp only at h ⊢
    split at h
    · cases h
    · rename_i hs
      rw [if_neg hs, Array.getElem?_map, h]
      simp [pale_int]
/-- The blocks of the arguments. -/
def argR (S : Nat → Prop) : BR := fun b c => b = c ∧ S b

/-- ████ BESIDE NOBODY, AT A CALL's ENTRY ████ -/
theorem calm_start {W : World} {f : FuncId} {args : Array Value} {S : Nat → Prop} (hf : Fs10 f = true) (hS : ∀ b, S b → ∃ c el fz, W.heap[b]? = some (.cells c el fz)) (hargs : AVR (FFs Fs10) (argR S) args args) :
    Sm.Calm Try.prog Fs10 W.heap.size W (fun _ => False) #[G (Frame.enter Try.prog f args .normal) []] W #[] (fun _ => 0) { R := argR S, v := paleW W, fr := Frame.enter Try.prog f args .normal, fr' := Frame.enter Try.prog f args .normal, up := [], up' := [] } := by
  refine ⟨rfl, ⟨FR.enter okP hf hargs, trivial⟩, ⟨?_, ?_, ?_⟩, ?_, fun b hb => hb.elim, Nat.le_refl _, fun _ _ => rfl, rfl, rfl, rfl, ?_, ?_, ?_, ?_⟩
  · rintro b c ⟨rfl, hb⟩
    obtain ⟨c, el, fz, ho⟩ := hS b hb
    refine ⟨_, _, pale_get ho, ho, .cells (fun j u hj => ?_) fun j hj hn => absurd ⟨Nat.zero_le _, by simpa using hj⟩ hn⟩
    rw [Array.getElem?_map] at hj
    cases hc : c[j]? with
    | none => rw [hc] at hj; cases hj
    | some x =>
      rw [hc] at hj
      simp only [Option.map_some, Option.some.injEq] at hj
      subst hj
      exact ⟨x, rfl, pale_rel x⟩
  · rintro b c c' ⟨rfl, _⟩ ⟨rfl, _⟩; rfl
  · rintro b b' c ⟨rfl, _⟩ ⟨rfl, _⟩; rfl
  · rintro b c ⟨rfl, hb⟩ _
    obtain ⟨c, el, fz, ho⟩ := hS b hb
    exact ⟨_, el, _, pale_get ho, fun j hj => ⟨Nat.zero_le _, by simpa using hj⟩⟩
  · intro i g hi hg
    rcases i with _ | i
    · omega
    · simp at hg
  · rintro said ⟨i, j, _, ⟨a, b, ha, _⟩, _⟩
    simp [Trace.act?] at ha
  · intro op hop; simp at hop
  · intro i a h _
    simp [touchAt, Trace.act?] at h
end Go.Proofs.Ytneclhkpgalnlaa
namespace Go.Proofs.Ytneclhkpgalnlaa
open Go.ChangeShapes Go.WideShapes Go.ChangeAt Go.RowKit Sm Go.Conc
set_option linter.unusedVariables false
noncomputable def lC0 : Code := match Try.f3.body with | some c => c | none => .skip
noncomputable def lC1 : Code := sq2 lC0
noncomputable def lC2 : Code := sq2 lC1
noncomputable def lC3 : Code := sq2 lC2
noncomputable def lC4 : Code := sq2 lC3
noncomputable def lC5 : Code := sq2 lC4
noncomputable def lC6 : Code := sq2 lC5
noncomputable def lC7 : Code := sq2 lC6
noncomputable def lC8 : Code := sq2 lC7
noncomputable def lC9 : Code := sq2 lC8
noncomputable def lC10 : Code := sq2 lC9
noncomputable def lC11 : Code := sq2 lC10
noncomputable def lC12 : Code := sq2 lC11
noncomputable def lC13 : Code := sq2 lC12
noncomputable def lC14 : Code := sq2 lC13
noncomputable def lC15 : Code := sq2 lC14
noncomputable def lC16 : Code := sq2 lC15
noncomputable def lC17 : Code := sq2 lC16
noncomputable def lC18 : Code := sq2 lC17
noncomputable def lC19 : Code := sq2 lC18
noncomputable def lC20 : Code := sq2 lC19
noncomputable def lC21 : Code := sq2 lC20
noncomputable def lC22 : Code := sq2 lC21
noncomputable def lC23 : Code := sq2 lC22
noncomputable def lC24 : Code := sq2 lC23
noncomputable def lC25 : Code := sq2 lC24
noncomputable def lC26 : Code := sq2 lC25
noncomputable def lP0 : Code := sq1 lC0
noncomputable def lP1 : Code := sq1 lC1
noncomputable def lP2 : Code := sq1 lC2
noncomputable def lP3 : Code := sq1 lC3
noncomputable def lP4 : Code := sq1 lC4
noncomputable def lP5 : Code := sq1 lC5
noncomputable def lP6 : Code := sq1 lC6
noncomputable def lP7 : Code := sq1 lC7
noncomputable def lP8 : Code := sq1 lC8
noncomputable def lP9 : Code := sq1 lC9
noncomputable def lP10 : Code := sq1 lC10
noncomputable def lP11 : Code := sq1 lC11
noncomputable def lP12 : Code := sq1 lC12
noncomputable def lP13 : Code := sq1 lC13
noncomputable def lP14 : Code := sq1 lC14
noncomputable def lP15 : Code := sq1 lC15
noncomputable def lP16 : Code := sq1 lC16
noncomputable def lP17 : Code := sq1 lC17
noncomputable def lP18 : Code := sq1 lC18
noncomputable def lP19 : Code := sq1 lC19
noncomputable def lP20 : Code := sq1 lC20
noncomputable def lP21 : Code := sq1 lC21
noncomputable def lP22 : Code := sq1 lC22
noncomputable def lP23 : Code := sq1 lC23
noncomputable def lP24 : Code := sq1 lC24
noncomputable def lP25 : Code := sq1 lC25
noncomputable def lP26 : Code := sq1 lC26
theorem lc0 : lC0 = .seq lP0 lC1 := by kernel_rfl
theorem lc1 : lC1 = .seq lP1 lC2 := by kernel_rfl
theorem lc2 : lC2 = .seq lP2 lC3 := by kernel_rfl
theorem lc3 : lC3 = .seq lP3 lC4 := by kernel_rfl
theorem lc4 : lC4 = .seq lP4 lC5 := by kernel_rfl
theorem lc5 : lC5 = .seq lP5 lC6 := by kernel_rfl
theorem lc6 : lC6 = .seq lP6 lC7 := by kernel_rfl
theorem lc7 : lC7 = .seq lP7 lC8 := by kernel_rfl
theorem lc8 : lC8 = .seq lP8 lC9 := by kernel_rfl
theorem lc9 : lC9 = .seq lP9 lC10 := by kernel_rfl
theorem lc10 : lC10 = .seq lP10 lC11 := by kernel_rfl
theorem lc11 : lC11 = .seq lP11 lC12 := by kernel_rfl
theorem lc12 : lC12 = .seq lP12 lC13 := by kernel_rfl
theorem lc13 : lC13 = .seq lP13 lC14 := by kernel_rfl
theorem lc14 : lC14 = .seq lP14 lC15 := by kernel_rfl
theorem lc15 : lC15 = .seq lP15 lC16 := by kernel_rfl
theorem lc16 : lC16 = .seq lP16 lC17 := by kernel_rfl
theorem lc17 : lC17 = .seq lP17 lC18 := by kernel_rfl
theorem lc18 : lC18 = .seq lP18 lC19 := by kernel_rfl
theorem lc19 : lC19 = .seq lP19 lC20 := by kernel_rfl
theorem lc20 : lC20 = .seq lP20 lC21 := by kernel_rfl
theorem lc21 : lC21 = .seq lP21 lC22 := by kernel_rfl
theorem lc22 : lC22 = .seq lP22 lC23 := by kernel_rfl
theorem lc23 : lC23 = .seq lP23 lC24 := by kernel_rfl
theorem lc24 : lC24 = .seq lP24 lC25 := by kernel_rfl
theorem lc25 : lC25 = .seq lP25 lC26 := by kernel_rfl
theorem lc26 : lC26 = .seq lP26 .ret := by kernel_rfl
theorem l_body : Try.f3.body = some lC0 := by kernel_rfl
theorem lp6 : lP6 = .region 8 (opsOf lP6) false := by kernel_rfl
theorem lp20 : lP20 = .region 28 (opsOf lP20) false := by kernel_rfl
theorem lp6_size : (opsOf lP6).size = 9 := by kernel_rfl
theorem lp20_size : (opsOf lP20).size = 11 := by kernel_rfl
noncomputable def lB : Frame := B 3 .normal
noncomputable def lCall1 : Oper := match (opsOf lP6)[3]? with | some o => o | none => default
noncomputable def lCall2 : Oper := match (opsOf lP20)[5]? with | some o => o | none => default
theorem lcall1 : (opsOf lP6)[3]? = some lCall1 ∧ lCall1.guard = none ∧ lCall1.dst = some 41 ∧ lCall1.op = .call { callee := .value (.func 7), args := #[.tmp 38, .tmp 39, .tmp 40], argTypes := #[22, 22, 2] } := ⟨by kernel_rfl, by kernel_rfl, by kernel_rfl, by kernel_rfl⟩
theorem lcall2 : (opsOf lP20)[5]? = some lCall2 ∧ lCall2.guard = none ∧ lCall2.dst = some 99 ∧ lCall2.op = .call { callee := .value (.func 7), args := #[.tmp 95, .tmp 97, .tmp 98], argTypes := #[22, 22, 2] } := ⟨by kernel_rfl, by kernel_rfl, by kernel_rfl, by kernel_rfl⟩

section
variable {a w w' : World} {H : Nat}
theorem bH_step (hH : H ≤ a.heap.size) (h : Below H a w) (k : Below w.heap.size w w') : Below H a w' := h.trans (k.mono (Nat.le_trans hH h.size))
theorem bH_grown {row : Option Nat} (hH : H ≤ a.heap.size) (h : Below H a w) (hg : w.grownBy w' row) (hr : ∀ k, row = some k → H ≤ k) : Below H a w' := h.grown hg (Nat.le_trans hH h.size) hr
theorem bH_size (hH : H ≤ a.heap.size) (h : Below H a w) : H ≤ w.heap.size := Nat.le_trans hH h.size
end
/-- Two values' rows lie apart. -/
def Ap (u v : Value) : Prop := (v.ownBlock = none ∨ v.ownBlock ≠ u.ownBlock) ∧ (u.ownBlock = none ∨ u.ownBlock ≠ v.ownBlock)
theorem Ap.swap {u v : Value} (h : Ap u v) : Ap v u := ⟨h.2, h.1⟩
theorem own_kpx {w w' : World} {base gA gR ln rn m : Nat} {e : TypeId} {u : Value} {xs : List Value} (h : w.ownsRow base e 1 u m xs) (hk : KpX gA gR ln rn w w') (hc : ∀ g cap, u = .slice (some ⟨g, 0, none⟩) m cap → (g = gA → cap ≤ ln) ∧ (g = gR → cap ≤ rn)) : w'.ownsRow base e 1 u m xs := by
  refine ⟨h.1, ?_⟩
  rcases h.2 with hn | ⟨g, cap, cur, e1, h1, h2, h3, h4, h5, h6⟩
  · exact .inl hn
  · obtain ⟨c1, c2⟩ := hc g cap e1
    exact .inr ⟨g, cap, cur, e1, h1, hk.obj _ _ _ _ h2 (fun e => by have := c1 e; omega) (fun e => by have := c2 e; omega), h3, h4, h5, h6⟩
theorem own_kpx_ne {w w' : World} {base gA gR ln rn m la lc ra rc : Nat} {e : TypeId} {u : Value} {xs : List Value} (h : w.ownsRow base e 1 u m xs) (hk : KpX gA gR ln rn w w') (hA : Ap (.slice (some ⟨gA, 0, none⟩) la lc) u) (hR : Ap (.slice (some ⟨gR, 0, none⟩) ra rc) u) : w'.ownsRow base e 1 u m xs := by
  refine own_kpx h hk fun g cap hu => ?_
  subst hu
  refine ⟨fun e => ?_, fun e => ?_⟩
  · subst e; exact (hA.1.elim (fun x => by cases x) fun x => absurd rfl x)
  · subst e; exact (hR.1.elim (fun x => by cases x) fun x => absurd rfl x)
theorem l_enter (p0 p1 p2 : Value) : Frame.enter Try.prog 3 #[p0, p1, p2] .normal = lB.at ⟨#[p0, p1, p2, undef, undef, undef, undef, undef, undef, undef, undef, undef, undef, undef, undef, undef, undef, undef, undef, undef, undef, undef, undef, undef, undef, undef, undef, undef, undef, undef, undef, undef, undef, undef, undef, undef, undef, undef, undef, undef, undef, undef, undef, undef, undef, undef, undef, undef, undef, undef, undef, undef, undef, undef, undef, undef, undef, undef, undef, undef, undef, undef, undef, undef, undef, undef, undef, undef, undef, undef, undef, undef, undef, undef, undef, undef, undef, undef, undef, undef, undef, undef, undef, undef, undef, undef, undef, undef, undef, undef, undef, undef, undef, undef, undef, undef, undef, undef, undef, undef, undef, undef, undef, undef, undef, undef, undef, undef, undef, undef, undef, undef, undef, undef, undef, undef, undef, undef, undef], []⟩ [.code lC0] := by
  have h1 : Try.prog.funcs[3]? = some Try.f3 := by kernel_rfl
  have h2 : Try.f3.ntmps = 119 := by kernel_rfl
  have e : #[p0, p1, p2] ++ Array.replicate (119 - #[p0, p1, p2].size) undef = #[p0, p1, p2, undef, undef, undef, undef, undef, undef, undef, undef, undef, undef, undef, undef, undef, undef, undef, undef, undef, undef, undef, undef, undef, undef, undef, undef, undef, undef, undef, undef, undef, undef, undef, undef, undef, undef, undef, undef, undef, undef, undef, undef, undef, undef, undef, undef, undef, undef, undef, undef, undef, undef, undef, undef, undef, undef, undef, undef, undef, undef, undef, undef, undef, undef, undef, undef, undef, undef, undef, undef, undef, undef, undef, undef, undef, undef, undef, undef, undef, undef, undef, undef, undef, undef, undef, undef, undef, undef, undef, undef, undef, undef, undef, undef, undef, undef, undef, undef, undef, undef, undef, undef, undef, undef, undef, undef, undef, undef, undef, undef, undef, undef, undef, undef, undef, undef, undef, undef] := by
    apply Array.ext'
    simp [List.replicate]
  rw [enter_eq h1 h2 l_body, e]
  rfl
end Go.Proofs.Ytneclhkpgalnlaa
