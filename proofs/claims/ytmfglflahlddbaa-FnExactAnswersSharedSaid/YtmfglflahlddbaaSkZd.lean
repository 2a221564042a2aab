/-
  AnswersShared: from its entry to the call of shared, and from its list to the return.
-/
import Derived.Test.YtmfglflahlddbaaSkZa
import Derived.Test.YtmfglflahlddbaaSkZc
namespace Go.Proofs.Ytmfglflahlddbaa
open Go.ChangeShapes Go.WideShapes Go.ChangeAt Go.RowKit Sm Go.Conc
set_option linter.unusedVariables false

/-! ### pieces -/
/-- From c the walk comes to X. -/
def Gets (P : Program) (c X : Code) (b : Frame) (k : List Item) (cs : List Frame) (K : Act → World → Prop) (a : Act) (w : World) : Prop := ∃ a' w', K a' w' ∧ Steps P (lone (b.at a (.code c :: k)) cs w) (lone (b.at a' (.code X :: k)) cs w')
theorem Gets.done {P : Program} {X : Code} {b : Frame} {k : List Item} {cs : List Frame} {K : Act → World → Prop} {a : Act} {w : World} (h : K a w) : Gets P X X b k cs K a w := ⟨a, w, h, Steps.refl _ _⟩
theorem Gets.step {P : Program} {c x y X : Code} {b : Frame} {k : List Item} {cs : List Frame} {K : Act → World → Prop} {a : Act} {w : World} (e : c = .seq x y) (h : x.wp P (QN (Gets P y X b k cs K)) a w) : Gets P c X b k cs K a w := by
  subst e
  obtain ⟨a1, w1, ⟨a2, w2, hK, hs2⟩, hs1⟩ := wp_steps h b (.code y :: k) cs
  exact ⟨a2, w2, hK, .head step_seq (Steps.trans hs1 hs2)⟩
/-- A call is entered. -/
theorem step_call {P : Program} {b : Frame} {a : Act} {k : List Item} {cs : List Frame} {w w' : World} {ops : Array Oper} {i : Nat} {rest : List Nat} {o : Oper} {f : FuncId} {args : Array Value} (ho : ops[i]? = some o) (hg : o.guard = none) (hr : (execOp a.eval o).run P w = .ok (.enter f args) w') :
    step P (lone (b.at a (.inRegion ops (i :: rest) :: k)) cs w) = .next (lone (Frame.enter P f args .normal) (b.at a (.inRegion ops (i :: rest) :: k) :: cs) w') :=
  step_lone_go (by rw [stepG_op ho (wanted_none hg _)]; simp [stepG.apply, hr, Frame.at])

noncomputable def aC0 : Code := match Try.f9.body with | some c => c | none => .skip
noncomputable def aC1 : Code := sq2 aC0
noncomputable def aC2 : Code := sq2 aC1
noncomputable def aC3 : Code := sq2 aC2
noncomputable def aC4 : Code := sq2 aC3
noncomputable def aP0 : Code := sq1 aC0
noncomputable def aP1 : Code := sq1 aC1
noncomputable def aP2 : Code := sq1 aC2
noncomputable def aP3 : Code := sq1 aC3
noncomputable def aR9 : Code := sq1 aC4
theorem a_body : Try.f9.body = some aC0 := by kernel_rfl
theorem ac0 : aC0 = .seq aP0 aC1 := by kernel_rfl
theorem ac1 : aC1 = .seq aP1 aC2 := by kernel_rfl
theorem ac2 : aC2 = .seq aP2 aC3 := by kernel_rfl
theorem ac3 : aC3 = .seq aP3 aC4 := by kernel_rfl
theorem ac4 : aC4 = .seq aR9 .ret := by kernel_rfl
theorem a_r9 : aR9 = .region 9 (opsOf aR9) false := by kernel_rfl
theorem a_size9 : (opsOf aR9).size = 6 := by kernel_rfl
noncomputable def aCall : Oper := match (opsOf aR9)[3]? with | some o => o | none => default
theorem a_call : (opsOf aR9)[3]? = some aCall := by kernel_rfl
theorem a_callOp : aCall.op = .call { callee := .value (.func 31), args := #[.tmp 45, .tmp 46, .tmp 47], argTypes := #[26, 2, 58] } := by kernel_rfl
theorem a_callG : aCall.guard = none := by kernel_rfl
theorem a_callD : aCall.dst = some 48 := by kernel_rfl
noncomputable def aB : Frame := Sm.B 9 .normal
/-- The frame that waits for the workers' list. -/
noncomputable def aF (t : Array Value) : Frame := aB.at ⟨t, []⟩ (.inRegion (opsOf aR9) [3, 4, 5] :: [.code .ret])
theorem a_enter (p0 p1 p2 p3 : Value) : Frame.enter Try.prog 9 #[p0, p1, p2, p3] .normal = aB.at ⟨#[p0, p1, p2, p3, undef, undef, undef, undef, undef, undef, undef, undef, undef, undef, undef, undef, undef, undef, undef, undef, undef, undef, undef, undef, undef, undef, undef, undef, undef, undef, undef, undef, undef, undef, undef, undef, undef, undef, undef, undef, undef, undef, undef, undef, undef, undef, undef, undef, undef], []⟩ [.code aC0] := by
  have h1 : Try.prog.funcs[9]? = some Try.f9 := by kernel_rfl
  have h2 : Try.f9.ntmps = 49 := by kernel_rfl
  have e : #[p0, p1, p2, p3] ++ Array.replicate (49 - #[p0, p1, p2, p3].size) undef = #[p0, p1, p2, p3, undef, undef, undef, undef, undef, undef, undef, undef, undef, undef, undef, undef, undef, undef, undef, undef, undef, undef, undef, undef, undef, undef, undef, undef, undef, undef, undef, undef, undef, undef, undef, undef, undef, undef, undef, undef, undef, undef, undef, undef, undef, undef, undef, undef, undef] := by
    apply Array.ext'
    simp [List.replicate]
  rw [enter_eq h1 h2 a_body, e]
  rfl
theorem append_int_g {ops : Array Oper} {rest : List Oper} {o : Oper} {a : Act} {Q : Exit → Act → World → Prop} {w1 : World} (hgd : o.guard = none) (s x : Operand)
    (ho : o.op = .call { callee := .builtin .append, args := #[s, x], argTypes := #[26, 26] }) (W : World) (v : Value) (n : Nat) (zs : List Int) (hs : a.eval s = v)
    (hown : w1.ownsRow W.heap.size 2 1 v n (ints zs)) (hb : Below W.heap.size W w1) (g : Nat) (c : Nat) (z : Int) (hx : a.eval x = .slice (some ⟨g, 0, none⟩) 1 c) (hc : w1.cell? ⟨g, 0, none⟩ = some (.int .i64 z)) (hn : n + 1 ≤ 4194304)
    (h : ∀ v' w', w'.ownsRow W.heap.size 2 1 v' (n + 1) (ints (zs ++ [z])) → Below W.heap.size W w' → (v'.ownBlock = v.ownBlock ∨ v'.ownBlock = some w1.heap.size) → w1.grownBy w' v.ownBlock → wpList Try.prog ops Q rest (a.put o.dst v') w') : wpList Try.prog ops Q (o :: rest) a w1 := by
  refine append_ints_g hgd s x ho W v n zs hs hown hb ⟨g, 0, none⟩ 1 c [z] hx (B := g + 1) ⟨rfl, fun _ => ⟨_, rfl, by simp, fun j u hu => ?_⟩⟩ hn h
  match j, hu with
  | 0, hu => simp [ints] at hu; subst hu; simpa [Addr.add] using hc
theorem up_snoc (j : Nat) : up 0 (j + 1) = up 0 j ++ [(j : Int)] := by simp [up, List.range_succ]
/-- What stands ahead of the call of shared. -/
def AsK (v : World) (A : Option Addr) (m c : Nat) (B : Option Addr) (k d : Nat) (day n : Int) (a : Act) (w : World) : Prop := ∃ (x : Nat → Value) (g c1 : Nat) (A1 : Option Addr), g = v.heap.size ∧ Below v.heap.size v w ∧ v.heap.size + 2 < w.heap.size ∧
  w.cell? ⟨g, 0, none⟩ = some (.slice A m c) ∧ w.cell? ⟨g + 1, 0, none⟩ = some (.slice B k d) ∧ w.cell? ⟨g + 2, 0, none⟩ = some (.int .i64 day) ∧ w.ownsRow v.heap.size 2 1 (.slice A1 k c1) k (ints (up 0 k)) ∧ a = ⟨#[.slice A m c, .slice B k d, .int .i64 day, .int .i64 n, .pointer (some ⟨g, 0, none⟩), .pointer (some ⟨g + 1, 0, none⟩), .pointer (some ⟨g + 2, 0, none⟩), x 7, x 8, x 9, .slice A1 k c1, x 11, x 12, x 13, x 14, x 15, x 16, x 17, x 18, x 19, x 20, x 21, x 22, x 23, x 24, x 25, x 26, x 27, x 28, x 29, x 30, x 31, x 32, x 33, x 34, x 35, x 36, x 37, x 38, x 39, x 40, x 41, x 42, x 43, x 44, x 45, x 46, x 47, x 48], []⟩
theorem ask {v w : World} {A B : Option Addr} {m c k d g c1 : Nat} {day n : Int} {A1 : Option Addr} {t : Array Value} (e : g = v.heap.size) (h1 : Below v.heap.size v w) (h2 : v.heap.size + 2 < w.heap.size) (h3 : w.cell? ⟨g, 0, none⟩ = some (.slice A m c)) (h4 : w.cell? ⟨g + 1, 0, none⟩ = some (.slice B k d)) (h5 : w.cell? ⟨g + 2, 0, none⟩ = some (.int .i64 day))
    (h6 : w.ownsRow v.heap.size 2 1 (.slice A1 k c1) k (ints (up 0 k))) (h : t = #[.slice A m c, .slice B k d, .int .i64 day, .int .i64 n, .pointer (some ⟨g, 0, none⟩), .pointer (some ⟨g + 1, 0, none⟩), .pointer (some ⟨g + 2, 0, none⟩), t.getD 7 undef, t.getD 8 undef, t.getD 9 undef, .slice A1 k c1, t.getD 11 undef, t.getD 12 undef, t.getD 13 undef, t.getD 14 undef, t.getD 15 undef, t.getD 16 undef, t.getD 17 undef, t.getD 18 undef, t.getD 19 undef, t.getD 20 undef, t.getD 21 undef, t.getD 22 undef, t.getD 23 undef, t.getD 24 undef, t.getD 25 undef, t.getD 26 undef, t.getD 27 undef, t.getD 28 undef, t.getD 29 undef, t.getD 30 undef, t.getD 31 undef, t.getD 32 undef, t.getD 33 undef, t.getD 34 undef, t.getD 35 undef, t.getD 36 undef, t.getD 37 undef, t.getD 38 undef, t.getD 39 undef, t.getD 40 undef, t.getD 41 undef, t.getD 42 undef, t.getD 43 undef, t.getD 44 undef, t.getD 45 undef, t.getD 46 undef, t.getD 47 undef, t.getD 48 undef]) : AsK v A m c B k d day n ⟨t, []⟩ w :=
  ⟨fun i => t.getD i undef, g, c1, A1, e, h1, h2, h3, h4, h5, h6, congrArg (fun x => (⟨x, []⟩ : Act)) h⟩
set_option maxRecDepth 100000 in
set_option maxHeartbeats 3200000 in
theorem as_pre (A : Option Addr) (m c : Nat) (ds : List Rl) (B : Option Addr) (k d : Nat) (zss : List (List Int)) (day n : Int) (v : World) (hr : RsRd v v.heap.size A m ds) (hz : szD ds ≤ 1048576) (hb : ∀ d ∈ ds, RlB d) (hm : MsRd v v.heap.size B k zss) (hs : szM zss ≤ 1048576) (hi : ∀ zs ∈ zss, I64s zs) (hok : shOk ds zss day n = true) (cs : List Frame) :
    Gets Try.prog aC0 aC4 aB [] cs (AsK v A m c B k d day n) ⟨#[.slice A m c, .slice B k d, .int .i64 day, .int .i64 n, undef, undef, undef, undef, undef, undef, undef, undef, undef, undef, undef, undef, undef, undef, undef, undef, undef, undef, undef, undef, undef, undef, undef, undef, undef, undef, undef, undef, undef, undef, undef, undef, undef, undef, undef, undef, undef, undef, undef, undef, undef, undef, undef, undef, undef], []⟩ v := by
  have HR := Lib.hid hr
  have HZ := Lib.hid hz
  have HRB := Lib.hid hb
  have HM := Lib.hid hm
  have HS := Lib.hid hs
  have HI := Lib.hid hi
  obtain ⟨h1, h2, h3, h4, h5⟩ := shOk_iff.1 hok
  rw [hm.len] at h4
  clear hr hz hb hm hs hi hok
  have hB := (((Below.refl v.heap.size v).alloc (Nat.le_refl _) (.cells #[.slice A m c] 29 (0, 0))).alloc (by simp) (.cells #[.slice B k d] 23 (0, 0))).alloc (by simp; omega) (.cells #[.int .i64 day] 2 (0, 0))
  refine Gets.step ac0 ?_
  unfold aP0 aC0 Try.f9
  dsimp only [sq1, sq2]
  go_wp2_with fail
  refine ⟨rfl, ?_⟩
  refine Gets.step ac1 ?_
  unfold aP1 aC1 aC0 Try.f9
  dsimp only [sq1, sq2]
  go_wp2_with fail
  refine (areRules_is _ _ _ _ ((HR.out.below hB).more (by simp; omega)) HZ.out HRB.out h1).mono ?_
  rintro e w1 ⟨rfl, hb1⟩
  have hx1 : w1.cell? ⟨v.heap.size, 0, none⟩ = some (.slice A m c) := by rw [hb1.cell (by simp; omega)]; go_simp
  have hx2 : w1.cell? ⟨v.heap.size + 1, 0, none⟩ = some (.slice B k d) := by rw [hb1.cell (by simp)]; go_simp
  have hx3 : w1.cell? ⟨v.heap.size + 2, 0, none⟩ = some (.int .i64 day) := by rw [hb1.cell (by simp)]; go_simp
  have HSZ := Lib.hid (show v.heap.size + 2 < w1.heap.size by have := hb1.size; simp at this; omega)
  have HB1 := Lib.hid (hB.trans (hb1.mono (by simp; omega)))
  clear hb1 hB
  go_wp2_with fail
  refine (isDate_is _ h2).mono ?_
  rintro e w2 ⟨rfl, rfl⟩
  go_wp2_with fail
  refine (isWorkers_any _ _).mono ?_
  rintro e w2 ⟨rfl, rfl⟩
  go_wp2_with fail
  refine (contains_bad _ _ _ zss _ (HM.out.on HB1.out) HS.out HI.out).mono ?_
  rintro e w2 ⟨rfl, rfl⟩
  go_wp2_with fail
  refine ⟨rfl, ?_⟩
  clear h1 h2 h3 h5
  refine Gets.step ac2 ?_
  unfold aP2 aC2 aC1 aC0 Try.f9
  dsimp only [sq1, sq2]
  go_wp2_with fail
  refine ⟨rfl, ?_⟩
  refine Gets.step ac3 ?_
  unfold aP3 aC3 aC2 aC1 aC0 Try.f9
  dsimp only [sq1, sq2]
  have hown0 := Lib.hid (show (w1.alloc (.cells #[] 2)).ownsRow v.heap.size 2 1 (.slice (some ⟨w1.heap.size, 0, none⟩) 0 0) 0 [] from own_base (own_empty w1 2) HB1.out.size)
  have hbe0 := Lib.hid (HB1.out.alloc HB1.out.size (.cells #[] 2))
  have q1 := (World.cell?_alloc_lt w1 (.cells #[] 2) ⟨v.heap.size, 0, none⟩ (by have := HSZ.out; simp only; omega)).trans hx1
  have q2 := (World.cell?_alloc_lt w1 (.cells #[] 2) ⟨v.heap.size + 1, 0, none⟩ (by have := HSZ.out; simp only; omega)).trans hx2
  have q3 := (World.cell?_alloc_lt w1 (.cells #[] 2) ⟨v.heap.size + 2, 0, none⟩ (by have := HSZ.out; simp only; omega)).trans hx3
  have HSZ0 := Lib.hid (show v.heap.size + 2 < (w1.alloc (.cells #[] 2)).heap.size by have := HSZ.out; simp; omega)
  have HG0 := Lib.hid (show (Value.slice (some ⟨w1.heap.size, 0, none⟩) 0 0).ownBlock ≠ some v.heap.size ∧ (Value.slice (some ⟨w1.heap.size, 0, none⟩) 0 0).ownBlock ≠ some (v.heap.size + 1) ∧ (Value.slice (some ⟨w1.heap.size, 0, none⟩) 0 0).ownBlock ≠ some (v.heap.size + 2) by have := HSZ.out; simp [Value.ownBlock]; omega)
  generalize (w1.alloc (.cells #[] 2)) = w3 at hown0 hbe0 q1 q2 q3 HSZ0 ⊢
  clear hx1 hx2 hx3 HSZ HB1
  have HQ := Lib.hid (And.intro q1 (And.intro q2 q3))
  clear q1 q3
  generalize hg0 : w1.heap.size = g0 at hown0 HG0 ⊢
  clear hg0
  have HK0 := Lib.hid (Below.refl w3.heap.size w3)
  go_wp2_with fail
  go_loopw [10, 11, 37] (fun u _ i wr => ∃ j : Nat, j ≤ k ∧ i = .int .i64 j ∧ wr.ownsRow v.heap.size 2 1 u j (ints (up 0 j)) ∧ Below v.heap.size v wr ∧ (v.heap.size + 2 < wr.heap.size ∧ wr.cell? ⟨v.heap.size, 0, none⟩ = some (.slice A m c) ∧ wr.cell? ⟨v.heap.size + 1, 0, none⟩ = some (.slice B k d) ∧ wr.cell? ⟨v.heap.size + 2, 0, none⟩ = some (.int .i64 day)) ∧ (u.ownBlock ≠ some v.heap.size ∧ u.ownBlock ≠ some (v.heap.size + 1) ∧ u.ownBlock ≠ some (v.heap.size + 2))) (fun _ _ i _ => k - (intOf i).toNat)
  case atStart => exact ⟨0, Nat.zero_le _, rfl, hown0.out, hbe0.out, ⟨HSZ0.out, HQ.out.1, HQ.out.2.1, HQ.out.2.2⟩, HG0.out⟩
  case round =>
    obtain ⟨j, hj, rfl, hown, hbw, hcells, hnb⟩ := hrel
    have HO := Lib.hid hown
    have HW := Lib.hid hbw
    have HC := Lib.hid hcells
    have HNB := Lib.hid hnb
    clear hown hbw hcells hnb hown0 hbe0 HQ HSZ0 HG0 HK0 q2
    by_cases hlt : j < k
    · go_wp2_with (at_builtin; refine append_int_g rfl (.tmp 40) (.tmp 42) rfl v _ j (up 0 j) rfl (World.ownsRow.alloc HO.out _) (HW.out.alloc HW.out.size _) _ _ (j : Int) rfl (cell_new _ _ _) (by omega) ?_; intro v' w' ho2 hb2 hn2 hg2)
      go_roundw
      case rel =>
        refine ⟨j + 1, by omega, by go_num, by rw [up_snoc]; exact ho2, hb2, ?_, ?_⟩
        · obtain ⟨s1, s2, s3, s4⟩ := HC.out
          have hgr := grown_trans (World.grownBy_alloc _ (.cells #[.int .i64 (j : Int)] 2 (0, 0)) _) hg2
          exact ⟨Nat.lt_of_lt_of_le s1 hgr.size, hgr.cell s2 (fun e => HNB.out.1 e.symm), hgr.cell s3 (fun e => HNB.out.2.1 e.symm), hgr.cell s4 (fun e => HNB.out.2.2 e.symm)⟩
        · obtain ⟨s1, _⟩ := HC.out
          rcases hn2 with e | e
          · rw [e]; exact HNB.out
          · rw [e]
            refine ⟨?_, ?_, ?_⟩ <;> (intro h; injection h with h; simp at h; omega)
      case measure => simp [intOf]; omega
    · obtain rfl : k = j := by omega
      obtain ⟨A1, c1, rfl, _⟩ := own_form HO.out
      go_wp2_with fail
      refine ⟨rfl, Gets.done ?_⟩
      exact ask rfl HW.out HC.out.1 HC.out.2.1 HC.out.2.2.1 HC.out.2.2.2 HO.out rfl
end Go.Proofs.Ytmfglflahlddbaa
namespace Go.Proofs.Ytmfglflahlddbaa
open Go.ChangeShapes Go.WideShapes Go.ChangeAt Go.RowKit Sm Go.Conc
set_option linter.unusedVariables false
theorem a_argw {K : Act → World → Prop} (x : Nat → Value) (A : Option Addr) (m c : Nat) (B : Option Addr) (k d : Nat) (day n : Int) (g c1 : Nat) (A1 : Option Addr) (w : World)
    (hK : K ⟨#[.slice A m c, .slice B k d, .int .i64 day, .int .i64 n, .pointer (some ⟨g, 0, none⟩), .pointer (some ⟨g + 1, 0, none⟩), .pointer (some ⟨g + 2, 0, none⟩), x 7, x 8, x 9, .slice A1 k c1, x 11, x 12, x 13, x 14, x 15, x 16, x 17, x 18, x 19, x 20, x 21, x 22, x 23, x 24, x 25, x 26, x 27, x 28, x 29, x 30, x 31, x 32, x 33, x 34, x 35, x 36, x 37, x 38, x 39, x 40, x 41, x 42, x 43, x 44, .slice A1 k c1, .int .i64 n, .func (.func 32) #[] #[.pointer (some ⟨g, 0, none⟩), .pointer (some ⟨g + 1, 0, none⟩), .pointer (some ⟨g + 2, 0, none⟩)], x 48], []⟩ w) : wpOps Try.prog (opsOf aR9) (QN K) [0, 1, 2] ⟨#[.slice A m c, .slice B k d, .int .i64 day, .int .i64 n, .pointer (some ⟨g, 0, none⟩), .pointer (some ⟨g + 1, 0, none⟩), .pointer (some ⟨g + 2, 0, none⟩), x 7, x 8, x 9, .slice A1 k c1, x 11, x 12, x 13, x 14, x 15, x 16, x 17, x 18, x 19, x 20, x 21, x 22, x 23, x 24, x 25, x 26, x 27, x 28, x 29, x 30, x 31, x 32, x 33, x 34, x 35, x 36, x 37, x 38, x 39, x 40, x 41, x 42, x 43, x 44, x 45, x 46, x 47, x 48], []⟩ w := by
  unfold aR9 aC4 aC3 aC2 aC1 aC0 Try.f9
  dsimp only [sq1, sq2, opsOf]
  go_wp2_with fail
  refine Or.inl ?_
  go_simp
  refine Or.inl ?_
  go_simp
  refine Or.inl ?_
  go_simp
  exact ⟨rfl, hK⟩
theorem a_resw {K : Act → World → Prop} (x0 x1 x2 x3 x4 x5 x6 x7 x8 x9 x10 x11 x12 x13 x14 x15 x16 x17 x18 x19 x20 x21 x22 x23 x24 x25 x26 x27 x28 x29 x30 x31 x32 x33 x34 x35 x36 x37 x38 x39 x40 x41 x42 x43 x44 x45 x46 x47 x48 x : Value) (w : World)
    (hK : K ⟨#[x0, x1, x2, x3, x4, x5, x6, x7, x, .bool true, x10, x11, x12, x13, x14, x15, x16, x17, x18, x19, x20, x21, x22, x23, x24, x25, x26, x27, x28, x29, x30, x31, x32, x33, x34, x35, x36, x37, x38, x39, x40, x41, x42, x43, x44, x45, x46, x47, x], []⟩ w) : wpOps Try.prog (opsOf aR9) (QN K) [4, 5] ⟨#[x0, x1, x2, x3, x4, x5, x6, x7, x8, x9, x10, x11, x12, x13, x14, x15, x16, x17, x18, x19, x20, x21, x22, x23, x24, x25, x26, x27, x28, x29, x30, x31, x32, x33, x34, x35, x36, x37, x38, x39, x40, x41, x42, x43, x44, x45, x46, x47, x], []⟩ w := by
  unfold aR9 aC4 aC3 aC2 aC1 aC0 Try.f9
  dsimp only [sq1, sq2, opsOf]
  go_wp2_with fail
  refine Or.inl ?_
  go_simp
  refine Or.inl ?_
  go_simp
  exact ⟨rfl, hK⟩
/-- ████ FROM THE ENTRY TO THE CALL ████ -/
theorem as_in (A : Option Addr) (m c : Nat) (ds : List Rl) (B : Option Addr) (k d : Nat) (zss : List (List Int)) (day n : Int) (v : World) (hr : RsRd v v.heap.size A m ds) (hz : szD ds ≤ 1048576) (hb : ∀ d ∈ ds, RlB d) (hm : MsRd v v.heap.size B k zss) (hs : szM zss ≤ 1048576) (hi : ∀ zs ∈ zss, I64s zs) (hok : shOk ds zss day n = true) (cs : List Frame) :
    ∃ (t : Array Value) (v' : World) (g c1 : Nat) (A1 : Option Addr), t.size = 49 ∧ g = v.heap.size ∧ Below v.heap.size v v' ∧ v.heap.size + 2 < v'.heap.size ∧ v'.cell? ⟨g, 0, none⟩ = some (.slice A m c) ∧ v'.cell? ⟨g + 1, 0, none⟩ = some (.slice B k d) ∧ v'.cell? ⟨g + 2, 0, none⟩ = some (.int .i64 day) ∧ v'.ownsRow v.heap.size 2 1 (.slice A1 k c1) k (ints (up 0 k)) ∧
      Steps Try.prog (lone (Frame.enter Try.prog 9 #[.slice A m c, .slice B k d, .int .i64 day, .int .i64 n] .normal) cs v)
        (lone (Frame.enter Try.prog 31 #[.slice A1 k c1, .int .i64 n, .func (.func 32) #[] #[.pointer (some ⟨g, 0, none⟩), .pointer (some ⟨g + 1, 0, none⟩), .pointer (some ⟨g + 2, 0, none⟩)]] .normal) (aF t :: cs) v') := by
  obtain ⟨a1, w1, ⟨x, g, c1, A1, e, h1, h2, h3, h4, h5, h6, rfl⟩, hs1⟩ := as_pre A m c ds B k d zss day n v hr hz hb hm hs hi hok cs
  obtain ⟨a2, w2, ⟨rfl, rfl⟩, hs2⟩ := ops_more (P := Try.prog) (ops := opsOf aR9) (ops2 := opsOf aR9) (K := fun a u => a = ⟨#[.slice A m c, .slice B k d, .int .i64 day, .int .i64 n, .pointer (some ⟨g, 0, none⟩), .pointer (some ⟨g + 1, 0, none⟩), .pointer (some ⟨g + 2, 0, none⟩), x 7, x 8, x 9, .slice A1 k c1, x 11, x 12, x 13, x 14, x 15, x 16, x 17, x 18, x 19, x 20, x 21, x 22, x 23, x 24, x 25, x 26, x 27, x 28, x 29, x 30, x 31, x 32, x 33, x 34, x 35, x 36, x 37, x 38, x 39, x 40, x 41, x 42, x 43, x 44, .slice A1 k c1, .int .i64 n, .func (.func 32) #[] #[.pointer (some ⟨g, 0, none⟩), .pointer (some ⟨g + 1, 0, none⟩), .pointer (some ⟨g + 2, 0, none⟩)], x 48], []⟩ ∧ u = w1) (fun _ => rfl) [0, 1, 2] _ w1 (fun _ _ => rfl) (a_argw x A m c B k d day n g c1 A1 w1 ⟨rfl, rfl⟩) aB [3, 4, 5] [.code .ret] cs
  refine ⟨#[.slice A m c, .slice B k d, .int .i64 day, .int .i64 n, .pointer (some ⟨g, 0, none⟩), .pointer (some ⟨g + 1, 0, none⟩), .pointer (some ⟨g + 2, 0, none⟩), x 7, x 8, x 9, .slice A1 k c1, x 11, x 12, x 13, x 14, x 15, x 16, x 17, x 18, x 19, x 20, x 21, x 22, x 23, x 24, x 25, x 26, x 27, x 28, x 29, x 30, x 31, x 32, x 33, x 34, x 35, x 36, x 37, x 38, x 39, x 40, x 41, x 42, x 43, x 44, .slice A1 k c1, .int .i64 n, .func (.func 32) #[] #[.pointer (some ⟨g, 0, none⟩), .pointer (some ⟨g + 1, 0, none⟩), .pointer (some ⟨g + 2, 0, none⟩)], x 48], w2, g, c1, A1, rfl, e, h1, h2, h3, h4, h5, h6, ?_⟩
  rw [a_enter]
  refine Steps.trans hs1 ?_
  rw [ac4]
  refine .head step_seq ?_
  rw [show aR9 = .region 9 (opsOf aR9) false from a_r9]
  refine .head step_region ?_
  rw [show List.range (opsOf aR9).size = [0, 1, 2] ++ [3, 4, 5] from by rw [a_size9]; rfl]
  refine Steps.trans hs2 (.one (step_call a_call a_callG ?_))
  unfold execOp
  rw [a_callOp]
  dsimp only
  go_simp
/-- ████ FROM THE LIST TO THE RETURN ████ -/
theorem as_out {t : Array Value} (ht : t.size = 49) (x : Value) (c : Frame) (cs : List Frame) (v : World) : Steps Try.prog (lone ((aF t).finish x) (c :: cs) v) (lone (c.finish (.tuple #[x, .bool true])) cs v) := by
  have hf : (aF t).finish x = aB.at ⟨t.setIfInBounds 48 x, []⟩ (.inRegion (opsOf aR9) [4, 5] :: [.code .ret]) := by
    unfold aF
    rw [Frame.finish_at, a_call]
    simp only [Option.bind_some, a_callD]
    rfl
  obtain ⟨x0, x1, x2, x3, x4, x5, x6, x7, x8, x9, x10, x11, x12, x13, x14, x15, x16, x17, x18, x19, x20, x21, x22, x23, x24, x25, x26, x27, x28, x29, x30, x31, x32, x33, x34, x35, x36, x37, x38, x39, x40, x41, x42, x43, x44, x45, x46, x47, x48, rfl⟩ : ∃ x0 x1 x2 x3 x4 x5 x6 x7 x8 x9 x10 x11 x12 x13 x14 x15 x16 x17 x18 x19 x20 x21 x22 x23 x24 x25 x26 x27 x28 x29 x30 x31 x32 x33 x34 x35 x36 x37 x38 x39 x40 x41 x42 x43 x44 x45 x46 x47 x48 : Value, t = #[x0, x1, x2, x3, x4, x5, x6, x7, x8, x9, x10, x11, x12, x13, x14, x15, x16, x17, x18, x19, x20, x21, x22, x23, x24, x25, x26, x27, x28, x29, x30, x31, x32, x33, x34, x35, x36, x37, x38, x39, x40, x41, x42, x43, x44, x45, x46, x47, x48] := by
    obtain ⟨l⟩ := t
    rcases l with  _ | ⟨x0, _ | ⟨x1, _ | ⟨x2, _ | ⟨x3, _ | ⟨x4, _ | ⟨x5, _ | ⟨x6, _ | ⟨x7, _ | ⟨x8, _ | ⟨x9, _ | ⟨x10, _ | ⟨x11, _ | ⟨x12, _ | ⟨x13, _ | ⟨x14, _ | ⟨x15, _ | ⟨x16, _ | ⟨x17, _ | ⟨x18, _ | ⟨x19, _ | ⟨x20, _ | ⟨x21, _ | ⟨x22, _ | ⟨x23, _ | ⟨x24, _ | ⟨x25, _ | ⟨x26, _ | ⟨x27, _ | ⟨x28, _ | ⟨x29, _ | ⟨x30, _ | ⟨x31, _ | ⟨x32, _ | ⟨x33, _ | ⟨x34, _ | ⟨x35, _ | ⟨x36, _ | ⟨x37, _ | ⟨x38, _ | ⟨x39, _ | ⟨x40, _ | ⟨x41, _ | ⟨x42, _ | ⟨x43, _ | ⟨x44, _ | ⟨x45, _ | ⟨x46, _ | ⟨x47, _ | ⟨x48, _ | ⟨y, l⟩⟩⟩⟩⟩⟩⟩⟩⟩⟩⟩⟩⟩⟩⟩⟩⟩⟩⟩⟩⟩⟩⟩⟩⟩⟩⟩⟩⟩⟩⟩⟩⟩⟩⟩⟩⟩⟩⟩⟩⟩⟩⟩⟩⟩⟩⟩⟩⟩⟩ <;> simp at ht
    exact ⟨x0, x1, x2, x3, x4, x5, x6, x7, x8, x9, x10, x11, x12, x13, x14, x15, x16, x17, x18, x19, x20, x21, x22, x23, x24, x25, x26, x27, x28, x29, x30, x31, x32, x33, x34, x35, x36, x37, x38, x39, x40, x41, x42, x43, x44, x45, x46, x47, x48, rfl⟩
  rw [hf]
  simp only [List.setIfInBounds_toArray, List.set_cons_zero, List.set_cons_succ]
  obtain ⟨t3, v3, ⟨rfl, rfl⟩, hs3⟩ := ops_more (P := Try.prog) (ops := opsOf aR9) (ops2 := opsOf aR9) (K := fun a u => a = ⟨#[x0, x1, x2, x3, x4, x5, x6, x7, x, .bool true, x10, x11, x12, x13, x14, x15, x16, x17, x18, x19, x20, x21, x22, x23, x24, x25, x26, x27, x28, x29, x30, x31, x32, x33, x34, x35, x36, x37, x38, x39, x40, x41, x42, x43, x44, x45, x46, x47, x], []⟩ ∧ u = v) (fun _ => rfl) [4, 5] _ v (fun _ _ => rfl) (a_resw x0 x1 x2 x3 x4 x5 x6 x7 x8 x9 x10 x11 x12 x13 x14 x15 x16 x17 x18 x19 x20 x21 x22 x23 x24 x25 x26 x27 x28 x29 x30 x31 x32 x33 x34 x35 x36 x37 x38 x39 x40 x41 x42 x43 x44 x45 x46 x47 x48 x v ⟨rfl, rfl⟩) aB [] [.code .ret] (c :: cs)
  refine Steps.trans hs3 (.head step_region_end (.head step_ret (.one (step_leave_returned ?_))))
  refine ⟨rfl, rfl, rfl, Try.f9, by kernel_rfl, ?_⟩
  rw [results_tmp2 (t := 8) (u := 9) (by kernel_rfl)]
  rfl
end Go.Proofs.Ytmfglflahlddbaa
namespace Go.Proofs.Ytmfglflahlddbaa
open Go.ConcN (sumTo)
open Go.ChangeShapes Go.WideShapes Go.ChangeAt Go.RowKit Sm Go.Conc
set_option linter.unusedVariables false

/-- From a stretch to its end, in company. -/
theorem calm_seg {H : Nat} {W : World} {Q : VStop} {gs : Array Goroutine} {w : World} {sl : Option (Nat × Nat)} {t : Trace} {q : Nat → Nat} {s : Sm.St} (hC : Sm.Calm Try.prog Fs12 H W (fun _ => False) gs w t q s) (h : Seg Try.prog (fun _ => False) Q s.fr s.up s.v) :
    ∃ N gs' w' sl' t' q' s', runNT Try.prog N (crowd gs w sl) t = (.next (crowd gs' w' sl'), t') ∧ Sm.Calm Try.prog Fs12 H W (fun _ => False) gs' w' t' q' s' ∧ s'.at Q := by
  obtain ⟨tr, hW⟩ := way_of_seg (main := true) (bs := []) okP hC.ok h hC.veil
  obtain ⟨N, gs', w', sl', t', q', s', h1, _, h2, h3⟩ := calm_way (tr, sumTo gs.size q) gs w sl t q s rfl hC hW
  exact ⟨N, gs', w', sl', t', q', s', h1, h2, h3⟩
theorem runs_on {P : Program} {a b : Nat} {m m1 m2 : Machine} {t t1 t2 : Trace} (h : runNT P a m t = (.next m1, t1)) (k : runNT P b m1 t1 = (.next m2, t2)) : ∃ N, runNT P N m t = (.next m2, t2) := ⟨a + b, by
  rw [runNT_add, h]; exact k⟩
theorem results_ints (ds : List Rl) (zss : List (List Int)) (day : Int) (k : Nat) (h : zss.length = k) : (Sm.results (fA ds zss day) k).toList = ints (zss.map fun zs => ansN ds zs day) := by
  unfold Sm.results ints fA
  refine List.ext_getElem (by simp [h]) fun i h1 h2 => ?_
  simp at h1 h2
  simp [List.getElem?_eq_getElem h2]
theorem own_hk {w : World} {base n m : Nat} {e : TypeId} {v : Value} {xs : List Value} (h : w.ownsRow base e m v n xs) : Hk w v := by
  rcases h.2 with ⟨rfl, _⟩ | ⟨g, cap, cur, rfl, _, hg, _⟩
  · exact .none_
  · exact .slice ⟨_, _, _, hg⟩
theorem RRd.keep_heap {w w' : World} {B m : Nat} {A : Option Addr} {rs : List Ru} (h : RRd w B A m rs) (e : w'.heap = w.heap) : RRd w' B A m rs := h.keep fun p _ => by unfold World.cell?; rw [e]
theorem MRd.keep_heap {w w' : World} {B m : Nat} {A : Option Addr} {rs : List Rw} (h : MRd w B A m rs) (e : w'.heap = w.heap) : MRd w' B A m rs := h.keep fun p _ => by unfold World.cell?; rw [e]

set_option maxHeartbeats 1000000 in
/-- ████ A CALL OF AnswersShared ████ -/
theorem call_run {H : Nat} {W : World} {gs : Array Goroutine} {w : World} {sl : Option (Nat × Nat)} {t : Trace} {q : Nat → Nat} {s : Sm.St} {b : Frame} {ts : Array Value} {ops : Array Oper} {i : Nat} {rest : List Nat} {kk : List Item} {o : Oper}
    {A AM : Option Addr} {m c k d : Nat} {rs : List Ru} {ws : List Rw} {day n : Int} (hC : Sm.Calm Try.prog Fs12 H W (fun _ => False) gs w t q s) (hfr : s.fr = b.at ⟨ts, []⟩ (.inRegion ops (i :: rest) :: kk)) (ho : ops[i]? = some o) (hg : o.guard = none)
    (hr : ∀ u, (execOp (⟨ts, []⟩ : Act).eval o).run Try.prog u = .ok (.enter 9 #[.slice A m c, .slice AM k d, .int .i64 day, .int .i64 n]) u)
    (rL : RRd s.v s.v.heap.size A m rs) (kL : Hk s.v (.slice A m c)) (kR : ∀ r ∈ rs, Hk s.v r.V) (rM : MRd s.v s.v.heap.size AM k ws) (kM : Hk s.v (.slice AM k d)) (kW : ∀ r ∈ ws, Hk s.v r.V)
    (hz : szD (rs.map Ru.dat) ≤ 1048576) (hb : ∀ d ∈ rs.map Ru.dat, RlB d) (hs : szM (ws.map Rw.zs) ≤ 1048576) (hi : ∀ zs ∈ ws.map Rw.zs, I64s zs) :
    ∃ N gs' w' sl' t' q' s' v, runNT Try.prog N (crowd gs w sl) t = (.next (crowd gs' w' sl'), t') ∧ Sm.Calm Try.prog Fs12 H W (fun _ => False) gs' w' t' q' s' ∧ s'.up = s.up ∧
      s'.fr = b.at ((⟨ts, []⟩ : Act).put o.dst (.tuple #[v, .bool (shOk (rs.map Ru.dat) (ws.map Rw.zs) day n)])) (.inRegion ops rest :: kk) ∧ s'.v.ownsRow s.v.heap.size 2 1 v (shR (rs.map Ru.dat) (ws.map Rw.zs) day n).length (ints (shR (rs.map Ru.dat) (ws.map Rw.zs) day n)) ∧ KpN s.v s'.v := by
  have hfin : ∀ x, (b.at ⟨ts, []⟩ (.inRegion ops (i :: rest) :: kk)).finish x = b.at ((⟨ts, []⟩ : Act).put o.dst x) (.inRegion ops rest :: kk) := by
    intro x; rw [Frame.finish_at, ho]; rfl
  have hput : ∀ x, ((⟨ts, []⟩ : Act).put o.dst x).defers = [] := by
    intro x; cases o.dst <;> rfl
  rcases Bool.eq_false_or_eq_true (shOk (rs.map Ru.dat) (ws.map Rw.zs) day n) with hok | hno
  case inr =>
    obtain ⟨N, gs', w', sl', t', q', s', h1, h2, T, d', hup, hfr', hold⟩ := calm_seg (sl := sl) (Q := fun fr up v' => up = s.up ∧ fr = b.at ((⟨ts, []⟩ : Act).put o.dst (.tuple #[.slice none 0 0, .bool false])) (.inRegion ops rest :: kk) ∧ OldSame s.v v') hC (fun T d' => by
      rw [hfr]
      obtain ⟨e, w', fr, ⟨rfl, hbw⟩, hcomes, hfn, hleave⟩ := as_no A m c (rs.map Ru.dat) AM k d (ws.map Rw.zs) day n (Sm.rt s.v T d') ⟨rs, rL.keep_heap rfl, rfl⟩ hz hb ⟨ws, rM.keep_heap rfl, rfl⟩ hs hi hno (b.at ⟨ts, []⟩ (.inRegion ops (i :: rest) :: kk) :: (s.up ++ [trap]))
      refine ⟨_, s.up, w', .head (step_call ho hg (hr _)) (Steps.trans hcomes (.one (step_leave_returned hleave))), ?_, ⟨rfl, hfin _, .trans (OldSame.heap rfl : OldSame s.v (Sm.rt s.v T d')) (.of_below hbw)⟩, fun b o hb => hb.elim⟩
      rw [hfin]
      exact ⟨hput _, .inl rfl⟩)
    have hold' : OldSame s.v s'.v := ⟨hold.size, hold.block⟩
    refine ⟨N, gs', w', sl', t', q', s', .slice none 0 0, h1, h2, hup, by rw [hno]; exact hfr', ?_, .of_old hold'⟩
    rw [shR_no hno]
    exact World.ownsRow_nil _ _ _ _
  obtain ⟨g1, g2, g3, g4, g5⟩ := shOk_iff.1 hok
  have d3 := inB_iff.1 g3
  obtain ⟨nn, hn⟩ : ∃ nn : Nat, n = nn := ⟨n.toNat, by omega⟩
  subst hn
  have hlen : ws.length = k := rM.len
  have hk16 : k ≤ 16 := by simpa [hlen] using g4
  have hwc : WkC (rs.map Ru.dat) ws day k := by
    refine ⟨hz, hb, hk16, fun r hrm => ⟨?_, ?_⟩⟩
    · rw [rM.nlen r hrm]; exact szM_mem hs (List.mem_map_of_mem hrm)
    · rw [court_eq g1 g2]
      rw [List.any_eq_false] at g5
      simpa [badZ] using g5 r.zs (List.mem_map_of_mem hrm)
  -- to the loop's head
  obtain ⟨N1, gs1, w1, sl1, t1, q1, s1, run1, hC1, T, d', tD, tS, B, b1, b2, b3, b4, b5, bL, bM, bD, bO, bC, A1, c1, hsD, hup1, hfr1, hS1, hF, ho1, hge⟩ := calm_seg (sl := sl) (Q := fun fr up v' => ∃ (tD tS : Array Value) (B b1 b2 b3 b4 b5 bL bM bD bO bC : Nat) (A1 : Option Addr) (c1 : Nat), tD.size = 49 ∧ up = aF tD :: b.at ⟨ts, []⟩ (.inRegion ops (i :: rest) :: kk) :: s.up ∧
      fr = sB.at ⟨tS, []⟩ sH1 ∧ S1 b1 b2 b3 b4 b5 nn 0 tS ∧ PhF v' B b1 b2 b3 b4 b5 bL bM bD bO bC A1 k c1 nn A m c AM d day rs ws ∧ OldSame s.v v' ∧ s.v.heap.size ≤ bO) hC (fun T d' => by
    obtain ⟨v, hv⟩ : ∃ v, v = Sm.rt s.v T d' := ⟨_, rfl⟩
    rw [← hv]
    have hvh : v.heap = s.v.heap := by rw [hv]; rfl
    have hov : OldSame s.v v := OldSame.heap hvh
    have hsv : s.v.heap.size = v.heap.size := by rw [hvh]
    obtain ⟨tD, v1, g, c1, A1, hsD, e, hb1, hlt1, e1, e2, e3, e4, hs1⟩ := as_in A m c (rs.map Ru.dat) AM k d (ws.map Rw.zs) day nn v ⟨rs, by rw [← hsv]; exact rL.keep_heap hvh, rfl⟩ hz hb ⟨ws, by rw [← hsv]; exact rM.keep_heap hvh, rfl⟩ hs hi hok (b.at ⟨ts, []⟩ (.inRegion ops (i :: rest) :: kk) :: (s.up ++ [trap]))
    have o1 : OldSame v v1 := .of_below hb1
    obtain ⟨tS, v2, b1, b2, b3, b4, b5, bO, bC, hs2, hS, o2, ⟨j1, j2, j3, j4, j5, j6⟩, ⟨n1, n2, n3, n4, n5⟩, x1, x2, x3, x4, x5, x6, x7⟩ := shared_in v1 A1 k c1 nn g (g + 1) (g + 2) (by omega) (aF tD :: b.at ⟨ts, []⟩ (.inRegion ops (i :: rest) :: kk) :: (s.up ++ [trap]))
    have oo := (hov.trans o1).trans o2
    have hsz1 := o1.size
    refine ⟨_, aF tD :: b.at ⟨ts, []⟩ (.inRegion ops (i :: rest) :: kk) :: s.up, v2, ?_, ⟨rfl, .inl rfl⟩, ⟨tD, tS, v1.heap.size, b1, b2, b3, b4, b5, g, g + 1, g + 2, bO, bC, A1, c1, hsD, rfl, rfl, hS, ⟨x1, x2, x3, x4, x5, o2.cell e1, o2.cell e2, o2.cell e3, x6, x7, j6, (Rd.of_own e4).old (Nat.le_refl _) o2, (own_hk e4).old o2, (rL.old (Nat.le_refl _) oo).more (by omega), kL.old oo, fun r hrm => (kR r hrm).old oo, (rM.old (Nat.le_refl _) oo).more (by omega), kM.old oo, fun r hrm => (kW r hrm).old oo,
      ⟨by omega, by omega, by omega, Ne.symm n4, Ne.symm n5, by omega, by omega, by omega⟩, by omega, hwc⟩, oo, by omega⟩, fun b o hb => hb.elim⟩
    rw [hfr]
    exact .head (step_call ho hg (hr _)) (Steps.trans hs1 hs2))
  have ho1' : OldSame s.v s1.v := ⟨ho1.size, ho1.block⟩
  have hF' : PhF s1.v B b1 b2 b3 b4 b5 bL bM bD bO bC A1 k c1 nn A m c AM d day rs ws := ⟨hF.c1, hF.c2, hF.c3, hF.c4, hF.c5, hF.cL, hF.cM, hF.cD, hF.cO, hF.cC, hF.hB, hF.rA, hF.kA, hF.rL, hF.kL, hF.kR, hF.rM, hF.kM, hF.kW, hF.d1, hF.hn, hF.wc⟩
  -- the phase
  obtain ⟨N2, gs2, w2, sl2, t2, q2, s2, run2, hC2, hup2, ⟨tS2, hS2, hfr2⟩, hrow, hsz2, hkp⟩ := shared_phase (sl := sl1) hC1 hfr1 hS1 hF'
  -- to the return
  have c4' : s2.v.cell? ⟨b4, 0, none⟩ = some (.slice (some ⟨bO, 0, none⟩) k k) := by
    obtain ⟨e4, f4, c4⟩ := hF'.c4
    obtain ⟨c', h1, _, h2⟩ := hkp b4 _ _ _ (Ne.symm hF'.d1.2.2.2.1) c4
    rw [cell_of h1]
    refine h2 0 _ rfl fun b hb => ?_
    cases hb
    obtain ⟨zs, e, _⟩ := hF'.cO
    exact .inl ⟨_, _, _, e⟩
  obtain ⟨N3, gs3, w3, sl3, t3, q3, s3, run3, hC3, T3, d3', hup3, hfr3, hold3⟩ := calm_seg (sl := sl2) (Q := fun fr up v' => up = s.up ∧ fr = b.at ((⟨ts, []⟩ : Act).put o.dst (.tuple #[.slice (some ⟨bO, 0, none⟩) k k, .bool true])) (.inRegion ops rest :: kk) ∧ v'.heap = s2.v.heap) hC2 (fun T d => by
    rw [hfr2, hup2, hup1]
    have hs1 := shared_out (v := Sm.rt s2.v T d) (by omega) hS2 c4' (aF tD) (b.at ⟨ts, []⟩ (.inRegion ops (i :: rest) :: kk) :: (s.up ++ [trap]))
    have hs2 := as_out hsD (.slice (some ⟨bO, 0, none⟩) k k) (b.at ⟨ts, []⟩ (.inRegion ops (i :: rest) :: kk)) (s.up ++ [trap]) (Sm.rt s2.v T d)
    refine ⟨_, s.up, _, Steps.trans hs1 hs2, ?_, ⟨rfl, hfin _, rfl⟩, fun b o hb => hb.elim⟩
    rw [hfin]
    exact ⟨hput _, .inl rfl⟩)
  have hheap : s3.v.heap = s2.v.heap := hold3
  obtain ⟨Na, runa⟩ := runs_on run1 run2
  obtain ⟨Nb, runb⟩ := runs_on runa run3
  refine ⟨Nb, gs3, w3, sl3, t3, q3, s3, .slice (some ⟨bO, 0, none⟩) k k, runb, hC3, hup3, by rw [hok]; exact hfr3, ?_, ?_⟩
  · rw [shR_yes hok, List.length_map, List.length_map, hlen]
    refine ⟨by simp [ints, hlen], .inr ⟨bO, k, _, rfl, hge, by rw [hheap]; exact hrow, Nat.le_refl _, by unfold maxLen; omega, by simp [Sm.results], ?_⟩⟩
    rw [results_ints _ _ _ _ (by rw [List.length_map]; exact hlen), Nat.mul_one, List.take_of_length_le (by simp [ints, hlen])]
  · refine ⟨by rw [hheap]; exact Nat.le_trans ho1'.size hsz2, fun j cc el fz hj => ?_⟩
    have hlt := (Array.getElem?_eq_some_iff.1 hj).1
    obtain ⟨c', h1, h2, h3⟩ := hkp j cc el fz (by omega) (ho1'.get hj)
    exact ⟨c', by rw [hheap]; exact h1, h2, fun p x hx hk => h3 p x hx (hk.old ho1').nn⟩
end Go.Proofs.Ytmfglflahlddbaa
