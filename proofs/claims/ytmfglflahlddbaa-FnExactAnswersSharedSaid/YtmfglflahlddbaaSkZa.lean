/-
  A REGION THAT DRAWS ITS ORDER, operation by operation: the kit's law with the destination written out.
-/
import Derived.Test.YtmfglflahlddbaaMem
import Derived.Deep.RegionHeld3
import Derived.Test.YtmfglflahlddbaaSmZg
import Derived.Test.YtmfglflahlddbaaApp
import Derived.Test.YtmfglflahlddbaaAnsC
import Derived.Test.YtmfglflahlddbaaMn
namespace Go.Proofs.Ytmfglflahlddbaa
set_option linter.unusedVariables false

theorem take_dst {P : Program} {md : Region.Mode} {ops : Array Oper} {Q : Exit → Act → World → Prop} {S : World → Prop} {i : Nat} {oi : Oper} {v : Value} {fuel : Nat} {listed : Array Bool} {a : Act} {w : World} (d : Option Nat) (hi : ops[i]? = some oi) (hd : oi.dst = d)
    (hs : Region.noSelect ops = true) (hf : Region.free md ops listed i = true) (hr : (Region.ready md ops listed).contains i = true)
    (hQ : ∀ c a w, Q (.panic c) (a.put d v) w → Q (.panic c) a w) (hy : YieldsIf P ops S oi v a) (hS : S w)
    (h : wpAnyH P md ops Q S fuel (listed.setIfInBounds i true) (a.put d v) w) : wpAnyH P md ops Q S (fuel + 1) listed a w := by
  subst hd; exact wpAnyH_take hi hs hf hr hQ hy hS h
end Go.Proofs.Ytmfglflahlddbaa
namespace Go.Proofs.Ytmfglflahlddbaa
open Go.ChangeShapes Go.WideShapes Go.ChangeAt Go.RowKit Sm
set_option linter.unusedVariables false

/-! ### the worker: shared$1 -/
noncomputable def wAll : Code := match Try.f47.body with | some c => c | none => .skip
noncomputable def wR0 : Code := match wAll with | .seq (.seq r _) _ => r | _ => .skip
noncomputable def wLB : Code := match wAll with | .seq (.seq _ (.block _ (.loop b))) _ => b | _ => .skip
noncomputable def wR4 : Code := match wAll with | .seq _ r => r | _ => .skip
noncomputable def wHead : Code := match wLB with | .seq h _ => h | _ => .skip
noncomputable def wR3 : Code := match wLB with | .seq _ (.seq (.block _ r) _) => r | _ => .skip
noncomputable def wR2 : Code := match wLB with | .seq _ (.seq _ r) => r | _ => .skip
def opsOf : Code → Array Oper
  | .region _ ops _ => ops
  | _ => #[]
theorem w_body : Try.f47.body = some (.seq (.seq wR0 (.block 0 (.loop wLB))) wR4) := by kernel_rfl
theorem w_loop : wLB = .seq wHead (.seq (.block 1 wR3) wR2) := by kernel_rfl
theorem w_r3 : wR3 = .region 3 (opsOf wR3) true := by kernel_rfl
theorem w_r4 : wR4 = .region 4 (opsOf wR4) false := by kernel_rfl

/-- The last operation left out. -/
def cutLast : Array Oper → Array Oper
  | ⟨[o0, o1, o2, o3, o4, o5, o6, o7, o8, o9]⟩ => #[o0, o1, o2, o3, o4, o5, o6, o7, o8, { o9 with op := .move (.tmp 22) }]
  | x => x

theorem w_step {K : Act → World → Prop} (x0 x1 x2 x3 x4 x5 x7 x8 x9 x10 x11 x12 x13 x14 x15 x16 x17 x18 x19 x20 x21 x22 x23 x24 : Value) (i n : Int) (a2 : Addr) (w : World) (hx2 : x2 = .pointer (some a2)) (hc : w.cell? a2 = some (.int .i64 n)) (hi : 0 ≤ i ∧ i ≤ 1000) (hn : 0 ≤ n ∧ n ≤ 1000)
    (hK : ∀ y12 y13 y14, K ⟨#[x0, x1, x2, x3, x4, x5, .int .i64 (i + n), x7, x8, x9, x10, x11, y12, y13, y14, x15, x16, x17, x18, x19, x20, x21, x22, x23, x24], []⟩ w) :
    wR2.wp Try.prog (QN K) ⟨#[x0, x1, x2, x3, x4, x5, .int .i64 i, x7, x8, x9, x10, x11, x12, x13, x14, x15, x16, x17, x18, x19, x20, x21, x22, x23, x24], []⟩ w := by
  subst hx2
  unfold wR2 wLB wAll Try.f47
  dsimp only
  go_wp2_with fail
  exact ⟨rfl, hK _ _ _⟩

theorem w_more {K : Act → World → Prop} (x0 x2 x3 x4 x5 x7 x8 x9 x10 x11 x12 x13 x14 x15 x16 x17 x18 x19 x20 x21 x22 x23 x24 : Value) (i : Int) (a1 : Addr) (A : Option Addr) (n c : Nat) (w : World) (hc : w.cell? a1 = some (.slice A n c)) (hi : i < n)
    (hK : ∀ y8 y9 y10 y11, K ⟨#[x0, .pointer (some a1), x2, x3, x4, x5, .int .i64 i, x7, y8, y9, y10, y11, x12, x13, x14, x15, x16, x17, x18, x19, x20, x21, x22, x23, x24], []⟩ w) :
    wHead.wp Try.prog (QN K) ⟨#[x0, .pointer (some a1), x2, x3, x4, x5, .int .i64 i, x7, x8, x9, x10, x11, x12, x13, x14, x15, x16, x17, x18, x19, x20, x21, x22, x23, x24], []⟩ w := by
  unfold wHead wLB wAll Try.f47
  dsimp only
  go_wp2_with fail
  exact ⟨rfl, hK _ _ _ _⟩
theorem w_stop {K : Act → World → Prop} (x0 x2 x3 x4 x5 x7 x8 x9 x10 x11 x12 x13 x14 x15 x16 x17 x18 x19 x20 x21 x22 x23 x24 : Value) (i : Int) (a1 : Addr) (A : Option Addr) (n c : Nat) (w : World) (hc : w.cell? a1 = some (.slice A n c)) (hi : ¬ i < n)
    (hK : ∀ y8 y9 y10 y11, K ⟨#[x0, .pointer (some a1), x2, x3, x4, x5, .int .i64 i, x7, y8, y9, y10, y11, x12, x13, x14, x15, x16, x17, x18, x19, x20, x21, x22, x23, x24], []⟩ w) :
    wHead.wp Try.prog (fun e a w => e = .exit 0 ∧ K a w) ⟨#[x0, .pointer (some a1), x2, x3, x4, x5, .int .i64 i, x7, x8, x9, x10, x11, x12, x13, x14, x15, x16, x17, x18, x19, x20, x21, x22, x23, x24], []⟩ w := by
  unfold wHead wLB wAll Try.f47
  dsimp only
  go_wp2_with fail
  exact hK _ _ _ _
theorem w_first {K : Act → World → Prop} (x1 x2 x3 x4 x5 x6 x7 x8 x9 x10 x11 x12 x13 x14 x15 x16 x17 x18 x19 x20 x21 x22 x23 x24 : Value) (i : Int) (a0 : Addr) (w : World) (hc : w.cell? a0 = some (.int .i64 i))
    (hK : ∀ y7, K ⟨#[.pointer (some a0), x1, x2, x3, x4, x5, .int .i64 i, y7, x8, x9, x10, x11, x12, x13, x14, x15, x16, x17, x18, x19, x20, x21, x22, x23, x24], []⟩ w) :
    wR0.wp Try.prog (QN K) ⟨#[.pointer (some a0), x1, x2, x3, x4, x5, x6, x7, x8, x9, x10, x11, x12, x13, x14, x15, x16, x17, x18, x19, x20, x21, x22, x23, x24], []⟩ w := by
  unfold wR0 wAll Try.f47
  dsimp only
  go_wp2_with fail
  exact ⟨rfl, hK _⟩

set_option maxHeartbeats 1600000 in
theorem w_result {K : Act → World → Prop} (x0 x2 x5 x7 x8 x9 x10 x11 x12 x13 x14 x15 x16 x17 x18 x19 x20 x21 x22 x23 x24 : Value) (i : Nat) (a1 a3 a4 c1 c2 c3 ad : Addr) (A : Option Addr) (bO n c co : Nat) (z y : Int) (w : World) (hA : A = some ad) (hi : i < n)
    (h1 : w.cell? a1 = some (.slice A n c)) (h3 : w.cell? a3 = some (.func (.func 32) #[] #[.pointer (some c1), .pointer (some c2), .pointer (some c3)])) (h4 : w.cell? a4 = some (.slice (some ⟨bO, 0, none⟩) n co)) (hz : w.cell? (ad.add i) = some (.int .i64 z)) (hn : n ≤ 1048576)
    (hcall : ∀ w', OldSame w w' → Calls Try.prog 32 #[.int .i64 z, .pointer (some c1), .pointer (some c2), .pointer (some c3)] w' fun e w'' => e = .returned (.int .i64 y) ∧ OldSame w' w'')
    (hK : ∀ w' y15 y16 y17 y18 y19 y20 y21, OldSame w w' → K ⟨#[x0, .pointer (some a1), x2, .pointer (some a3), .pointer (some a4), x5, .int .i64 i, x7, x8, x9, x10, x11, x12, x13, x14, y15, y16, y17, y18, y19, y20, y21, .int .i64 y, .pointer (some ⟨bO, i, none⟩), x24], []⟩ w') :
    wpAny Try.prog .any (cutLast (opsOf wR3)) (QN K) 10 (Array.replicate 10 false) ⟨#[x0, .pointer (some a1), x2, .pointer (some a3), .pointer (some a4), x5, .int .i64 i, x7, x8, x9, x10, x11, x12, x13, x14, x15, x16, x17, x18, x19, x20, x21, x22, x23, x24], []⟩ w := by
  have HC := Lib.hid hcall
  have HK := Lib.hid hK
  clear hcall hK
  have hHeld : (fun w' => w'.cell? a1 = some (.slice A n c) ∧ w'.cell? a3 = some (.func (.func 32) #[] #[.pointer (some c1), .pointer (some c2), .pointer (some c3)]) ∧ w'.cell? a4 = some (.slice (some ⟨bO, 0, none⟩) n co) ∧ w'.cell? (ad.add i) = some (.int .i64 z) ∧ OldSame w w') w := ⟨h1, h3, h4, hz, OldSame.refl w⟩
  clear h1 h3 h4 hz
  refine wpAny_of_held (S := (fun w' => w'.cell? a1 = some (.slice A n c) ∧ w'.cell? a3 = some (.func (.func 32) #[] #[.pointer (some c1), .pointer (some c2), .pointer (some c3)]) ∧ w'.cell? a4 = some (.slice (some ⟨bO, 0, none⟩) n co) ∧ w'.cell? (ad.add i) = some (.int .i64 z) ∧ OldSame w w')) _ _ _ _ ?_
  unfold wR3 wLB wAll Try.f47
  dsimp only [opsOf, cutLast]
  (refine take_dst (i := 0) (v := _) (some 15) rfl rfl (by kernel_rfl) (by kernel_rfl) (by kernel_rfl) (fun _ _ _ h => absurd h.1 (by simp)) (Or.inl ⟨by rfl, by (intro w3 hw; (try dsimp only at hw); go_simp; try with_reducible rfl)⟩) (by assumption) ?_; try simp only [Act.put, List.setIfInBounds_toArray, List.set_cons_zero, List.set_cons_succ])
  (refine take_dst (i := 1) (v := _) (some 16) rfl rfl (by kernel_rfl) (by kernel_rfl) (by kernel_rfl) (fun _ _ _ h => absurd h.1 (by simp)) (Or.inl ⟨by rfl, by (intro w3 hw; (try dsimp only at hw); go_simp; try with_reducible rfl)⟩) (by assumption) ?_; try simp only [Act.put, List.setIfInBounds_toArray, List.set_cons_zero, List.set_cons_succ])
  (refine take_dst (i := 2) (v := _) (some 17) rfl rfl (by kernel_rfl) (by kernel_rfl) (by kernel_rfl) (fun _ _ _ h => absurd h.1 (by simp)) (Or.inl ⟨by rfl, by (intro w3 hw; (try dsimp only at hw); go_simp; try with_reducible rfl)⟩) (by assumption) ?_; try simp only [Act.put, List.setIfInBounds_toArray, List.set_cons_zero, List.set_cons_succ])
  (refine take_dst (i := 3) (v := _) (some 18) rfl rfl (by kernel_rfl) (by kernel_rfl) (by kernel_rfl) (fun _ _ _ h => absurd h.1 (by simp)) (Or.inl ⟨by rfl, by (intro w3 hw; (try dsimp only at hw); go_simp; try with_reducible rfl)⟩) (by assumption) ?_; try simp only [Act.put, List.setIfInBounds_toArray, List.set_cons_zero, List.set_cons_succ])
  (refine take_dst (i := 4) (v := _) (some 19) rfl rfl (by kernel_rfl) (by kernel_rfl) (by kernel_rfl) (fun _ _ _ h => absurd h.1 (by simp)) (Or.inl ⟨by rfl, by (intro w3 hw; (try dsimp only at hw); go_simp; try with_reducible rfl)⟩) (by assumption) ?_; try simp only [Act.put, List.setIfInBounds_toArray, List.set_cons_zero, List.set_cons_succ])
  (refine take_dst (i := 5) (v := _) (some 20) rfl rfl (by kernel_rfl) (by kernel_rfl) (by kernel_rfl) (fun _ _ _ h => absurd h.1 (by simp)) (Or.inl ⟨by rfl, by (intro w3 hw; (try dsimp only at hw); go_simp; try with_reducible rfl)⟩) (by assumption) ?_; try simp only [Act.put, List.setIfInBounds_toArray, List.set_cons_zero, List.set_cons_succ])
  (refine take_dst (i := 6) (v := _) (some 21) rfl rfl (by kernel_rfl) (by kernel_rfl) (by kernel_rfl) (fun _ _ _ h => absurd h.1 (by simp)) (Or.inl ⟨by rfl, by (intro w3 hw; (try dsimp only at hw); go_simp; try with_reducible rfl)⟩) (by assumption) ?_; try simp only [Act.put, List.setIfInBounds_toArray, List.set_cons_zero, List.set_cons_succ])
  (refine wpAnyH_ready (rs := [7]) (by kernel_rfl) (by simp) (AllReadyH.cons (i := 7) rfl (fun K hK => ?_) AllReadyH.nil); go_simp)
  refine (HC.out _ hHeld.2.2.2.2).mono ?_
  rintro e w3 ⟨rfl, ho⟩
  go_wp2_with fail
  refine hK.out _ _ (⟨ho.cell hHeld.1, ho.cell hHeld.2.1, ho.cell hHeld.2.2.1, ho.cell hHeld.2.2.2.1, hHeld.2.2.2.2.trans ho⟩ : (fun w' => w'.cell? a1 = some (.slice A n c) ∧ w'.cell? a3 = some (.func (.func 32) #[] #[.pointer (some c1), .pointer (some c2), .pointer (some c3)]) ∧ w'.cell? a4 = some (.slice (some ⟨bO, 0, none⟩) n co) ∧ w'.cell? (ad.add i) = some (.int .i64 z) ∧ OldSame w w') w3) (fun hHeld => ?_)
  clear hK K
  try simp only [Act.put, List.setIfInBounds_toArray, List.set_cons_zero, List.set_cons_succ]
  (refine take_dst (i := 8) (v := _) (some 23) rfl rfl (by kernel_rfl) (by kernel_rfl) (by kernel_rfl) (fun _ _ _ h => absurd h.1 (by simp)) (Or.inl ⟨by rfl, by (intro w3 hw; (try dsimp only at hw); go_simp; try with_reducible rfl)⟩) (by assumption) ?_; try simp only [Act.put, List.setIfInBounds_toArray, List.set_cons_zero, List.set_cons_succ])
  refine take_dst (i := 9) (v := _) none rfl rfl (by kernel_rfl) (by kernel_rfl) (by kernel_rfl) (fun _ _ _ h => absurd h.1 (by simp)) (Or.inl ⟨by rfl, by (intro w3 hw; (try dsimp only at hw); go_simp; try with_reducible rfl)⟩) (by assumption) ?_
  refine wpAnyH_done (by kernel_rfl) ?_ _
  exact ⟨rfl, HK.out _ _ _ _ _ _ _ _ hHeld.2.2.2.2⟩
end Go.Proofs.Ytmfglflahlddbaa
namespace Go.Proofs.Ytmfglflahlddbaa
open Sm
noncomputable def Fs12 : FuncId → Bool := fun f => decide (3 ≤ f) && decide (f ≤ 78)
def okFn (P : Program) (Fs : FuncId → Bool) (f : FuncId) : Bool := match P.funcs[f]? with | some fn => (!(fn.name == "runtime.NumGoroutine")) && (match fn.body with | some c => okCode P Fs c | none => false) | none => false
theorem okFn_of {P : Program} {Fs : FuncId → Bool} {f : FuncId} (h : okFn P Fs f = true) : ∃ fn c, P.funcs[f]? = some fn ∧ (fn.name == "runtime.NumGoroutine") = false ∧ fn.body = some c ∧ okCode P Fs c = true := by
  unfold okFn at h
  split at h
  · rename_i fn h1
    simp only [Bool.and_eq_true, Bool.not_eq_true'] at h
    obtain ⟨h2, h3⟩ := h
    split at h3
    · rename_i c h4
      exact ⟨fn, c, h1, h2, h4, h3⟩
    · cases h3
  · cases h
theorem globals0 : Try.prog.globals.size = 0 := by kernel_rfl
theorem ok_3 : okFn Try.prog Fs12 3 = true := by kernel_rfl
theorem ok_4 : okFn Try.prog Fs12 4 = true := by kernel_rfl
theorem ok_5 : okFn Try.prog Fs12 5 = true := by kernel_rfl
theorem ok_6 : okFn Try.prog Fs12 6 = true := by kernel_rfl
theorem ok_7 : okFn Try.prog Fs12 7 = true := by kernel_rfl
theorem ok_8 : okFn Try.prog Fs12 8 = true := by kernel_rfl
theorem ok_9 : okFn Try.prog Fs12 9 = true := by kernel_rfl
theorem ok_10 : okFn Try.prog Fs12 10 = true := by kernel_rfl
theorem ok_11 : okFn Try.prog Fs12 11 = true := by kernel_rfl
theorem ok_12 : okFn Try.prog Fs12 12 = true := by kernel_rfl
theorem ok_13 : okFn Try.prog Fs12 13 = true := by kernel_rfl
theorem ok_14 : okFn Try.prog Fs12 14 = true := by kernel_rfl
theorem ok_15 : okFn Try.prog Fs12 15 = true := by kernel_rfl
theorem ok_16 : okFn Try.prog Fs12 16 = true := by kernel_rfl
theorem ok_17 : okFn Try.prog Fs12 17 = true := by kernel_rfl
theorem ok_18 : okFn Try.prog Fs12 18 = true := by kernel_rfl
theorem ok_19 : okFn Try.prog Fs12 19 = true := by kernel_rfl
theorem ok_20 : okFn Try.prog Fs12 20 = true := by kernel_rfl
theorem ok_21 : okFn Try.prog Fs12 21 = true := by kernel_rfl
theorem ok_22 : okFn Try.prog Fs12 22 = true := by kernel_rfl
theorem ok_23 : okFn Try.prog Fs12 23 = true := by kernel_rfl
theorem ok_24 : okFn Try.prog Fs12 24 = true := by kernel_rfl
theorem ok_25 : okFn Try.prog Fs12 25 = true := by kernel_rfl
theorem ok_26 : okFn Try.prog Fs12 26 = true := by kernel_rfl
theorem ok_27 : okFn Try.prog Fs12 27 = true := by kernel_rfl
theorem ok_28 : okFn Try.prog Fs12 28 = true := by kernel_rfl
theorem ok_29 : okFn Try.prog Fs12 29 = true := by kernel_rfl
theorem ok_30 : okFn Try.prog Fs12 30 = true := by kernel_rfl
theorem ok_31 : okFn Try.prog Fs12 31 = true := by kernel_rfl
theorem ok_32 : okFn Try.prog Fs12 32 = true := by kernel_rfl
theorem ok_33 : okFn Try.prog Fs12 33 = true := by kernel_rfl
theorem ok_34 : okFn Try.prog Fs12 34 = true := by kernel_rfl
theorem ok_35 : okFn Try.prog Fs12 35 = true := by kernel_rfl
theorem ok_36 : okFn Try.prog Fs12 36 = true := by kernel_rfl
theorem ok_37 : okFn Try.prog Fs12 37 = true := by kernel_rfl
theorem ok_38 : okFn Try.prog Fs12 38 = true := by kernel_rfl
theorem ok_39 : okFn Try.prog Fs12 39 = true := by kernel_rfl
theorem ok_40 : okFn Try.prog Fs12 40 = true := by kernel_rfl
theorem ok_41 : okFn Try.prog Fs12 41 = true := by kernel_rfl
theorem ok_42 : okFn Try.prog Fs12 42 = true := by kernel_rfl
theorem ok_43 : okFn Try.prog Fs12 43 = true := by kernel_rfl
theorem ok_44 : okFn Try.prog Fs12 44 = true := by kernel_rfl
theorem ok_45 : okFn Try.prog Fs12 45 = true := by kernel_rfl
theorem ok_46 : okFn Try.prog Fs12 46 = true := by kernel_rfl
theorem ok_47 : okFn Try.prog Fs12 47 = true := by kernel_rfl
theorem ok_48 : okFn Try.prog Fs12 48 = true := by kernel_rfl
theorem ok_49 : okFn Try.prog Fs12 49 = true := by kernel_rfl
theorem ok_50 : okFn Try.prog Fs12 50 = true := by kernel_rfl
theorem ok_51 : okFn Try.prog Fs12 51 = true := by kernel_rfl
theorem ok_52 : okFn Try.prog Fs12 52 = true := by kernel_rfl
theorem ok_53 : okFn Try.prog Fs12 53 = true := by kernel_rfl
theorem ok_54 : okFn Try.prog Fs12 54 = true := by kernel_rfl
theorem ok_55 : okFn Try.prog Fs12 55 = true := by kernel_rfl
theorem ok_56 : okFn Try.prog Fs12 56 = true := by kernel_rfl
theorem ok_57 : okFn Try.prog Fs12 57 = true := by kernel_rfl
theorem ok_58 : okFn Try.prog Fs12 58 = true := by kernel_rfl
theorem ok_59 : okFn Try.prog Fs12 59 = true := by kernel_rfl
theorem ok_60 : okFn Try.prog Fs12 60 = true := by kernel_rfl
theorem ok_61 : okFn Try.prog Fs12 61 = true := by kernel_rfl
theorem ok_62 : okFn Try.prog Fs12 62 = true := by kernel_rfl
theorem ok_63 : okFn Try.prog Fs12 63 = true := by kernel_rfl
theorem ok_64 : okFn Try.prog Fs12 64 = true := by kernel_rfl
theorem ok_65 : okFn Try.prog Fs12 65 = true := by kernel_rfl
theorem ok_66 : okFn Try.prog Fs12 66 = true := by kernel_rfl
theorem ok_67 : okFn Try.prog Fs12 67 = true := by kernel_rfl
theorem ok_68 : okFn Try.prog Fs12 68 = true := by kernel_rfl
theorem ok_69 : okFn Try.prog Fs12 69 = true := by kernel_rfl
theorem ok_70 : okFn Try.prog Fs12 70 = true := by kernel_rfl
theorem ok_71 : okFn Try.prog Fs12 71 = true := by kernel_rfl
theorem ok_72 : okFn Try.prog Fs12 72 = true := by kernel_rfl
theorem ok_73 : okFn Try.prog Fs12 73 = true := by kernel_rfl
theorem ok_74 : okFn Try.prog Fs12 74 = true := by kernel_rfl
theorem ok_75 : okFn Try.prog Fs12 75 = true := by kernel_rfl
theorem ok_76 : okFn Try.prog Fs12 76 = true := by kernel_rfl
theorem ok_77 : okFn Try.prog Fs12 77 = true := by kernel_rfl
theorem ok_78 : okFn Try.prog Fs12 78 = true := by kernel_rfl
theorem okP_aux (f : Nat) (h1 : 3 ≤ f) (h2 : f ≤ 78) : okFn Try.prog Fs12 f = true := by
  have : f = 3 ∨ f = 4 ∨ f = 5 ∨ f = 6 ∨ f = 7 ∨ f = 8 ∨ f = 9 ∨ f = 10 ∨ f = 11 ∨ f = 12 ∨ f = 13 ∨ f = 14 ∨ f = 15 ∨ f = 16 ∨ f = 17 ∨ f = 18 ∨ f = 19 ∨ f = 20 ∨ f = 21 ∨ f = 22 ∨ f = 23 ∨ f = 24 ∨ f = 25 ∨ f = 26 ∨ f = 27 ∨ f = 28 ∨ f = 29 ∨ f = 30 ∨ f = 31 ∨ f = 32 ∨ f = 33 ∨ f = 34 ∨ f = 35 ∨ f = 36 ∨ f = 37 ∨ f = 38 ∨ f = 39 ∨ f = 40 ∨ f = 41 ∨ f = 42 ∨ f = 43 ∨ f = 44 ∨ f = 45 ∨ f = 46 ∨ f = 47 ∨ f = 48 ∨ f = 49 ∨ f = 50 ∨ f = 51 ∨ f = 52 ∨ f = 53 ∨ f = 54 ∨ f = 55 ∨ f = 56 ∨ f = 57 ∨ f = 58 ∨ f = 59 ∨ f = 60 ∨ f = 61 ∨ f = 62 ∨ f = 63 ∨ f = 64 ∨ f = 65 ∨ f = 66 ∨ f = 67 ∨ f = 68 ∨ f = 69 ∨ f = 70 ∨ f = 71 ∨ f = 72 ∨ f = 73 ∨ f = 74 ∨ f = 75 ∨ f = 76 ∨ f = 77 ∨ f = 78 := by omega
  rcases this with rfl | rfl | rfl | rfl | rfl | rfl | rfl | rfl | rfl | rfl | rfl | rfl | rfl | rfl | rfl | rfl | rfl | rfl | rfl | rfl | rfl | rfl | rfl | rfl | rfl | rfl | rfl | rfl | rfl | rfl | rfl | rfl | rfl | rfl | rfl | rfl | rfl | rfl | rfl | rfl | rfl | rfl | rfl | rfl | rfl | rfl | rfl | rfl | rfl | rfl | rfl | rfl | rfl | rfl | rfl | rfl | rfl | rfl | rfl | rfl | rfl | rfl | rfl | rfl | rfl | rfl | rfl | rfl | rfl | rfl | rfl | rfl | rfl | rfl | rfl | rfl
  · exact ok_3
  · exact ok_4
  · exact ok_5
  · exact ok_6
  · exact ok_7
  · exact ok_8
  · exact ok_9
  · exact ok_10
  · exact ok_11
  · exact ok_12
  · exact ok_13
  · exact ok_14
  · exact ok_15
  · exact ok_16
  · exact ok_17
  · exact ok_18
  · exact ok_19
  · exact ok_20
  · exact ok_21
  · exact ok_22
  · exact ok_23
  · exact ok_24
  · exact ok_25
  · exact ok_26
  · exact ok_27
  · exact ok_28
  · exact ok_29
  · exact ok_30
  · exact ok_31
  · exact ok_32
  · exact ok_33
  · exact ok_34
  · exact ok_35
  · exact ok_36
  · exact ok_37
  · exact ok_38
  · exact ok_39
  · exact ok_40
  · exact ok_41
  · exact ok_42
  · exact ok_43
  · exact ok_44
  · exact ok_45
  · exact ok_46
  · exact ok_47
  · exact ok_48
  · exact ok_49
  · exact ok_50
  · exact ok_51
  · exact ok_52
  · exact ok_53
  · exact ok_54
  · exact ok_55
  · exact ok_56
  · exact ok_57
  · exact ok_58
  · exact ok_59
  · exact ok_60
  · exact ok_61
  · exact ok_62
  · exact ok_63
  · exact ok_64
  · exact ok_65
  · exact ok_66
  · exact ok_67
  · exact ok_68
  · exact ok_69
  · exact ok_70
  · exact ok_71
  · exact ok_72
  · exact ok_73
  · exact ok_74
  · exact ok_75
  · exact ok_76
  · exact ok_77
  · exact ok_78
theorem okP : OkProg Try.prog Fs12 := by
  refine ⟨fun f hf => ?_, globals0⟩
  unfold Fs12 at hf
  rw [Bool.and_eq_true] at hf
  exact okFn_of (okP_aux f (of_decide_eq_true hf.1) (of_decide_eq_true hf.2))
end Go.Proofs.Ytmfglflahlddbaa
namespace Go.Proofs.Ytmfglflahlddbaa
open Go.ChangeShapes Go.WideShapes Go.ChangeAt Go.RowKit Sm Go.Conc
set_option linter.unusedVariables false

noncomputable def ansN (ds : List Rl) (zs : List Int) (day : Int) : Int := ((wordList.filter (yesB ds zs day)).length : Nat)
theorem ansN_cnt (ds : List Rl) (zs : List Int) (day : Int) : ansN ds zs day = (cntB (yesB ds zs day) : Nat) := rfl
theorem ansN_bd (ds : List Rl) (zs : List Int) (day : Int) : 0 ≤ ansN ds zs day ∧ ansN ds zs day ≤ 32 := by
  have := filter_len (yesB ds zs day)
  unfold ansN
  omega
set_option maxHeartbeats 1600000 in
theorem how_at (i : Nat) (c1 c2 c3 ad : Addr) (AL B : Option Addr) (m cl k ck nb cb : Nat) (ds : List Rl) (zs : List Int) (day : Int) (w : World) (hi : i < k) (hk : k ≤ 1048576) (h1 : w.cell? c1 = some (.slice AL m cl)) (h2 : w.cell? c2 = some (.slice (some ad) k ck)) (h3 : w.cell? c3 = some (.int .i64 day)) (h4 : w.cell? (ad.add i) = some (.slice B nb cb))
    (hr : RsRd w w.heap.size AL m ds) (hz : szD ds ≤ 1048576) (hb : ∀ d ∈ ds, RlB d) (hf : Rd w w.heap.size 1 B nb (ints zs)) (hn : nb ≤ 1048576) (hok : courtOk ds zs day = true) :
    Calls Try.prog 32 #[.int .i64 i, .pointer (some c1), .pointer (some c2), .pointer (some c3)] w fun e w'' => e = .returned (.int .i64 (ansN ds zs day)) ∧ Below w.heap.size w w'' := by
  have HR := Lib.hid hr
  have HZ := Lib.hid hz
  have HB := Lib.hid hb
  have HF := Lib.hid hf
  have HOK := Lib.hid hok
  have hz0 : (0 : Int) ≤ i := by omega
  have hlt' : (i : Int) < k := by omega
  have HC1 := Lib.hid (block_lt_of_cell h1)
  have HC2 := Lib.hid (block_lt_of_cell h2)
  have HC3 := Lib.hid (block_lt_of_cell h3)
  have HC4 := Lib.hid (block_lt_of_cell h4)
  have KEEP := Lib.hid (show (fun w' => w'.cell? c1 = some (.slice AL m cl) ∧ w'.cell? c2 = some (.slice (some ad) k ck) ∧ w'.cell? c3 = some (.int .i64 day) ∧ w'.cell? (ad.add i) = some (.slice B nb cb) ∧ Below w.heap.size w w') (w.drew) from ⟨h1, h2, h3, h4, (Below.refl w.heap.size w).drew⟩)
  clear hr hz hb hf hok
  go_enter Try.func32, Try.ntmps32
  go_wp2_with fail
  refine wp_region_held_drew (S := (fun w' => w'.cell? c1 = some (.slice AL m cl) ∧ w'.cell? c2 = some (.slice (some ad) k ck) ∧ w'.cell? c3 = some (.int .i64 day) ∧ w'.cell? (ad.add i) = some (.slice B nb cb) ∧ Below w.heap.size w w')) (by kernel_rfl) KEEP.out (fun hHeld => ?_)
  (refine take_dst (i := 0) (v := _) (some 6) rfl rfl (by kernel_rfl) (by kernel_rfl) (by kernel_rfl) (fun _ _ _ h => h) (Or.inl ⟨by rfl, by (intro w3 hw; (try dsimp only at hw); go_simp; try with_reducible rfl)⟩) (by assumption) ?_; try simp only [Act.put, List.setIfInBounds_toArray, List.set_cons_zero, List.set_cons_succ])
  (refine take_dst (i := 1) (v := _) (some 7) rfl rfl (by kernel_rfl) (by kernel_rfl) (by kernel_rfl) (fun _ _ _ h => h) (Or.inl ⟨by rfl, by (intro w3 hw; (try dsimp only at hw); go_simp; try with_reducible rfl)⟩) (by assumption) ?_; try simp only [Act.put, List.setIfInBounds_toArray, List.set_cons_zero, List.set_cons_succ])
  (refine take_dst (i := 2) (v := _) (some 8) rfl rfl (by kernel_rfl) (by kernel_rfl) (by kernel_rfl) (fun _ _ _ h => h) (Or.inl ⟨by rfl, by (intro w3 hw; (try dsimp only at hw); go_simp; try with_reducible rfl)⟩) (by assumption) ?_; try simp only [Act.put, List.setIfInBounds_toArray, List.set_cons_zero, List.set_cons_succ])
  (refine take_dst (i := 3) (v := _) (some 9) rfl rfl (by kernel_rfl) (by kernel_rfl) (by kernel_rfl) (fun _ _ _ h => h) (Or.inl ⟨by rfl, by (intro w3 hw; (try dsimp only at hw); go_simp; try with_reducible rfl)⟩) (by assumption) ?_; try simp only [Act.put, List.setIfInBounds_toArray, List.set_cons_zero, List.set_cons_succ])
  (refine take_dst (i := 4) (v := _) (some 10) rfl rfl (by kernel_rfl) (by kernel_rfl) (by kernel_rfl) (fun _ _ _ h => h) (Or.inl ⟨by rfl, by (intro w3 hw; (try dsimp only at hw); go_simp; try with_reducible rfl)⟩) (by assumption) ?_; try simp only [Act.put, List.setIfInBounds_toArray, List.set_cons_zero, List.set_cons_succ])
  (refine take_dst (i := 5) (v := _) (some 11) rfl rfl (by kernel_rfl) (by kernel_rfl) (by kernel_rfl) (fun _ _ _ h => h) (Or.inl ⟨by rfl, by (intro w3 hw; (try dsimp only at hw); go_simp; try with_reducible rfl)⟩) (by assumption) ?_; try simp only [Act.put, List.setIfInBounds_toArray, List.set_cons_zero, List.set_cons_succ])
  (refine wpAnyH_ready (rs := [6]) (by kernel_rfl) (by simp) (AllReadyH.cons (i := 6) rfl (fun K hK => ?_) AllReadyH.nil); go_simp)
  refine (judged_rs _ _ _ ds _ _ _ zs day _ (HR.out.on hHeld.2.2.2.2) HZ.out HB.out (HF.out.on hHeld.2.2.2.2) hn HOK.out).mono ?_
  rintro e w3 ⟨g, A2, m2, k2, bp, bn, rs2, I, ci, rfl, hC, _, hcb, hb3, _, _⟩
  have HC := Lib.hid hC
  have HB3 := Lib.hid (below_step hHeld.2.2.2.2 hb3)
  have hs3 : (fun w' => w'.cell? c1 = some (.slice AL m cl) ∧ w'.cell? c2 = some (.slice (some ad) k ck) ∧ w'.cell? c3 = some (.int .i64 day) ∧ w'.cell? (ad.add i) = some (.slice B nb cb) ∧ Below w.heap.size w w') w3 := ⟨(hb3.cell (p := c1) HC1.out).trans hHeld.1, (hb3.cell (p := c2) HC2.out).trans hHeld.2.1, (hb3.cell (p := c3) HC3.out).trans hHeld.2.2.1, (hb3.cell (p := ad.add i) HC4.out).trans hHeld.2.2.2.1, HB3.out⟩
  clear hC hcb hb3 hHeld KEEP
  go_wp2_with fail
  refine hK.out _ _ hs3 (fun hHeld => ?_)
  clear hK K
  try simp only [Act.put, List.setIfInBounds_toArray, List.set_cons_zero, List.set_cons_succ]
  have e3 := HC.out.c3
  have el := HC.out.my.len 3
  (refine wpAnyH_ready (rs := [7]) (by kernel_rfl) (by simp) (AllReadyH.cons (i := 7) rfl (fun K hK => ?_) AllReadyH.nil); go_simp)
  refine hK.out _ _ hs3 (fun hHeld => ?_)
  clear hK K
  try simp only [Act.put, List.setIfInBounds_toArray, List.set_cons_zero, List.set_cons_succ]
  (refine wpAnyH_ready (rs := [8]) (by kernel_rfl) (by simp) (AllReadyH.cons (i := 8) rfl (fun K hK => ?_) AllReadyH.nil); go_simp)
  refine hK.out _ _ hs3 (fun hHeld => ?_)
  clear hK K
  try simp only [Act.put, List.setIfInBounds_toArray, List.set_cons_zero, List.set_cons_succ]
  (refine wpAnyH_ready (rs := [9]) (by kernel_rfl) (by simp) (AllReadyH.cons (i := 9) rfl (fun K hK => ?_) AllReadyH.nil); go_simp)
  refine hK.out _ _ hs3 (fun hHeld => ?_)
  clear hK K
  try simp only [Act.put, List.setIfInBounds_toArray, List.set_cons_zero, List.set_cons_succ]
  (refine wpAnyH_ready (rs := [10]) (by kernel_rfl) (by simp) (AllReadyH.cons (i := 10) rfl (fun K hK => ?_) AllReadyH.nil); go_simp)
  refine hK.out _ _ hs3 (fun hHeld => ?_)
  clear hK K
  try simp only [Act.put, List.setIfInBounds_toArray, List.set_cons_zero, List.set_cons_succ]
  (refine wpAnyH_ready (rs := [11]) (by kernel_rfl) (by simp) (AllReadyH.cons (i := 11) rfl (fun K hK => ?_) AllReadyH.nil); go_simp)
  refine hK.out _ _ hs3 (fun hHeld => ?_)
  clear hK K
  try simp only [Act.put, List.setIfInBounds_toArray, List.set_cons_zero, List.set_cons_succ]
  refine wpAnyH_done (by kernel_rfl) ?_ _
  go_wp2_with fail
  go_ret
  exact ⟨rfl, HB3.out⟩
theorem below_of_cell {w : World} {p : Addr} {x : Value} (h : w.cell? p = some x) : p.block < w.heap.size := block_lt_of_cell h
end Go.Proofs.Ytmfglflahlddbaa
namespace Go.Proofs.Ytmfglflahlddbaa
open Go.ChangeShapes Go.WideShapes Go.ChangeAt Go.RowKit
set_option linter.unusedVariables false

def findN {α : Type} (p : α → Bool) (zs : List α) : Int := match zs.findIdx? p with | some i => (i : Int) | none => -1
theorem findN_miss {α : Type} {p : α → Bool} {zs : List α} (h : zs.any p = false) : findN p zs = -1 := by
  unfold findN
  rw [List.findIdx?_eq_none_iff.2 fun x hx => by
    rw [List.any_eq_false] at h
    cases e : p x
    · rfl
    · exact absurd e (h x hx)]
theorem findN_hit {α : Type} {p : α → Bool} {zs : List α} {k : Nat} (d : α) (h : (zs.take k).any p = false) (hk : k < zs.length) (hp : p (zs[k]?.getD d) = true) : findN p zs = k := by
  unfold findN
  rw [List.findIdx?_eq_some_iff_getElem.2 ⟨hk, by rw [List.getElem?_eq_getElem hk] at hp; exact hp, fun j hj => by
    rw [List.any_eq_false] at h
    have := h zs[j] (by
      rw [List.mem_iff_getElem]
      exact ⟨j, by rw [List.length_take]; omega, by rw [List.getElem_take]⟩)
    simpa using this⟩]
theorem findN_nonneg {α : Type} {p : α → Bool} {zs : List α} : decide (0 ≤ findN p zs) = zs.any p := by
  cases h : zs.any p
  · rw [findN_miss h]; rfl
  · unfold findN
    cases e : zs.findIdx? p with
    | none =>
      rw [List.findIdx?_eq_none_iff] at e
      rw [List.any_eq_true] at h
      obtain ⟨x, hx, hp⟩ := h
      rw [e x hx] at hp; cases hp
    | some i => simp

/-! ### rows of rows that can be read, by what they say -/
def MsRd (w : World) (B : Nat) (A : Option Addr) (m : Nat) (zss : List (List Int)) : Prop := ∃ rs, MRd w B A m rs ∧ rs.map Rw.zs = zss
section
variable {w w' : World} {B B' m : Nat} {A : Option Addr} {zss : List (List Int)}
theorem MsRd.len (h : MsRd w B A m zss) : zss.length = m := by obtain ⟨rs, hr, rfl⟩ := h; rw [List.length_map]; exact hr.len
theorem MsRd.more (h : MsRd w B A m zss) (hB : B ≤ B') : MsRd w B' A m zss := by obtain ⟨rs, hr, e⟩ := h; exact ⟨rs, hr.more hB, e⟩
theorem MsRd.below (h : MsRd w B A m zss) (hb : Below B w w') : MsRd w' B A m zss := by obtain ⟨rs, hr, e⟩ := h; exact ⟨rs, hr.below hb, e⟩
theorem MsRd.on (h : MsRd w w.heap.size A m zss) (hb : Below w.heap.size w w') : MsRd w' w'.heap.size A m zss := (h.below hb).more hb.size
theorem MsRd.keep (h : MsRd w B A m zss) (hk : ∀ p : Addr, p.block < B → w'.cell? p = w.cell? p) : MsRd w' B A m zss := by obtain ⟨rs, hr, e⟩ := h; exact ⟨rs, hr.keep hk, e⟩
theorem MsRd.row {k : Nat} (h : MsRd w B A m zss) (hk : k < m) : ∃ (ad : Addr) (Ai : Option Addr) (ni ci : Nat) (zs : List Int), A = some ad ∧ ad.block < B ∧ zss[k]? = some zs ∧ ni = zs.length ∧ w.cell? (ad.add k) = some (.slice Ai ni ci) ∧ Rd w B 1 Ai ni (ints zs) := by
  obtain ⟨rs, hr, rfl⟩ := h
  obtain ⟨ad, r, h1, h2, h3, h4, h5⟩ := hr.row hk
  exact ⟨ad, r.A, r.n, r.c, r.zs, h1, h2, rw_at h3, h5.ilen.symm, h4, h5⟩
end
/-! ### the tests -/
def badZ (zs : List Int) : Bool := !wordsB zs
theorem bad_any (A : Option Addr) (n c : Nat) (zs : List Int) (w : World) (hr : Rd w w.heap.size 1 A n (ints zs)) (hn : n ≤ 1048576) (hz : I64s zs) :
    Calls Try.prog 29 #[.slice A n c] w fun e w' => e = .returned (.bool (badZ zs)) ∧ w = w' := by
  have e : badZ zs = !(wordsB zs && decide ((n : Int) ≤ 16)) := by
    unfold badZ
    cases h : wordsB zs
    · rfl
    · rw [show (true && decide ((n : Int) ≤ 16)) = true from by have := words_len16 h; have := hr.ilen; simp; omega]
  have he := Lib.hid e
  go_enter Try.func29, Try.ntmps29
  go_wp2_with (go_at_call 30; refine (areWords_any _ _ _ zs _ _ hr hn hz).mono ?_; rintro e w' ⟨rfl, rfl⟩)
  go_ret
  exact ⟨ret_bool (by rw [he.out, Bool.not_and]), rfl⟩
set_option maxHeartbeats 400000 in
theorem index_bad (A : Option Addr) (m c : Nat) (zss : List (List Int)) (w : World) (hr : MsRd w w.heap.size A m zss) (hm : szM zss ≤ 1048576) (hz : ∀ zs ∈ zss, I64s zs) :
    Calls Try.prog 44 #[.slice A m c, .func (.func 29) #[] #[]] w fun e w' => e = .returned (.int .i64 (findN badZ zss)) ∧ w = w' := by
  have HL := Lib.hid hr.len
  have HM := Lib.hid hm
  have HZ := Lib.hid hz
  have hml := szM_len hm hr.len
  clear hm hz
  go_enter Try.func44, Try.ntmps44
  go_wp2
  go_loop [5, 8] (fun _ i => ∃ k : Nat, k ≤ m ∧ i = .int .i64 k ∧ (zss.take k).any badZ = false) (fun _ i => m - (intOf i).toNat)
  case atStart => exact ⟨0, Nat.zero_le _, rfl, rfl⟩
  case round =>
    obtain ⟨k, hk, rfl, ha⟩ := hrel
    have HA := Lib.hid ha
    clear ha
    by_cases hlt : k < m
    · obtain ⟨ad, Ai, ni, ci, zs, rfl, _, hzs, hni, hc, hrd⟩ := hr.row hlt
      have HRD := Lib.hid hrd
      have HZS := Lib.hid hzs
      have hn : ni ≤ 1048576 := by rw [hni]; exact szM_at HM.out hzs
      have HI := Lib.hid (HZ.out zs (List.mem_of_getElem? hzs))
      clear hr hrd hzs hni
      cases h0 : badZ zs
      · have hfin := Lib.hid (show (zss.take (k + 1)).any badZ = false by
          rw [take_snoc zss k [] (by have := HL.out; omega), List.any_append, HA.out, HZS.out]; simp [h0])
        go_wp2_with (go_at_call 29; refine (bad_any _ _ _ zs _ HRD.out hn HI.out).mono ?_; rintro e w' ⟨rfl, rfl⟩)
        go_round
        case rel => exact ⟨k + 1, by omega, by go_num, hfin.out⟩
        case measure => simp [intOf]; omega
      · have hfin := Lib.hid (findN_hit (p := badZ) [] HA.out (by have := HL.out; omega) (by rw [HZS.out]; exact h0))
        go_wp2_with (go_at_call 29; refine (bad_any _ _ _ zs _ HRD.out hn HI.out).mono ?_; rintro e w' ⟨rfl, rfl⟩)
        go_ret
        exact ⟨by rw [hfin.out]; rfl, rfl⟩
    · obtain rfl : m = k := by omega
      have hfin := Lib.hid (findN_miss (p := badZ) (zs := zss) (by have := HA.out; rwa [List.take_of_length_le (by have := HL.out; omega)] at this))
      clear HA
      go_wp2
      go_ret
      exact ⟨by rw [hfin.out]; rfl, rfl⟩
theorem contains_bad (A : Option Addr) (m c : Nat) (zss : List (List Int)) (w : World) (hr : MsRd w w.heap.size A m zss) (hm : szM zss ≤ 1048576) (hz : ∀ zs ∈ zss, I64s zs) :
    Calls Try.prog 28 #[.slice A m c, .func (.func 29) #[] #[]] w fun e w' => e = .returned (.bool (zss.any badZ)) ∧ w = w' := by
  have hfin := Lib.hid (findN_nonneg (p := badZ) (zs := zss))
  go_enter Try.func28, Try.ntmps28
  go_wp2_with (go_at_call 44; refine (index_bad _ _ _ _ _ hr hm hz).mono ?_; rintro e w' ⟨rfl, rfl⟩)
  go_ret
  exact ⟨ret_bool (by rw [← hfin.out]), rfl⟩
end Go.Proofs.Ytmfglflahlddbaa
namespace Go.Proofs.Ytmfglflahlddbaa
open Go.ChangeShapes Go.WideShapes Go.ChangeAt Go.RowKit
set_option linter.unusedVariables false
def shOk (ds : List Rl) (zss : List (List Int)) (day n : Int) : Bool := rulesB ds && (inB day 0 100000 && (inB n 1 8 && (decide (zss.length ≤ 16) && !zss.any badZ)))
noncomputable def shR (ds : List Rl) (zss : List (List Int)) (day n : Int) : List Int := if shOk ds zss day n then zss.map fun zs => ansN ds zs day else []
theorem shOk_iff {ds : List Rl} {zss : List (List Int)} {day n : Int} : shOk ds zss day n = true ↔ rulesB ds = true ∧ inB day 0 100000 = true ∧ inB n 1 8 = true ∧ zss.length ≤ 16 ∧ zss.any badZ = false := by
  simp [shOk]
theorem shR_len (ds : List Rl) (zss : List (List Int)) (day n : Int) : (shR ds zss day n).length ≤ 16 := by
  unfold shR
  split
  · rename_i h
    rw [List.length_map]
    exact (shOk_iff.1 h).2.2.2.1
  · simp
theorem shR_yes {ds : List Rl} {zss : List (List Int)} {day n : Int} (h : shOk ds zss day n = true) : shR ds zss day n = zss.map fun zs => ansN ds zs day := by unfold shR; rw [if_pos h]
theorem shR_no {ds : List Rl} {zss : List (List Int)} {day n : Int} (h : shOk ds zss day n = false) : shR ds zss day n = [] := by unfold shR; rw [h]; rfl
theorem as_no (A : Option Addr) (m c : Nat) (ds : List Rl) (B : Option Addr) (k d : Nat) (zss : List (List Int)) (day n : Int) (w : World) (hr : RsRd w w.heap.size A m ds) (hz : szD ds ≤ 1048576) (hb : ∀ d ∈ ds, RlB d) (hm : MsRd w w.heap.size B k zss) (hs : szM zss ≤ 1048576) (hi : ∀ zs ∈ zss, I64s zs) (hno : shOk ds zss day n = false) :
    Calls Try.prog 9 #[.slice A m c, .slice B k d, .int .i64 day, .int .i64 n] w fun e w' => e = .returned (.tuple #[.slice none 0 0, .bool false]) ∧ Below w.heap.size w w' := by
  have HR := Lib.hid hr
  have HZ := Lib.hid hz
  have HRB := Lib.hid hb
  have HM := Lib.hid hm
  have HS := Lib.hid hs
  have HI := Lib.hid hi
  have HN := Lib.hid hno
  have HML := Lib.hid hm.len
  clear hr hz hb hm hs hi hno
  have hB := (((Below.refl w.heap.size w).alloc (Nat.le_refl _) (.cells #[.slice A m c] 29 (0, 0))).alloc (by simp) (.cells #[.slice B k d] 23 (0, 0))).alloc (by simp; omega) (.cells #[.int .i64 day] 2 (0, 0))
  rcases Bool.eq_false_or_eq_true (rulesB ds) with h1 | h1
  case inr =>
    go_enter Try.func9, Try.ntmps9
    go_wp2_with fail
    refine (areRules_is _ _ _ _ ((HR.out.below hB).more (by simp; omega)) HZ.out HRB.out h1).mono ?_
    rintro e w1 ⟨rfl, hb1⟩
    have hx2 : w1.cell? ⟨w.heap.size + 1, 0, none⟩ = some (.slice B k d) := by rw [hb1.cell (by simp)]; go_simp
    have hx3 : w1.cell? ⟨w.heap.size + 2, 0, none⟩ = some (.int .i64 day) := by rw [hb1.cell (by simp)]; go_simp
    have HB1 := Lib.hid (hB.trans (hb1.mono (by simp; omega)))
    clear hb1 hB
    go_wp2_with fail
    go_ret2
    exact ⟨rfl, HB1.out⟩
  rcases Bool.eq_false_or_eq_true (inB day 0 100000) with h2 | h2
  case inr =>
    go_enter Try.func9, Try.ntmps9
    go_wp2_with fail
    refine (areRules_is _ _ _ _ ((HR.out.below hB).more (by simp; omega)) HZ.out HRB.out h1).mono ?_
    rintro e w1 ⟨rfl, hb1⟩
    have hx2 : w1.cell? ⟨w.heap.size + 1, 0, none⟩ = some (.slice B k d) := by rw [hb1.cell (by simp)]; go_simp
    have hx3 : w1.cell? ⟨w.heap.size + 2, 0, none⟩ = some (.int .i64 day) := by rw [hb1.cell (by simp)]; go_simp
    have HB1 := Lib.hid (hB.trans (hb1.mono (by simp; omega)))
    clear hb1 hB
    go_wp2_with fail
    refine (isDate_is _ h2).mono ?_
    rintro e w2 ⟨rfl, rfl⟩
    go_wp2_with fail
    go_ret2
    exact ⟨rfl, HB1.out⟩
  rcases Bool.eq_false_or_eq_true (inB n 1 8) with h3 | h3
  case inr =>
    go_enter Try.func9, Try.ntmps9
    go_wp2_with fail
    refine (areRules_is _ _ _ _ ((HR.out.below hB).more (by simp; omega)) HZ.out HRB.out h1).mono ?_
    rintro e w1 ⟨rfl, hb1⟩
    have hx2 : w1.cell? ⟨w.heap.size + 1, 0, none⟩ = some (.slice B k d) := by rw [hb1.cell (by simp)]; go_simp
    have hx3 : w1.cell? ⟨w.heap.size + 2, 0, none⟩ = some (.int .i64 day) := by rw [hb1.cell (by simp)]; go_simp
    have HB1 := Lib.hid (hB.trans (hb1.mono (by simp; omega)))
    clear hb1 hB
    go_wp2_with fail
    refine (isDate_is _ h2).mono ?_
    rintro e w2 ⟨rfl, rfl⟩
    go_wp2_with fail
    refine (isWorkers_any _ _).mono ?_
    rintro e w2 ⟨rfl, rfl⟩
    go_wp2_with fail
    go_ret2
    exact ⟨rfl, HB1.out⟩
  by_cases h4 : k ≤ 16
  case neg =>
    go_enter Try.func9, Try.ntmps9
    go_wp2_with fail
    refine (areRules_is _ _ _ _ ((HR.out.below hB).more (by simp; omega)) HZ.out HRB.out h1).mono ?_
    rintro e w1 ⟨rfl, hb1⟩
    have hx2 : w1.cell? ⟨w.heap.size + 1, 0, none⟩ = some (.slice B k d) := by rw [hb1.cell (by simp)]; go_simp
    have hx3 : w1.cell? ⟨w.heap.size + 2, 0, none⟩ = some (.int .i64 day) := by rw [hb1.cell (by simp)]; go_simp
    have HB1 := Lib.hid (hB.trans (hb1.mono (by simp; omega)))
    clear hb1 hB
    go_wp2_with fail
    refine (isDate_is _ h2).mono ?_
    rintro e w2 ⟨rfl, rfl⟩
    go_wp2_with fail
    refine (isWorkers_any _ _).mono ?_
    rintro e w2 ⟨rfl, rfl⟩
    go_wp2_with fail
    go_ret2
    exact ⟨rfl, HB1.out⟩
  rcases Bool.eq_false_or_eq_true (zss.any badZ) with h5 | h5
  case inl =>
    go_enter Try.func9, Try.ntmps9
    go_wp2_with fail
    refine (areRules_is _ _ _ _ ((HR.out.below hB).more (by simp; omega)) HZ.out HRB.out h1).mono ?_
    rintro e w1 ⟨rfl, hb1⟩
    have hx2 : w1.cell? ⟨w.heap.size + 1, 0, none⟩ = some (.slice B k d) := by rw [hb1.cell (by simp)]; go_simp
    have hx3 : w1.cell? ⟨w.heap.size + 2, 0, none⟩ = some (.int .i64 day) := by rw [hb1.cell (by simp)]; go_simp
    have HB1 := Lib.hid (hB.trans (hb1.mono (by simp; omega)))
    clear hb1 hB
    go_wp2_with fail
    refine (isDate_is _ h2).mono ?_
    rintro e w2 ⟨rfl, rfl⟩
    go_wp2_with fail
    refine (isWorkers_any _ _).mono ?_
    rintro e w2 ⟨rfl, rfl⟩
    go_wp2_with fail
    refine (contains_bad _ _ _ zss _ (HM.out.on HB1.out) HS.out HI.out).mono ?_
    rintro e w2 ⟨rfl, rfl⟩
    go_wp2_with fail
    go_ret2
    exact ⟨rfl, HB1.out⟩
  exact absurd HN.out (by rw [shOk_iff.2 ⟨h1, h2, h3, by rw [HML.out]; exact h4, h5⟩]; simp)
end Go.Proofs.Ytmfglflahlddbaa
namespace Go.Proofs.Ytmfglflahlddbaa
open Go.ChangeShapes Go.WideShapes Go.ChangeAt Go.RowKit
set_option linter.unusedVariables false
theorem as_is_no {W w' : World} {ds : List Rl} {zss : List (List Int)} {day n : Int} (h : shOk ds zss day n = false) (hb : Below W.heap.size W w') : SlEnds W (shR ds zss day n) (shOk ds zss day n) (.returned (.tuple #[.slice none 0 0, .bool false])) w' := by
  rw [h, shR_no h]; exact sl_no hb
theorem as_is_yes {W w' : World} {ds : List Rl} {zss : List (List Int)} {day n : Int} {v : Value} {k : Nat} (h : shOk ds zss day n = true) (hk : zss.length = k) (ho : w'.ownsRow W.heap.size tI 1 v k (ints (zss.map fun zs => ansN ds zs day))) (hb : Below W.heap.size W w') : SlEnds W (shR ds zss day n) (shOk ds zss day n) (.returned (.tuple #[v, .bool true])) w' := by
  rw [h, shR_yes h]; exact sl_yes (by rw [List.length_map, hk]) ho hb
theorem court_eq {ds : List Rl} {day : Int} (h1 : rulesB ds = true) (h2 : inB day 0 100000 = true) (zs : List Int) : courtOk ds zs day = wordsB zs := by simp [courtOk, h1, h2]
set_option maxHeartbeats 1600000 in
theorem spec_as (A : Option Addr) (m c : Nat) (ds : List Rl) (B : Option Addr) (k d : Nat) (zss : List (List Int)) (day n : Int) (w : World) (hr : RsRd w w.heap.size A m ds) (hz : szD ds ≤ 1048576) (hb : ∀ d ∈ ds, RlB d) (hm : MsRd w w.heap.size B k zss) (hs : szM zss ≤ 1048576) (hi : ∀ zs ∈ zss, I64s zs)
    (bd : -9223372036854775808 ≤ day ∧ day ≤ 9223372036854775807) : Calls Try.prog 6 #[.slice A m c, .slice B k d, .int .i64 day, .int .i64 n] w (SlEnds w (shR ds zss day n) (shOk ds zss day n)) := by
  have HR := Lib.hid hr
  have HZ := Lib.hid hz
  have HRB := Lib.hid hb
  have HM := Lib.hid hm
  have HS := Lib.hid hs
  have HI := Lib.hid hi
  have HML := Lib.hid hm.len
  have BD := Lib.hid bd
  clear hr hz hb hm hs hi bd
  rcases Bool.eq_false_or_eq_true (rulesB ds) with h1 | h1
  case inr =>
    have hno := Lib.hid (show shOk ds zss day n = false by simp [shOk, h1])
    go_enter Try.func6, Try.ntmps6
    go_wp2_with fail
    refine (l05Rules_is _ _ _ _ HR.out HZ.out HRB.out h1).mono ?_
    rintro e w1 ⟨rfl, j1, rfl⟩
    have HB1 := Lib.hid (below_drewN (Below.refl w.heap.size w) j1)
    go_wp2_with fail
    go_ret2
    exact as_is_no hno.out (by first | exact HB1.out | (rw [← World.drewN_drewN]; exact HB1.out))
  rcases Bool.eq_false_or_eq_true (inB day 0 100000) with h2 | h2
  case inr =>
    have hno := Lib.hid (show shOk ds zss day n = false by simp [shOk, h2])
    go_enter Try.func6, Try.ntmps6
    go_wp2_with fail
    refine (l05Rules_is _ _ _ _ HR.out HZ.out HRB.out h1).mono ?_
    rintro e w1 ⟨rfl, j1, rfl⟩
    have HB1 := Lib.hid (below_drewN (Below.refl w.heap.size w) j1)
    go_wp2_with fail
    refine (l05Day_is h2 _).mono ?_
    rintro e w2 ⟨rfl, rfl⟩
    go_wp2_with fail
    go_ret2
    exact as_is_no hno.out (by first | exact HB1.out | (rw [← World.drewN_drewN]; exact HB1.out))
  by_cases h4 : k ≤ 16
  case neg =>
    have hno := Lib.hid (show shOk ds zss day n = false by have := HML.out; simp [shOk]; omega)
    go_enter Try.func6, Try.ntmps6
    go_wp2_with fail
    refine (l05Rules_is _ _ _ _ HR.out HZ.out HRB.out h1).mono ?_
    rintro e w1 ⟨rfl, j1, rfl⟩
    have HB1 := Lib.hid (below_drewN (Below.refl w.heap.size w) j1)
    go_wp2_with fail
    refine (l05Day_is h2 _).mono ?_
    rintro e w2 ⟨rfl, rfl⟩
    go_wp2_with fail
    go_ret2
    exact as_is_no hno.out (by first | exact HB1.out | (rw [← World.drewN_drewN]; exact HB1.out))
  rcases Bool.eq_false_or_eq_true (inB n 1 8) with h3 | h3
  case inr =>
    have hno := Lib.hid (show shOk ds zss day n = false by simp [shOk, h3])
    go_enter Try.func6, Try.ntmps6
    go_wp2_with fail
    refine (l05Rules_is _ _ _ _ HR.out HZ.out HRB.out h1).mono ?_
    rintro e w1 ⟨rfl, j1, rfl⟩
    have HB1 := Lib.hid (below_drewN (Below.refl w.heap.size w) j1)
    go_wp2_with fail
    refine (l05Day_is h2 _).mono ?_
    rintro e w2 ⟨rfl, rfl⟩
    go_wp2_with fail
    refine (l00In_any _ _ _ _).mono ?_
    rintro e w2 ⟨rfl, rfl⟩
    go_wp2_with fail
    go_ret2
    exact as_is_no hno.out (by first | exact HB1.out | (rw [← World.drewN_drewN]; exact HB1.out))
  have HCE := Lib.hid (court_eq h1 h2)
  have H123 := Lib.hid (And.intro h1 (And.intro h2 h3))
  go_enter Try.func6, Try.ntmps6
  go_wp2_with fail
  refine (l05Rules_is _ _ _ _ HR.out HZ.out HRB.out h1).mono ?_
  rintro e w1 ⟨rfl, j1, rfl⟩
  have HB1 := Lib.hid (below_drewN (Below.refl w.heap.size w) j1)
  go_wp2_with fail
  refine (l05Day_is h2 _).mono ?_
  rintro e w2 ⟨rfl, rfl⟩
  go_wp2_with fail
  refine (l00In_any _ _ _ _).mono ?_
  rintro e w2 ⟨rfl, rfl⟩
  go_wp2_with fail
  clear h1 h2 h3
  have hown0 := Lib.hid (show ((w.drewN j1).alloc (.cells #[] 2)).ownsRow w.heap.size 2 1 (.slice (some ⟨w.heap.size, 0, none⟩) 0 0) 0 [] from own_base (own_empty (w.drewN j1) 2) (Nat.le_refl _))
  have hbe0 := Lib.hid (HB1.out.alloc HB1.out.size (.cells #[] 2))
  go_loopw [10, 11, 12, 13, 14, 36] (fun v _ _ _ _ i wr => ∃ j : Nat, j ≤ k ∧ i = .int .i64 j ∧ (zss.take j).any badZ = false ∧ wr.ownsRow w.heap.size 2 1 v j (ints ((zss.take j).map fun zs => ansN ds zs day)) ∧ Below w.heap.size w wr) (fun _ _ _ _ _ i _ => k - (intOf i).toNat)
  case atStart => exact ⟨0, Nat.zero_le _, rfl, rfl, hown0.out, hbe0.out⟩
  case round =>
    obtain ⟨j, hj, rfl, hall, hown, hbw⟩ := hrel
    have HA := Lib.hid hall
    have HO := Lib.hid hown
    have HW := Lib.hid hbw
    clear hall hown hbw hown0 hbe0 HB1
    by_cases hlt : j < k
    · obtain ⟨ad, Ai, ni, ci, zs, rfl, _, hzs, hni, hc, hrd⟩ := (HM.out.below HW.out).row hlt
      have HRD := Lib.hid (hrd.more HW.out.size)
      have HZS := Lib.hid hzs
      have hn : ni ≤ 1048576 := by rw [hni]; exact szM_at HS.out hzs
      have HIZ := Lib.hid (HI.out zs (List.mem_of_getElem? hzs))
      have HT := Lib.hid (take_snoc zss j [] (by have := HML.out; omega))
      clear hrd hzs hni
      cases h0 : badZ zs
      · have hw : courtOk ds zs day = true := by rw [HCE.out]; simpa [badZ] using h0
        have HAN := Lib.hid (an_yes hw)
        have HNX := Lib.hid (show (zss.take (j + 1)).any badZ = false by rw [HT.out, List.any_append, HA.out, HZS.out]; simp [h0])
        clear h0
        go_wp2_with fail
        refine (spec_AnswersOf _ _ _ ds _ _ _ zs day _ ((HR.out.below HW.out).more HW.out.size) HZ.out HRB.out HRD.out hn HIZ.out BD.out).mono ?_
        rintro e w3 ⟨u, v2, l1, g1, l2, g2, rfl, ou, ov, _, hb3⟩
        rw [HAN.out.1] at ou
        rw [HAN.out.2.2]
        obtain ⟨A1, q1, rfl⟩ := ou.form
        have HO3 := Lib.hid (own_on HO.out hb3)
        have HW3 := Lib.hid (below_step HW.out hb3)
        have hfl := filter_len (yesB ds zs day)
        clear ou ov hb3 hw hc
        obtain ⟨x, hx⟩ : ∃ x, x = (wordList.filter (yesB ds zs day)).length := ⟨_, rfl⟩
        rw [← hx] at hfl
        have HX := Lib.hid (show ansN ds zs day = x by unfold ansN; rw [hx])
        rw [← hx]
        clear hx
        go_wp2_with (at_builtin; refine append_int rfl (.tmp 52) (.tmp 55) rfl w _ j ((zss.take j).map fun zs => ansN ds zs day) rfl (World.ownsRow.alloc HO3.out _) (HW3.out.alloc HW3.out.size _) _ _ (x : Int) rfl (cell_new _ _ _) (by omega) ?_; intro v' w' ho2 hb2)
        go_roundw
        case rel => exact ⟨j + 1, by omega, by go_num, HNX.out, by rw [HT.out, HZS.out, List.map_append]; simpa [HX.out] using ho2, hb2⟩
        case measure => simp [intOf]; omega
      · have hw : courtOk ds zs day = false := by rw [HCE.out]; simpa [badZ] using h0
        have HAN := Lib.hid (an_no hw)
        have hno := Lib.hid (show shOk ds zss day n = false by
          have : zss.any badZ = true := List.any_eq_true.2 ⟨zs, List.mem_of_getElem? HZS.out, h0⟩
          simp [shOk, this])
        clear h0
        go_wp2_with fail
        refine (spec_AnswersOf _ _ _ ds _ _ _ zs day _ ((HR.out.below HW.out).more HW.out.size) HZ.out HRB.out HRD.out hn HIZ.out BD.out).mono ?_
        rintro e w3 ⟨u, v2, l1, g1, l2, g2, rfl, ou, ov, _, hb3⟩
        rw [HAN.out.2.2]
        have HW3 := Lib.hid (below_step HW.out hb3)
        clear ou ov hb3 hw hc
        go_wp2_with fail
        go_ret2
        exact as_is_no hno.out HW3.out
    · obtain rfl : k = j := by omega
      have ht := Lib.hid (show zss.take k = zss from List.take_of_length_le (by have := HML.out; omega))
      have hyes := Lib.hid (show shOk ds zss day n = true from shOk_iff.2 ⟨H123.out.1, H123.out.2.1, H123.out.2.2, by have := HML.out; omega, by have := HA.out; rwa [ht.out] at this⟩)
      go_wp2_with fail
      go_ret2
      refine as_is_yes hyes.out HML.out ?_ HW.out
      have := HO.out
      rwa [ht.out] at this
end Go.Proofs.Ytmfglflahlddbaa
