/-
  The law FnExactAnswersShared: its run.
-/
import Derived.Test.YtmfglflahlddbaaSkZ
namespace Go.Proofs.Ytmfglflahlddbaa
open Go.ConcN (sumTo)
open Go.ChangeShapes Go.WideShapes Go.ChangeAt Go.RowKit Sm Go.Conc
set_option linter.unusedVariables false
section
variable {w w' : World} {lo hi m n : Nat} {v : Value} {ds : List Rl} {zs : List Int} {zss : List (List Int)}
theorem ints_hk {u : World} (zs : List Int) : ∀ x ∈ ints zs, Hk u x := fun x hx => by obtain ⟨z, rfl⟩ := ints_mem hx; exact Hk.int
theorem ObjI.kpn (h : ObjI w lo hi v n zs) (k : KpN w w') : ObjI w' lo hi v n zs := ⟨own_kpn h.1 k (ints_hk zs), h.2⟩
theorem Obj.kpn (h : Obj w lo hi v m ds) (k : KpN w w') : Obj w' lo hi v m ds := by
  obtain ⟨rs, a, b, e⟩ := h
  refine ⟨rs, ⟨own_kpn a.outer k fun x hx => ?_, fun r hr => own_kpn (a.inner r hr) k (ints_hk _), a.apart⟩, b, e⟩
  rcases flat_mem hx with ⟨z, rfl⟩ | ⟨r, hr, rfl⟩
  · exact Hk.int
  · exact own_hk (a.inner r hr)
theorem ObjW.kpn (h : ObjW w lo hi v m zss) (k : KpN w w') : ObjW w' lo hi v m zss := by
  obtain ⟨rs, a, b, e⟩ := h
  refine ⟨rs, ⟨own_kpn a.outer k fun x hx => ?_, fun r hr => own_kpn (a.inner r hr) k (ints_hk _), a.apart⟩, b, e⟩
  obtain ⟨r, hr, rfl⟩ := rws_mem hx
  exact own_hk (a.inner r hr)
end
/-- The end of the run, from a stretch to it. -/
theorem run_end {W : World} {f : FuncId} {gs : Array Goroutine} {w : World} {sl : Option (Nat × Nat)} {t : Trace} {q : Nat → Nat} {s : Sm.St} {N0 : Nat} {m0 : Machine} (hi : Try.prog.inits.idxOf? f = none) (h0 : runNT Try.prog N0 m0 #[] = (.next (crowd gs w sl), t)) (hC : Sm.Calm Try.prog Fs12 W.heap.size W (fun _ => False) gs w t q s) (h : Seg Try.prog (fun _ => False) (QEnd Try.prog f true) s.fr s.up s.v) :
    ∃ M last o w' t', runNT Try.prog (M + 1) m0 #[] = (.ended o w', t') ∧ runN Try.prog M m0 = .next last ∧ step Try.prog last = .ended o w' ∧ Conc.Good Try.prog (fun v W' => v = .bool true ∧ Below W.heap.size W W') last o w' t' := by
  obtain ⟨N1, gs1, w1, sl1, t1, q1, s1, run1, hC1, hat⟩ := calm_seg (sl := sl) hC h
  obtain ⟨Na, runa⟩ := runs_on h0 run1
  obtain ⟨N, last, o, w', t', e1, e2, e3, e4⟩ := calm_end hi (Post := fun v W' => v = .bool true ∧ Below W.heap.size W W') (fun w' h1 h2 h3 h4 h5 => ⟨rfl, h4, h3, h5, h1, h2⟩) _ gs1 w1 sl1 t1 q1 s1 rfl hC1 hat
  refine ⟨Na + N, last, o, w', t', by rw [Nat.add_assoc, runNT_add, runa]; exact e1, ?_, e3, e4⟩
  have hx := congrArg Prod.fst runa
  rw [runNT_fst] at hx
  rw [runN_add, hx]
  exact e2
set_option maxRecDepth 100000 in
set_option maxHeartbeats 3200000 in
theorem l1_run (A0 : Option Addr) (n0 c0 : Nat) (ds : List Rl) (A1 : Option Addr) (n1 c1 : Nat) (zss : List (List Int)) (day k : Int) (W : World) (K0 : RsK (palW (FFs Fs12) (Kc W) W) W.heap.size A0 n0 ds) (K1 : MsK (palW (FFs Fs12) (Kc W) W) W.heap.size A1 n1 zss) (hLC : LC n0 ds n1 zss day)
    (h0 : ∀ a, A0 = some a → a.spot = none ∧ Kc W a.block) (h1 : ∀ a, A1 = some a → a.spot = none ∧ Kc W a.block) :
    ∃ M last o w' t', runNT Try.prog (M + 1) (solo (G (Frame.enter Try.prog 3 #[.slice A0 n0 c0, .slice A1 n1 c1, .int .i64 day, .int .i64 k] .normal) []) W) #[] = (.ended o w', t') ∧ runN Try.prog M (solo (G (Frame.enter Try.prog 3 #[.slice A0 n0 c0, .slice A1 n1 c1, .int .i64 day, .int .i64 k] .normal) []) W) = .next last ∧
      step Try.prog last = .ended o w' ∧ Conc.Good Try.prog (fun v W' => v = .bool true ∧ Below W.heap.size W W') last o w' t' := by
  have hi : Try.prog.inits.idxOf? 3 = none := by kernel_rfl
  have hC := calm_start (W := W) (f := 3) (args := #[.slice A0 n0 c0, .slice A1 n1 c1, .int .i64 day, .int .i64 k]) (by kernel_rfl) (by
    have one : ∀ (A : Option Addr) (n c : Nat), (∀ a, A = some a → a.spot = none ∧ Kc W a.block) → VR (FFs Fs12) (argR (Kc W)) (.slice A n c) (.slice A n c) := by
      intro A n c hA
      cases A with
      | none => exact .sliceNone n c
      | some a => exact slice_self (hA a rfl).1 (hA a rfl).2
    refine ⟨rfl, fun i h1' h2' => ?_⟩
    rcases i with _ | _ | _ | _ | i
    · exact one _ _ _ h0
    · exact one _ _ _ h1
    · exact .int .i64 day
    · exact .int .i64 k
    · simp at h1'; omega)
  have hsolo : ∀ (g : Goroutine), runNT Try.prog 0 (solo g W) #[] = (.next (crowd #[g] W none), #[]) := fun g => rfl
  have hH : W.heap.size ≤ (palW (FFs Fs12) (Kc W) W).heap.size := by rw [pal_size]; exact Nat.le_refl _
  by_cases hm : 1048576 < szD ds + szM zss
  · exact run_end hi (hsolo _) hC fun T d => by
      obtain ⟨fr, w', hE, hs⟩ := l1_long A0 n0 c0 ds A1 n1 c1 zss day k (Sm.rt (palW (FFs Fs12) (Kc W) W) T d) hH (K0.heap rfl) (K1.heap rfl) hLC hm [trap]
      exact ⟨fr, [], w', hs, lend_ok hE, qend_of hE, fun b o hb => hb.elim⟩
  have hzs : szD ds + szM zss ≤ 1048576 := by omega
  have hz : szD ds ≤ 1048576 := by omega
  have hs : szM zss ≤ 1048576 := by omega
  -- to the first call
  obtain ⟨N1, gs1, w1, sl1, t1, q1, s1, run1, hC1, T1, d1, hup1, a1, ⟨vw, G2, c2, G3, c3, l2, l3, l4, x, hF, rfl⟩, hfr1⟩ := calm_seg (sl := none) (Q := fun fr up v' => up = [] ∧ ∃ a, L1K W.heap.size A0 n0 c0 ds A1 n1 c1 zss day k a v' ∧ fr = lB.at a (.inRegion (opsOf lP9) [4, 5, 6, 7, 8, 9] :: [.code lC10])) hC (fun T d => by
    obtain ⟨a, w', hK, hs⟩ := l1_pre A0 n0 c0 ds A1 n1 c1 zss day k (Sm.rt (palW (FFs Fs12) (Kc W) W) T d) hH (K0.heap rfl) (K1.heap rfl) hLC hzs [trap]
    have hd : a.defers = [] := by obtain ⟨vw, G2, c2, G3, c3, l2, l3, l4, x, _, rfl⟩ := hK; rfl
    exact ⟨_, [], w', hs, ⟨hd, .inl rfl⟩, ⟨rfl, a, hK, rfl⟩, fun b o hb => hb.elim⟩)
  obtain ⟨f1, f2, f3, f4, f5, f6⟩ := hF
  have F1 : L1F W.heap.size s1.v A0 n0 ds A1 n1 zss day k vw G2 c2 G3 c3 l2 l3 l4 := ⟨f1, f2.heap rfl, f3.heap rfl, ⟨f4.1, f4.2⟩, by obtain ⟨rs, a, b, e⟩ := f5; exact ⟨rs, ⟨a.outer, a.inner, a.apart⟩, b, e⟩, by obtain ⟨rs, a, b, e⟩ := f6; exact ⟨rs, ⟨a.outer, a.inner, a.apart⟩, b, e⟩⟩
  -- the first call
  obtain ⟨lc, lg, ld, lo⟩ := lcall1
  obtain ⟨rs2, own2, in2, e2⟩ := F1.o2
  obtain ⟨ws3, own3, in3, e3⟩ := F1.o3
  obtain ⟨N2, gs2, w2, sl2, t2, q2, s2, vg, run2, hC2, hup2, hfr2, og0, hk2⟩ := call_run (sl := sl1) (day := day) (n := k) hC1 hfr1 lc lg (fun u => by unfold execOp; rw [lo]; dsimp only; go_simp) own2.rrd (own_hk own2.outer) (fun r hr => own_hk (own2.inner r hr)) own3.mrd (own_hk own3.outer) (fun r hr => own_hk (own3.inner r hr)) (by rw [e2]; exact hz) (by rw [e2]; exact hLC.hb) (by rw [e3]; exact hs) (by rw [e3]; exact hLC.hi)
  rw [e2, e3] at hfr2 og0
  obtain ⟨j2, j3, j4, j5⟩ := F1.hH
  have F2 : L1F W.heap.size s2.v A0 n0 ds A1 n1 zss day k vw G2 c2 G3 c3 l2 l3 l4 := ⟨⟨j2, j3, j4, Nat.le_trans j5 hk2.size⟩, F1.r0.kpn hk2, F1.r1.kpn hk2, F1.ow.kpn hk2, F1.o2.kpn hk2, F1.o3.kpn hk2⟩
  have og : ObjI s2.v l4 s2.v.heap.size vg (shR ds zss day k).length (shR ds zss day k) := ObjI.mk' (own_base og0 j5)
  have h5 : l4 ≤ s2.v.heap.size ∧ s2.v.heap.size ≤ s2.v.heap.size := ⟨Nat.le_trans j5 hk2.size, Nat.le_refl _⟩
  have hfr2' : s2.fr = lB.at ⟨#[.slice A0 n0 c0, .slice A1 n1 c1, .int .i64 day, .int .i64 k, x 4, x 5, x 6, x 7, x 8, x 9, vw, .bool (shOk ds zss day k), .slice G2 n0 c2, .slice G3 n1 c3, x 14, x 15, x 16, x 17, x 18, x 19, x 20, x 21, x 22, x 23, x 24, x 25, x 26, x 27, x 28, x 29, x 30, x 31, x 32, x 33, x 34, x 35, x 36, x 37, x 38, x 39, x 40, x 41, x 42, x 43, x 44, x 45, .slice G2 n0 c2, .slice G3 n1 c3, .int .i64 day, .int .i64 k, .tuple #[vg, .bool (shOk ds zss day k)], x 51, x 52, x 53, x 54, x 55, x 56, x 57, x 58, x 59, x 60, x 61, x 62, x 63, x 64, x 65, x 66, x 67, x 68, x 69, x 70, x 71, x 72, x 73, x 74, x 75, x 76, x 77, x 78, x 79, x 80, x 81, x 82, x 83, x 84, x 85, x 86, x 87, x 88, x 89, x 90, x 91, x 92, x 93, x 94, x 95, x 96, x 97, x 98, x 99, x 100, x 101, x 102, x 103, x 104, x 105, x 106, x 107, x 108, x 109, x 110, x 111, x 112, x 113, x 114, x 115, x 116, x 117, x 118, x 119, x 120, x 121, x 122, x 123, x 124, x 125, x 126, x 127, x 128], []⟩ (.inRegion (opsOf lP9) [5, 6, 7, 8, 9] :: [.code lC10]) := by rw [hfr2, ld]; rfl
  -- to the second call
  obtain ⟨N3, gs3, w3, sl3, t3, q3, s3, run3, hC3, T3, d3, hup3, a3, ⟨Aw, Ag, cw, cg, G5, c5, G6, c6, l6, l7, l8, y, hF3, rfl⟩, hfr3⟩ := calm_seg (sl := sl2) (Q := fun fr up v' => up = [] ∧ ∃ a, L2K W.heap.size n0 ds n1 zss day k a v' ∧ fr = lB.at a (.inRegion (opsOf lP23) [6, 7, 8, 9, 10, 11] :: [.code lC24])) hC2 (fun T d => by
    obtain ⟨u, hu⟩ : ∃ u, u = Sm.rt s2.v T d := ⟨_, rfl⟩
    have huh : u.heap = s2.v.heap := by rw [hu]; rfl
    obtain ⟨g1, g2, g3, g4, g5, g6⟩ := F2
    obtain ⟨a, w', hK, hs⟩ := l1_mid A0 n0 c0 ds A1 n1 c1 zss day k u vw vg G2 c2 G3 c3 l2 l3 l4 s2.v.heap.size x ⟨by rw [huh]; exact g1, g2.heap huh, g3.heap huh, by subst hu; exact ⟨g4.1, g4.2⟩, by subst hu; obtain ⟨rs, a, b, e⟩ := g5; exact ⟨rs, ⟨a.outer, a.inner, a.apart⟩, b, e⟩, by subst hu; obtain ⟨rs, a, b, e⟩ := g6; exact ⟨rs, ⟨a.outer, a.inner, a.apart⟩, b, e⟩⟩ (by subst hu; exact ⟨og.1, og.2⟩) (by rw [huh]; exact h5) hz hs (s2.up ++ [trap])
    have hd : a.defers = [] := by obtain ⟨Aw, Ag, cw, cg, G5, c5, G6, c6, l6, l7, l8, y, _, rfl⟩ := hK; rfl
    rw [hfr2', ← hu]
    have hu2 : s2.up = [] := hup2.trans hup1
    rw [hu2] at hs ⊢
    exact ⟨_, [], w', hs, ⟨hd, .inl rfl⟩, ⟨rfl, a, hK, rfl⟩, fun b o hb => hb.elim⟩)
  obtain ⟨e1', ow3, og3, o5, o6⟩ := hF3
  obtain ⟨rs5, own5, in5, e5⟩ := o5
  obtain ⟨ws6, own6, in6, e6⟩ := o6
  have P5 : OwnRs s3.v l6 (.slice G5 n0 c5) n0 rs5 := ⟨own5.outer, own5.inner, own5.apart⟩
  have P6 : OwnM s3.v l7 (.slice G6 n1 c6) n1 ws6 := ⟨own6.outer, own6.inner, own6.apart⟩
  have OW : s3.v.ownsRow W.heap.size tI 1 (.slice Aw (shR ds zss day k).length cw) (shR ds zss day k).length (ints (shR ds zss day k)) := ow3
  have OG : s3.v.ownsRow W.heap.size tI 1 (.slice Ag (shR ds zss day k).length cg) (shR ds zss day k).length (ints (up 1 (shR ds zss day k).length)) := og3
  have hH3 : W.heap.size ≤ s3.v.heap.size := by
    obtain ⟨u1, u2, u3, u4⟩ := e1'
    have u4' : l8 ≤ s3.v.heap.size := u4
    omega
  obtain ⟨mc, mg, md, mo⟩ := lcall2
  obtain ⟨N4, gs4, w4, sl4, t4, q4, s4, vh, run4, hC4, hup4, hfr4, oh0, hk4⟩ := call_run (sl := sl3) (day := day) (n := k) hC3 hfr3 mc mg (fun u => by unfold execOp; rw [mo]; dsimp only; go_simp) P5.rrd (own_hk P5.outer) (fun r hr => own_hk (P5.inner r hr)) P6.mrd (own_hk P6.outer) (fun r hr => own_hk (P6.inner r hr)) (by rw [e5]; exact hz) (by rw [e5]; exact hLC.hb) (by rw [e6]; exact hs) (by rw [e6]; exact hLC.hi)
  rw [e5, e6] at hfr4 oh0
  have ow4 := own_kpn OW hk4 (ints_hk _)
  have og4 := own_kpn OG hk4 (ints_hk _)
  have oh4 := own_base oh0 hH3
  obtain ⟨Ah, ch, rfl, _⟩ := own_form oh4
  have hfr4' : s4.fr = lB.at ⟨#[y 0, y 1, y 2, y 3, y 4, y 5, y 6, y 7, y 8, y 9, .slice Aw (shR ds zss day k).length cw, .bool (shOk ds zss day k), y 12, y 13, .slice Ag (shR ds zss day k).length cg, .bool (shOk ds zss day k), y 16, .int .i64 (1 + ((shR ds zss day k).length : Nat)), y 18, y 19, y 20, y 21, y 22, y 23, y 24, y 25, y 26, y 27, y 28, y 29, y 30, y 31, y 32, y 33, y 34, y 35, y 36, y 37, y 38, y 39, y 40, y 41, y 42, y 43, y 44, y 45, y 46, y 47, y 48, y 49, y 50, y 51, y 52, y 53, y 54, y 55, y 56, y 57, y 58, y 59, y 60, y 61, y 62, y 63, y 64, y 65, y 66, y 67, y 68, y 69, y 70, y 71, y 72, y 73, y 74, y 75, y 76, y 77, y 78, y 79, y 80, y 81, y 82, y 83, y 84, y 85, y 86, y 87, y 88, y 89, y 90, y 91, y 92, y 93, y 94, y 95, y 96, y 97, y 98, y 99, y 100, y 101, y 102, y 103, .slice G5 n0 c5, y 105, .slice G6 n1 c6, .int .i64 day, .int .i64 k, .tuple #[.slice Ah (shR ds zss day k).length ch, .bool (shOk ds zss day k)], y 110, y 111, y 112, y 113, y 114, y 115, y 116, y 117, y 118, y 119, y 120, y 121, y 122, y 123, y 124, y 125, y 126, y 127, y 128], []⟩ (.inRegion (opsOf lP23) [7, 8, 9, 10, 11] :: [.code lC24]) := by rw [hfr4, md]; rfl
  obtain ⟨Na, runa⟩ := runs_on run1 run2
  obtain ⟨Nb, runb⟩ := runs_on runa run3
  obtain ⟨Nc, runc⟩ := runs_on runb run4
  refine run_end (m0 := solo (G (Frame.enter Try.prog 3 #[.slice A0 n0 c0, .slice A1 n1 c1, .int .i64 day, .int .i64 k] .normal) []) W) hi runc hC4 fun T d => ?_
  obtain ⟨fr, w', hE, hs⟩ := l1_end n0 ds n1 zss day k (Sm.rt s4.v T d) Aw Ag Ah cw cg ch G5 c5 G6 c6 y ow4 og4 oh4 (s4.up ++ [trap])
  have hu : s4.up = [] := hup4.trans hup3
  rw [hfr4']
  rw [hu] at hs ⊢
  exact ⟨fr, [], w', hs, lend_ok hE, qend_of hE, fun b o hb => hb.elim⟩
end Go.Proofs.Ytmfglflahlddbaa

