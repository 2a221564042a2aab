/-
  ProofOf: the program's taken.
-/
import Derived.Test.YtinocfehjdlohaaPofA
import Derived.Laws.EntriesVeiled
import Derived.Test.YtinocfehjdlohaaIsS
import Derived.Test.YtinocfehjdlohaaRuOpp
import Derived.Test.YtinocfehjdlohaaOpenW
import Derived.Test.YtinocfehjdlohaaRegH
namespace Go.Proofs.Ytinocfehjdlohaa
open Go.ChangeShapes Go.WideShapes Go.ChangeAt Go.RowKit
set_option linter.unusedVariables false
set_option linter.unusedSimpArgs false

attribute [local irreducible] tkNew tkRun tk
structure B1 (w : World) (g : Nat) (z : Int) (e : TypeId) : Prop where
  c : w.cell? ⟨g, 0, none⟩ = some (.int .i64 z)
  o : ∃ cs fz, w.heap[g]? = some (.cells cs e fz)
  l : g < w.heap.size
theorem B1.new (w : World) (z : Int) (e : TypeId) : B1 (w.alloc (.cells #[.int .i64 z] e)) w.heap.size z e := ⟨cell_new w _ e, ⟨_, _, alloc_obj w _⟩, by simp⟩
theorem B1.on {w w' : World} {g : Nat} {z : Int} {e : TypeId} (h : B1 w g z e) (hb : Below w.heap.size w w') : B1 w' g z e := by
  obtain ⟨c1, f1, h1⟩ := h.o
  exact ⟨(hb.cell (p := ⟨g, 0, none⟩) h.l).trans h.c, ⟨c1, f1, (hb.block g h.l).trans h1⟩, Nat.lt_of_lt_of_le h.l hb.size⟩
theorem B1.grow {w w' : World} {g : Nat} {z : Int} {e : TypeId} {row : Option Nat} (h : B1 w g z e) (hg : w.grownBy w' row) (hne : some g ≠ row) : B1 w' g z e := by
  obtain ⟨c1, f1, h1⟩ := h.o
  exact ⟨hg.cell h.c hne, ⟨c1, f1, (hg.block g h.l hne).trans h1⟩, Nat.lt_of_lt_of_le h.l hg.size⟩
theorem hdsI_get {D : List Rl} {N : List Nat} {s : Nat} (h : s < N.length) : (hdsI D N)[s]?.getD 0 = (tAt D N[s]).hd := by
  unfold hdsI
  rw [List.getElem?_map, List.getElem?_eq_getElem h]; rfl
theorem take_put {o N : List Nat} {s : Nat} (h : s < N.length) : o ++ N.take (s + 1) = (o ++ N.take s) ++ [N[s]] := by
  rw [List.take_add_one, List.getElem?_eq_getElem h, List.append_assoc]; rfl
theorem slN_own {w : World} {base n : Nat} {e : TypeId} {v : Value} {xs : List Value} (h : w.ownsRow base e 1 v n xs) : slN v = n := by
  obtain ⟨A, c, rfl, _⟩ := own_form h
  rfl
set_option maxRecDepth 100000 in
set_option maxHeartbeats 3200000 in
theorem taken_is {cb : Nat} {A : Option Addr} {m c : Nat} {B : Option Addr} {k d : Nat} {bp bn : Nat} {rs : List Ru} {fs : List Int} {y n : Int → Bool} (w : World) (hC : Court w cb A m c B k d bp bn rs fs y n) (hv : ∀ r ∈ rs, (∀ z ∈ r.ifs, wordB z = true) ∧ wordB r.hd = true) (hm : m ≤ 24) :
    Calls Try.prog 66 #[.pointer (some ⟨cb, 0, none⟩)] w fun e w' => ∃ A' q c', e = .returned (.slice A' q c') ∧ q = (tk (rs.map Ru.dat) y (facB fs) (fun _ => true)).length ∧
      w'.ownsRow w.heap.size tJ 1 (.slice A' q c') q (ints (natI (tk (rs.map Ru.dat) y (facB fs) (fun _ => true)))) ∧ Below w.heap.size w w' := by
  have HC := Lib.hid hC
  have HV := Lib.hid hv
  clear hC hv
  obtain ⟨D, hD⟩ : ∃ D, D = rs.map Ru.dat := ⟨_, rfl⟩
  have HD := Lib.hid hD
  rw [← hD]
  clear hD
  have hmf := run_makeFn
  have hmm := @run_makeMap Try.prog
  go_enter Try.func66, Try.ntmps66
  go_wp2_with fail
  obtain ⟨g1, hg1⟩ : ∃ g, g = w.heap.size := ⟨_, rfl⟩
  obtain ⟨gm, hgm⟩ : ∃ g, g = w.heap.size + 1 + 1 := ⟨_, rfl⟩
  obtain ⟨g2, hg2⟩ : ∃ g, g = w.heap.size + 1 + 1 + 1 := ⟨_, rfl⟩
  have T0 : TW w ((((w.alloc (.cells #[.pointer (some ⟨cb, 0, none⟩)] 75)).alloc (.cells #[] tJ)).alloc (.map #[] 0)).alloc (.cells #[.map (some (w.heap.size + 1 + 1))] tM)) cb (w.heap.size + 1 + 1) w.heap.size (w.heap.size + 1 + 1 + 1) (fun _ => false) (.slice (some ⟨w.heap.size + 1, 0, none⟩) 0 0) [] := by
    refine ⟨⟨?_, ?_, ?_, ?_, ?_, ?_, ?_, ?_, ?_⟩, ?_, ?_, ?_⟩
    · exact (((bl_a _).alloc (by simp) _).alloc (by simp; omega) _).alloc (by simp; omega) _
    · have h := mapB_made ((w.alloc (.cells #[.pointer (some ⟨cb, 0, none⟩)] 75)).alloc (.cells #[] tJ))
      have e : ((w.alloc (.cells #[.pointer (some ⟨cb, 0, none⟩)] 75)).alloc (.cells #[] tJ)).heap.size = w.heap.size + 1 + 1 := by simp
      rw [e] at h
      exact h.alloc _
    · go_simp
    · go_simp
    · simp; omega
    · simp
    · omega
    · omega
    · omega
    · have h := own_empty (w.alloc (.cells #[.pointer (some ⟨cb, 0, none⟩)] 75)) tJ
      rw [World.size_alloc] at h
      rw [natI_nil]; exact own_base ((h.alloc _).alloc _) (by omega)
    · exact ⟨_, _, ((((bl_a _).block w.heap.size (by simp; omega)).trans ((bl_a _).block w.heap.size (by simp; omega))).trans ((bl_a _).block w.heap.size (by simp))).trans (alloc_obj w _)⟩
    · have h := alloc_obj (((w.alloc (.cells #[.pointer (some ⟨cb, 0, none⟩)] 75)).alloc (.cells #[] tJ)).alloc (.map #[] 0)) (.cells #[.map (some (w.heap.size + 1 + 1))] tM)
      rw [World.size_alloc, World.size_alloc, World.size_alloc] at h
      exact ⟨_, _, h⟩
  have TT := Lib.hid T0
  clear T0
  have hg3 : g2 = gm + 1 := by omega
  rw [← hgm, ← hg3, ← hg1] at TT ⊢
  generalize ((((w.alloc (.cells #[.pointer (some ⟨cb, 0, none⟩)] 75)).alloc (.cells #[] tJ)).alloc (.map #[] 0)).alloc (.cells #[.map (some gm)] tM)) = w0 at TT ⊢
  have HORD := Lib.hid (show g1 < g2 ∧ gm < g2 by omega)
  clear hg1 hgm hg2 hg3
  go_loopw [3, 5, 6, 7, 9, 18, 63] (fun v _ _ _ _ _ _ wr => ∃ (f : Nat) (o : List Nat) , tk D y (facB fs) (fun _ => true) = tkRun D y (facB fs) (fun _ => true) (f + 1) o ∧ D.length < f + 1 + o.length ∧ TkI D (facB fs) o ∧ TW w wr cb gm g1 g2 (tkHd D o) v o) (fun v _ _ _ _ _ _ _ => m + 1 - slN v)
  case atStart => exact ⟨D.length, [], tk_eq _ _ _ _, by simp, .nil, by rw [tkHd_nil]; exact TT.out⟩
  case round =>
    clear TT
    obtain ⟨f, o, htk, hfu, hI, hT⟩ := hrel
    have TT := Lib.hid hT
    have HTK := Lib.hid htk
    have HFU := Lib.hid hfu
    have HTI := Lib.hid hI
    have HSV := Lib.hid (slN_own hT.ow)
    have HDL := Lib.hid (show D.length = m by rw [HD.out, List.length_map]; exact HC.out.rr.len)
    have T1 := TT.out.on (bl_a (w := wr) (.cells #[] tI))
    have e1 := T1.iw.c1
    have e2 := (HC.out.on T1.iw.be).c0
    have TA := Lib.hid T1
    clear htk hfu hI hT T1
    go_wp2_with fail
    have OH := Lib.hid (own_empty wr tI)
    clear e1 e2
    obtain ⟨gh, hgh⟩ : ∃ g, g = wr.heap.size := ⟨_, rfl⟩
    rw [← hgh] at OH ⊢
    generalize wr.alloc (.cells #[] tI) = w1 at TA OH ⊢
    have HGF := Lib.hid (show w.heap.size ≤ gh ∧ gm < gh ∧ g1 < gh ∧ g2 < gh by rw [hgh]; exact ⟨TT.out.iw.be.size, TT.out.iw.mp.lt, TT.out.iw.l1, TT.out.iw.l2⟩)
    clear hgh TT
    go_loopw [3, 5, 6, 7, 18] (fun v h _ _ i wx => ∃ t : Nat, t ≤ m ∧ i = .int .i64 t ∧ TW w wx cb gm g1 g2 (tkHd D o) v (o ++ tkTo D y (facB fs) (fun _ => true) o t) ∧
      wx.ownsRow (g2 + 1) tI 1 h (tkTo D y (facB fs) (fun _ => true) o t).length (ints (hdsI D (tkTo D y (facB fs) (fun _ => true) o t)))) (fun _ _ _ _ i _ => m - (intOf i).toNat)
    case atStart => exact ⟨0, Nat.zero_le _, rfl, by rw [tkTo_zero, List.append_nil]; exact TA.out, by rw [tkTo_zero, hdsI_nil]; exact own_base OH.out (by have := HGF.out; omega)⟩
    case round =>
      clear TA OH
      obtain ⟨t, ht, rfl, hT, hO⟩ := hrel
      have TA := Lib.hid hT
      have OH := Lib.hid hO
      clear hT hO
      by_cases hlt : t < m
      · have hC := HC.out.on TA.out.iw.be
        obtain ⟨ad, r, rfl, hrk, ha, hri⟩ := hC.rr.at hlt
        have hvr := HV.out r (List.mem_of_getElem? hrk)
        have hdk : tAt D t = r.dat := by unfold tAt; rw [HD.out]; exact dat_at hrk
        have hrn := (hC.rn r (List.mem_of_getElem? hrk)).1
        have hri2 := hri
        obtain ⟨hd, fr, tt, rk, Ai, ni, ci, ifs⟩ := r
        simp only at hri2 hrn hvr
        obtain ⟨c0, c1', c2, c3, c4⟩ := ha
        simp only at c0 c1' c2 c3 c4
        have hwd : wordB hd = true := hvr.2
        have hd6 : I64b hd := by have := wordB_iff.1 hwd; unfold I64b; omega
        have hif6 : I64s ifs := fun z hz => by have := wordB_iff.1 (hvr.1 z hz); omega
        obtain ⟨Ao, co, rfl, _, _⟩ := own_form TA.out.ow
        obtain ⟨Ah, ch, rfl, _, _⟩ := own_form OH.out
        obtain ⟨q, hq⟩ : ∃ q, q = (o ++ tkTo D y (facB fs) (fun _ => true) o t).length := ⟨_, rfl⟩
        obtain ⟨qh, hqh⟩ : ∃ q, q = (tkTo D y (facB fs) (fun _ => true) o t).length := ⟨_, rfl⟩
        rw [← hq] at TA ⊢
        rw [← hqh] at OH ⊢
        have HQ := Lib.hid hq
        have HQH := Lib.hid hqh
        clear hq hqh
        have hTB := TA.out.on (bl_a (w := wr) (.cells #[.int .i64 hd, .slice Ai ni ci, .int .i64 fr, .int .i64 tt, .int .i64 rk] tR))
        have TB := Lib.hid hTB
        have OB := Lib.hid (OH.out.alloc (.cells #[.int .i64 hd, .slice Ai ni ci, .int .i64 fr, .int .i64 tt, .int .i64 rk] tR))
        have hCB := HC.out.on hTB.iw.be
        have KEEP := Lib.hid (fun (w' : World) (h : Below (wr.alloc (.cells #[.int .i64 hd, .slice Ai ni ci, .int .i64 fr, .int .i64 tt, .int .i64 rk] tR)).heap.size (wr.alloc (.cells #[.int .i64 hd, .slice Ai ni ci, .int .i64 fr, .int .i64 tt, .int .i64 rk] tR)) w') => show (fun w' => w'.cell? ⟨wr.heap.size, 0, none⟩ = some (.int .i64 hd) ∧ w'.cell? ⟨g1, 0, none⟩ = some (.pointer (some ⟨cb, 0, none⟩)) ∧ w'.cell? ⟨cb, 3, none⟩ = some (.map (some bp)) ∧ (Instr.lookup tM (.map (some bp)) (.int .i64 hd) false).run Try.prog w' = .ok (.bool (y hd)) w') w' from
          ⟨(h.cell (p := ⟨wr.heap.size, 0, none⟩) (by simp)).trans (by go_simp), (hTB.on h).iw.c1, (hCB.on h).c3, (hCB.on h).my.look hd6⟩)
        have HRO := Lib.hid (show Rd ((wr.alloc (.cells #[.int .i64 hd, .slice Ai ni ci, .int .i64 fr, .int .i64 tt, .int .i64 rk] tR)).drewN 1) ((wr.alloc (.cells #[.int .i64 hd, .slice Ai ni ci, .int .i64 fr, .int .i64 tt, .int .i64 rk] tR)).drewN 1).heap.size 1 Ao q (ints (natI (o ++ tkTo D y (facB fs) (fun _ => true) o t))) from by have h := Rd.of_own (show World.ownsRow _ _ _ _ (.slice Ao q co) q _ from by have h := hTB.ow; rw [← HQ.out] at h; exact h); exact h.drewN 1)
        have hlo : q ≤ 100 := by
          have h1 := HTI.out.len
          have h2 := tkTo_len (rs := D) (yes := y) (fac := facB fs) (pre := fun _ => true) (out := o) (i := t)
          have h3 := HDL.out
          rw [HQ.out, List.length_append]; omega
        have hqh9 : qh ≤ 100 := by
          have h2 := tkTo_len (rs := D) (yes := y) (fac := facB fs) (pre := fun _ => true) (out := o) (i := t)
          rw [HQH.out]; omega
        have HRI := Lib.hid (hri2.on (bl_a (w := wr) (.cells #[.int .i64 hd, .slice Ai ni ci, .int .i64 fr, .int .i64 tt, .int .i64 rk] tR)))
        have HIF := Lib.hid hif6
        have HWD := Lib.hid hwd
        have HCC := Lib.hid hCB
        have hdk : tAt D t = ⟨hd, ifs, fr, tt, rk⟩ := hdk
        have i1 : (0 : Int) ≤ t := by omega
        have i2 : (t : Int) < m := by omega
        clear hC hrk hri hri2 hvr hTB hCB hif6 hwd hd6
        cases hct : o.contains t
        case true =>
          have HCT := Lib.hid (show hasI (natI (o ++ tkTo D y (facB fs) (fun _ => true) o t)) t = true by rw [hasI_nat, tk_contains_to, hct])
          have hst := Lib.hid (show tkTo D y (facB fs) (fun _ => true) o (t + 1) = tkTo D y (facB fs) (fun _ => true) o t by rw [tkTo_succ, if_neg]; intro hc; have hc := tkCond_iff.1 hc; rw [hdk] at hc; exact hc.2.1 (by simpa using hct))
          clear hct hdk
          go_wp2_with fail
          refine wp_region_held_drew (S := (fun w' => w'.cell? ⟨wr.heap.size, 0, none⟩ = some (.int .i64 hd) ∧ w'.cell? ⟨g1, 0, none⟩ = some (.pointer (some ⟨cb, 0, none⟩)) ∧ w'.cell? ⟨cb, 3, none⟩ = some (.map (some bp)) ∧ (Instr.lookup tM (.map (some bp)) (.int .i64 hd) false).run Try.prog w' = .ok (.bool (y hd)) w')) (by kernel_rfl) (KEEP.out _ (below_drewN (Below.refl _ _) 1)) (fun hHeld => ?_)
          (refine take_dst (i := 0) (v := _) (some 23) rfl rfl (by kernel_rfl) (by kernel_rfl) (by kernel_rfl) (fun _ _ _ h => h) (Or.inl ⟨by rfl, by (intro w3 hw; (try dsimp only at hw); go_simp; try with_reducible rfl)⟩) (by assumption) ?_; try simp only [Act.put, List.setIfInBounds_toArray, List.set_cons_zero, List.set_cons_succ])
          (refine take_dst (i := 1) (v := _) (some 24) rfl rfl (by kernel_rfl) (by kernel_rfl) (by kernel_rfl) (fun _ _ _ h => h) (Or.inl ⟨by rfl, by (intro w3 hw; (try dsimp only at hw); go_simp; try with_reducible rfl)⟩) (by assumption) ?_; try simp only [Act.put, List.setIfInBounds_toArray, List.set_cons_zero, List.set_cons_succ])
          (refine wpAnyH_ready (rs := [2]) (by kernel_rfl) (by simp) (AllReadyH.cons (i := 2) rfl (fun K hK => ?_) AllReadyH.nil); go_simp)
          refine (containsJ_is _ _ _ (natI (o ++ tkTo D y (facB fs) (fun _ => true) o t)) _ _ HRO.out (by omega) HCT.out).mono ?_
          rintro e w3 ⟨rfl, rfl⟩
          go_wp2_with fail
          refine hK.out _ _ hHeld (fun hHeld => ?_)
          clear hK K
          try simp only [Act.put, List.setIfInBounds_toArray, List.set_cons_zero, List.set_cons_succ]
          (refine take_dst (i := 3) (v := _) (some 26) rfl rfl (by kernel_rfl) (by kernel_rfl) (by kernel_rfl) (fun _ _ _ h => h) (Or.inl ⟨by rfl, by (intro w3 hw; (try dsimp only at hw); go_simp; try with_reducible rfl)⟩) (by assumption) ?_; try simp only [Act.put, List.setIfInBounds_toArray, List.set_cons_zero, List.set_cons_succ])
          (refine take_dst (i := 4) (v := undef) (some 27) rfl rfl (by kernel_rfl) (by kernel_rfl) (by kernel_rfl) (fun _ _ _ h => h) (Or.inr ⟨by rfl, rfl⟩) (by assumption) ?_; try simp only [Act.put, List.setIfInBounds_toArray, List.set_cons_zero, List.set_cons_succ])
          (refine take_dst (i := 5) (v := undef) (some 28) rfl rfl (by kernel_rfl) (by kernel_rfl) (by kernel_rfl) (fun _ _ _ h => h) (Or.inr ⟨by rfl, rfl⟩) (by assumption) ?_; try simp only [Act.put, List.setIfInBounds_toArray, List.set_cons_zero, List.set_cons_succ])
          (refine take_dst (i := 6) (v := undef) (some 29) rfl rfl (by kernel_rfl) (by kernel_rfl) (by kernel_rfl) (fun _ _ _ h => h) (Or.inr ⟨by rfl, rfl⟩) (by assumption) ?_; try simp only [Act.put, List.setIfInBounds_toArray, List.set_cons_zero, List.set_cons_succ])
          (refine take_dst (i := 7) (v := undef) (some 30) rfl rfl (by kernel_rfl) (by kernel_rfl) (by kernel_rfl) (fun _ _ _ h => h) (Or.inr ⟨by rfl, rfl⟩) (by assumption) ?_; try simp only [Act.put, List.setIfInBounds_toArray, List.set_cons_zero, List.set_cons_succ])
          (refine take_dst (i := 8) (v := undef) (some 31) rfl rfl (by kernel_rfl) (by kernel_rfl) (by kernel_rfl) (fun _ _ _ h => h) (Or.inr ⟨by rfl, rfl⟩) (by assumption) ?_; try simp only [Act.put, List.setIfInBounds_toArray, List.set_cons_zero, List.set_cons_succ])
          (refine take_dst (i := 9) (v := undef) (some 32) rfl rfl (by kernel_rfl) (by kernel_rfl) (by kernel_rfl) (fun _ _ _ h => h) (Or.inr ⟨by rfl, rfl⟩) (by assumption) ?_; try simp only [Act.put, List.setIfInBounds_toArray, List.set_cons_zero, List.set_cons_succ])
          (refine take_dst (i := 10) (v := undef) (some 33) rfl rfl (by kernel_rfl) (by kernel_rfl) (by kernel_rfl) (fun _ _ _ h => h) (Or.inr ⟨by rfl, rfl⟩) (by assumption) ?_; try simp only [Act.put, List.setIfInBounds_toArray, List.set_cons_zero, List.set_cons_succ])
          (refine take_dst (i := 11) (v := undef) (some 34) rfl rfl (by kernel_rfl) (by kernel_rfl) (by kernel_rfl) (fun _ _ _ h => h) (Or.inr ⟨by rfl, rfl⟩) (by assumption) ?_; try simp only [Act.put, List.setIfInBounds_toArray, List.set_cons_zero, List.set_cons_succ])
          (refine take_dst (i := 12) (v := _) (some 35) rfl rfl (by kernel_rfl) (by kernel_rfl) (by kernel_rfl) (fun _ _ _ h => h) (Or.inl ⟨by rfl, by (intro w3 hw; (try dsimp only at hw); go_simp; try with_reducible rfl)⟩) (by assumption) ?_; try simp only [Act.put, List.setIfInBounds_toArray, List.set_cons_zero, List.set_cons_succ])
          (refine take_dst (i := 13) (v := _) (some 36) rfl rfl (by kernel_rfl) (by kernel_rfl) (by kernel_rfl) (fun _ _ _ h => h) (Or.inl ⟨by rfl, by (intro w3 hw; (try dsimp only at hw); go_simp; try with_reducible rfl)⟩) (by assumption) ?_; try simp only [Act.put, List.setIfInBounds_toArray, List.set_cons_zero, List.set_cons_succ])
          (refine take_dst (i := 14) (v := undef) (some 37) rfl rfl (by kernel_rfl) (by kernel_rfl) (by kernel_rfl) (fun _ _ _ h => h) (Or.inr ⟨by rfl, rfl⟩) (by assumption) ?_; try simp only [Act.put, List.setIfInBounds_toArray, List.set_cons_zero, List.set_cons_succ])
          (refine take_dst (i := 15) (v := undef) (some 38) rfl rfl (by kernel_rfl) (by kernel_rfl) (by kernel_rfl) (fun _ _ _ h => h) (Or.inr ⟨by rfl, rfl⟩) (by assumption) ?_; try simp only [Act.put, List.setIfInBounds_toArray, List.set_cons_zero, List.set_cons_succ])
          (refine take_dst (i := 16) (v := undef) (some 39) rfl rfl (by kernel_rfl) (by kernel_rfl) (by kernel_rfl) (fun _ _ _ h => h) (Or.inr ⟨by rfl, rfl⟩) (by assumption) ?_; try simp only [Act.put, List.setIfInBounds_toArray, List.set_cons_zero, List.set_cons_succ])
          (refine take_dst (i := 17) (v := undef) (some 40) rfl rfl (by kernel_rfl) (by kernel_rfl) (by kernel_rfl) (fun _ _ _ h => h) (Or.inr ⟨by rfl, rfl⟩) (by assumption) ?_; try simp only [Act.put, List.setIfInBounds_toArray, List.set_cons_zero, List.set_cons_succ])
          (refine take_dst (i := 18) (v := _) (some 41) rfl rfl (by kernel_rfl) (by kernel_rfl) (by kernel_rfl) (fun _ _ _ h => h) (Or.inl ⟨by rfl, by (intro w3 hw; (try dsimp only at hw); go_simp; try with_reducible rfl)⟩) (by assumption) ?_; try simp only [Act.put, List.setIfInBounds_toArray, List.set_cons_zero, List.set_cons_succ])
          refine wpAnyH_done (by kernel_rfl) ?_ _
          clear hHeld KEEP
          go_wp2_with fail
          go_roundw
          case rel => exact ⟨t + 1, by omega, by go_num, by rw [hst.out]; exact TB.out.on (below_drewN (Below.refl _ _) 1), by rw [hst.out, ← HQH.out]; exact own_on OB.out (below_drewN (Below.refl _ _) 1)⟩
          case measure => simp [intOf]; omega
        case false =>
          have HCT := Lib.hid (show hasI (natI (o ++ tkTo D y (facB fs) (fun _ => true) o t)) t = false by rw [hasI_nat, tk_contains_to, hct])
          have HCTF := Lib.hid hct
          clear hct
          cases hyb : y hd
          case false =>
            rw [hyb] at KEEP
            have hst := Lib.hid (show tkTo D y (facB fs) (fun _ => true) o (t + 1) = tkTo D y (facB fs) (fun _ => true) o t by rw [tkTo_succ, if_neg]; intro hc; have hc := tkCond_iff.1 hc; rw [hdk] at hc; rw [hyb] at hc; exact absurd hc.2.2.1 (by decide))
            clear hyb hdk
            go_wp2_with fail
            refine wp_region_held_drew (S := (fun w' => w'.cell? ⟨wr.heap.size, 0, none⟩ = some (.int .i64 hd) ∧ w'.cell? ⟨g1, 0, none⟩ = some (.pointer (some ⟨cb, 0, none⟩)) ∧ w'.cell? ⟨cb, 3, none⟩ = some (.map (some bp)) ∧ (Instr.lookup tM (.map (some bp)) (.int .i64 hd) false).run Try.prog w' = .ok (.bool false) w')) (by kernel_rfl) (KEEP.out _ (below_drewN (Below.refl _ _) 1)) (fun hHeld => ?_)
            (refine take_dst (i := 0) (v := _) (some 23) rfl rfl (by kernel_rfl) (by kernel_rfl) (by kernel_rfl) (fun _ _ _ h => h) (Or.inl ⟨by rfl, by (intro w3 hw; (try dsimp only at hw); go_simp; try with_reducible rfl)⟩) (by assumption) ?_; try simp only [Act.put, List.setIfInBounds_toArray, List.set_cons_zero, List.set_cons_succ])
            (refine take_dst (i := 1) (v := _) (some 24) rfl rfl (by kernel_rfl) (by kernel_rfl) (by kernel_rfl) (fun _ _ _ h => h) (Or.inl ⟨by rfl, by (intro w3 hw; (try dsimp only at hw); go_simp; try with_reducible rfl)⟩) (by assumption) ?_; try simp only [Act.put, List.setIfInBounds_toArray, List.set_cons_zero, List.set_cons_succ])
            (refine wpAnyH_ready (rs := [2]) (by kernel_rfl) (by simp) (AllReadyH.cons (i := 2) rfl (fun K hK => ?_) AllReadyH.nil); go_simp)
            refine (containsJ_is _ _ _ (natI (o ++ tkTo D y (facB fs) (fun _ => true) o t)) _ _ HRO.out (by omega) HCT.out).mono ?_
            rintro e w3 ⟨rfl, rfl⟩
            go_wp2_with fail
            refine hK.out _ _ hHeld (fun hHeld => ?_)
            clear hK K
            try simp only [Act.put, List.setIfInBounds_toArray, List.set_cons_zero, List.set_cons_succ]
            (refine take_dst (i := 3) (v := _) (some 26) rfl rfl (by kernel_rfl) (by kernel_rfl) (by kernel_rfl) (fun _ _ _ h => h) (Or.inl ⟨by rfl, by (intro w3 hw; (try dsimp only at hw); go_simp; try with_reducible rfl)⟩) (by assumption) ?_; try simp only [Act.put, List.setIfInBounds_toArray, List.set_cons_zero, List.set_cons_succ])
            (refine take_dst (i := 4) (v := _) (some 27) rfl rfl (by kernel_rfl) (by kernel_rfl) (by kernel_rfl) (fun _ _ _ h => h) (Or.inl ⟨by rfl, by (intro w3 hw; (try dsimp only at hw); go_simp; try with_reducible rfl)⟩) (by assumption) ?_; try simp only [Act.put, List.setIfInBounds_toArray, List.set_cons_zero, List.set_cons_succ])
            (refine take_dst (i := 5) (v := _) (some 28) rfl rfl (by kernel_rfl) (by kernel_rfl) (by kernel_rfl) (fun _ _ _ h => h) (Or.inl ⟨by rfl, by (intro w3 hw; (try dsimp only at hw); go_simp; try with_reducible rfl)⟩) (by assumption) ?_; try simp only [Act.put, List.setIfInBounds_toArray, List.set_cons_zero, List.set_cons_succ])
            (refine take_dst (i := 6) (v := _) (some 29) rfl rfl (by kernel_rfl) (by kernel_rfl) (by kernel_rfl) (fun _ _ _ h => h) (Or.inl ⟨by rfl, by (intro w3 hw; (try dsimp only at hw); go_simp; try with_reducible rfl)⟩) (by assumption) ?_; try simp only [Act.put, List.setIfInBounds_toArray, List.set_cons_zero, List.set_cons_succ])
            (refine take_dst (i := 7) (v := _) (some 30) rfl rfl (by kernel_rfl) (by kernel_rfl) (by kernel_rfl) (fun _ _ _ h => h) (Or.inl ⟨by rfl, by (intro w3 hw; (try dsimp only at hw); go_simp; try with_reducible rfl)⟩) (by assumption) ?_; try simp only [Act.put, List.setIfInBounds_toArray, List.set_cons_zero, List.set_cons_succ])
            (refine take_dst (i := 8) (v := _) (some 31) rfl rfl (by kernel_rfl) (by kernel_rfl) (by kernel_rfl) (fun _ _ _ h => h) (Or.inl ⟨by rfl, by (intro w3 hw; (try dsimp only at hw); go_simp; try with_reducible rfl)⟩) (by assumption) ?_; try simp only [Act.put, List.setIfInBounds_toArray, List.set_cons_zero, List.set_cons_succ])
            (refine take_dst (i := 9) (v := _) (some 32) rfl rfl (by kernel_rfl) (by kernel_rfl) (by kernel_rfl) (fun _ _ _ h => h) (Or.inl ⟨by rfl, by (intro w3 hw; (try dsimp only at hw); go_simp; try with_reducible rfl)⟩) (by assumption) ?_; try simp only [Act.put, List.setIfInBounds_toArray, List.set_cons_zero, List.set_cons_succ])
            (refine take_dst (i := 10) (v := _) (some 33) rfl rfl (by kernel_rfl) (by kernel_rfl) (by kernel_rfl) (fun _ _ _ h => h) (Or.inl ⟨by rfl, by (intro w3 hw; (try dsimp only at hw); go_simp; try with_reducible rfl)⟩) (by assumption) ?_; try simp only [Act.put, List.setIfInBounds_toArray, List.set_cons_zero, List.set_cons_succ])
            (refine take_dst (i := 11) (v := _) (some 34) rfl rfl (by kernel_rfl) (by kernel_rfl) (by kernel_rfl) (fun _ _ _ h => h) (Or.inl ⟨by rfl, by (intro w3 hw; (try dsimp only at hw); go_simp; try with_reducible rfl)⟩) (by assumption) ?_; try simp only [Act.put, List.setIfInBounds_toArray, List.set_cons_zero, List.set_cons_succ])
            (refine take_dst (i := 12) (v := _) (some 35) rfl rfl (by kernel_rfl) (by kernel_rfl) (by kernel_rfl) (fun _ _ _ h => h) (Or.inl ⟨by rfl, by (intro w3 hw; (try dsimp only at hw); go_simp; try with_reducible rfl)⟩) (by assumption) ?_; try simp only [Act.put, List.setIfInBounds_toArray, List.set_cons_zero, List.set_cons_succ])
            (refine take_dst (i := 13) (v := _) (some 36) rfl rfl (by kernel_rfl) (by kernel_rfl) (by kernel_rfl) (fun _ _ _ h => h) (Or.inl ⟨by rfl, by (intro w3 hw; (try dsimp only at hw); go_simp; try with_reducible rfl)⟩) (by assumption) ?_; try simp only [Act.put, List.setIfInBounds_toArray, List.set_cons_zero, List.set_cons_succ])
            (refine take_dst (i := 14) (v := undef) (some 37) rfl rfl (by kernel_rfl) (by kernel_rfl) (by kernel_rfl) (fun _ _ _ h => h) (Or.inr ⟨by rfl, rfl⟩) (by assumption) ?_; try simp only [Act.put, List.setIfInBounds_toArray, List.set_cons_zero, List.set_cons_succ])
            (refine take_dst (i := 15) (v := undef) (some 38) rfl rfl (by kernel_rfl) (by kernel_rfl) (by kernel_rfl) (fun _ _ _ h => h) (Or.inr ⟨by rfl, rfl⟩) (by assumption) ?_; try simp only [Act.put, List.setIfInBounds_toArray, List.set_cons_zero, List.set_cons_succ])
            (refine take_dst (i := 16) (v := undef) (some 39) rfl rfl (by kernel_rfl) (by kernel_rfl) (by kernel_rfl) (fun _ _ _ h => h) (Or.inr ⟨by rfl, rfl⟩) (by assumption) ?_; try simp only [Act.put, List.setIfInBounds_toArray, List.set_cons_zero, List.set_cons_succ])
            (refine take_dst (i := 17) (v := undef) (some 40) rfl rfl (by kernel_rfl) (by kernel_rfl) (by kernel_rfl) (fun _ _ _ h => h) (Or.inr ⟨by rfl, rfl⟩) (by assumption) ?_; try simp only [Act.put, List.setIfInBounds_toArray, List.set_cons_zero, List.set_cons_succ])
            (refine take_dst (i := 18) (v := _) (some 41) rfl rfl (by kernel_rfl) (by kernel_rfl) (by kernel_rfl) (fun _ _ _ h => h) (Or.inl ⟨by rfl, by (intro w3 hw; (try dsimp only at hw); go_simp; try with_reducible rfl)⟩) (by assumption) ?_; try simp only [Act.put, List.setIfInBounds_toArray, List.set_cons_zero, List.set_cons_succ])
            refine wpAnyH_done (by kernel_rfl) ?_ _
            clear hHeld KEEP
            go_wp2_with fail
            go_roundw
            case rel => exact ⟨t + 1, by omega, by go_num, by rw [hst.out]; exact TB.out.on (below_drewN (Below.refl _ _) 1), by rw [hst.out, ← HQH.out]; exact own_on OB.out (below_drewN (Below.refl _ _) 1)⟩
            case measure => simp [intOf]; omega
          have HYB := Lib.hid hyb
          rw [hyb] at KEEP
          clear hyb
          have HC2 := Lib.hid (HCC.out.on (below_drewN (Below.refl _ _) 1))
          cases hfb : facB fs hd
          case true =>
            have hst := Lib.hid (show tkTo D y (facB fs) (fun _ => true) o (t + 1) = tkTo D y (facB fs) (fun _ => true) o t by rw [tkTo_succ, if_neg]; intro hc; have hc := tkCond_iff.1 hc; rw [hdk] at hc; rw [hfb] at hc; exact absurd hc.2.2.2.1 (by decide))
            have HFB := Lib.hid hfb
            clear hfb hdk
            go_wp2_with fail
            refine wp_region_held_drew (S := (fun w' => w'.cell? ⟨wr.heap.size, 0, none⟩ = some (.int .i64 hd) ∧ w'.cell? ⟨g1, 0, none⟩ = some (.pointer (some ⟨cb, 0, none⟩)) ∧ w'.cell? ⟨cb, 3, none⟩ = some (.map (some bp)) ∧ (Instr.lookup tM (.map (some bp)) (.int .i64 hd) false).run Try.prog w' = .ok (.bool true) w')) (by kernel_rfl) (KEEP.out _ (below_drewN (Below.refl _ _) 1)) (fun hHeld => ?_)
            (refine take_dst (i := 0) (v := _) (some 23) rfl rfl (by kernel_rfl) (by kernel_rfl) (by kernel_rfl) (fun _ _ _ h => h) (Or.inl ⟨by rfl, by (intro w3 hw; (try dsimp only at hw); go_simp; try with_reducible rfl)⟩) (by assumption) ?_; try simp only [Act.put, List.setIfInBounds_toArray, List.set_cons_zero, List.set_cons_succ])
            (refine take_dst (i := 1) (v := _) (some 24) rfl rfl (by kernel_rfl) (by kernel_rfl) (by kernel_rfl) (fun _ _ _ h => h) (Or.inl ⟨by rfl, by (intro w3 hw; (try dsimp only at hw); go_simp; try with_reducible rfl)⟩) (by assumption) ?_; try simp only [Act.put, List.setIfInBounds_toArray, List.set_cons_zero, List.set_cons_succ])
            (refine wpAnyH_ready (rs := [2]) (by kernel_rfl) (by simp) (AllReadyH.cons (i := 2) rfl (fun K hK => ?_) AllReadyH.nil); go_simp)
            refine (containsJ_is _ _ _ (natI (o ++ tkTo D y (facB fs) (fun _ => true) o t)) _ _ HRO.out (by omega) HCT.out).mono ?_
            rintro e w3 ⟨rfl, rfl⟩
            go_wp2_with fail
            refine hK.out _ _ hHeld (fun hHeld => ?_)
            clear hK K
            try simp only [Act.put, List.setIfInBounds_toArray, List.set_cons_zero, List.set_cons_succ]
            (refine take_dst (i := 3) (v := _) (some 26) rfl rfl (by kernel_rfl) (by kernel_rfl) (by kernel_rfl) (fun _ _ _ h => h) (Or.inl ⟨by rfl, by (intro w3 hw; (try dsimp only at hw); go_simp; try with_reducible rfl)⟩) (by assumption) ?_; try simp only [Act.put, List.setIfInBounds_toArray, List.set_cons_zero, List.set_cons_succ])
            (refine take_dst (i := 4) (v := _) (some 27) rfl rfl (by kernel_rfl) (by kernel_rfl) (by kernel_rfl) (fun _ _ _ h => h) (Or.inl ⟨by rfl, by (intro w3 hw; (try dsimp only at hw); go_simp; try with_reducible rfl)⟩) (by assumption) ?_; try simp only [Act.put, List.setIfInBounds_toArray, List.set_cons_zero, List.set_cons_succ])
            (refine take_dst (i := 5) (v := _) (some 28) rfl rfl (by kernel_rfl) (by kernel_rfl) (by kernel_rfl) (fun _ _ _ h => h) (Or.inl ⟨by rfl, by (intro w3 hw; (try dsimp only at hw); go_simp; try with_reducible rfl)⟩) (by assumption) ?_; try simp only [Act.put, List.setIfInBounds_toArray, List.set_cons_zero, List.set_cons_succ])
            (refine take_dst (i := 6) (v := _) (some 29) rfl rfl (by kernel_rfl) (by kernel_rfl) (by kernel_rfl) (fun _ _ _ h => h) (Or.inl ⟨by rfl, by (intro w3 hw; (try dsimp only at hw); go_simp; try with_reducible rfl)⟩) (by assumption) ?_; try simp only [Act.put, List.setIfInBounds_toArray, List.set_cons_zero, List.set_cons_succ])
            (refine take_dst (i := 7) (v := _) (some 30) rfl rfl (by kernel_rfl) (by kernel_rfl) (by kernel_rfl) (fun _ _ _ h => h) (Or.inl ⟨by rfl, by (intro w3 hw; (try dsimp only at hw); go_simp; try with_reducible rfl)⟩) (by assumption) ?_; try simp only [Act.put, List.setIfInBounds_toArray, List.set_cons_zero, List.set_cons_succ])
            (refine take_dst (i := 8) (v := _) (some 31) rfl rfl (by kernel_rfl) (by kernel_rfl) (by kernel_rfl) (fun _ _ _ h => h) (Or.inl ⟨by rfl, by (intro w3 hw; (try dsimp only at hw); go_simp; try with_reducible rfl)⟩) (by assumption) ?_; try simp only [Act.put, List.setIfInBounds_toArray, List.set_cons_zero, List.set_cons_succ])
            (refine take_dst (i := 9) (v := _) (some 32) rfl rfl (by kernel_rfl) (by kernel_rfl) (by kernel_rfl) (fun _ _ _ h => h) (Or.inl ⟨by rfl, by (intro w3 hw; (try dsimp only at hw); go_simp; try with_reducible rfl)⟩) (by assumption) ?_; try simp only [Act.put, List.setIfInBounds_toArray, List.set_cons_zero, List.set_cons_succ])
            (refine take_dst (i := 10) (v := _) (some 33) rfl rfl (by kernel_rfl) (by kernel_rfl) (by kernel_rfl) (fun _ _ _ h => h) (Or.inl ⟨by rfl, by (intro w3 hw; (try dsimp only at hw); go_simp; try with_reducible rfl)⟩) (by assumption) ?_; try simp only [Act.put, List.setIfInBounds_toArray, List.set_cons_zero, List.set_cons_succ])
            (refine take_dst (i := 11) (v := _) (some 34) rfl rfl (by kernel_rfl) (by kernel_rfl) (by kernel_rfl) (fun _ _ _ h => h) (Or.inl ⟨by rfl, by (intro w3 hw; (try dsimp only at hw); go_simp; try with_reducible rfl)⟩) (by assumption) ?_; try simp only [Act.put, List.setIfInBounds_toArray, List.set_cons_zero, List.set_cons_succ])
            (refine take_dst (i := 12) (v := _) (some 35) rfl rfl (by kernel_rfl) (by kernel_rfl) (by kernel_rfl) (fun _ _ _ h => h) (Or.inl ⟨by rfl, by (intro w3 hw; (try dsimp only at hw); go_simp; try with_reducible rfl)⟩) (by assumption) ?_; try simp only [Act.put, List.setIfInBounds_toArray, List.set_cons_zero, List.set_cons_succ])
            (refine take_dst (i := 13) (v := _) (some 36) rfl rfl (by kernel_rfl) (by kernel_rfl) (by kernel_rfl) (fun _ _ _ h => h) (Or.inl ⟨by rfl, by (intro w3 hw; (try dsimp only at hw); go_simp; try with_reducible rfl)⟩) (by assumption) ?_; try simp only [Act.put, List.setIfInBounds_toArray, List.set_cons_zero, List.set_cons_succ])
            (refine take_dst (i := 14) (v := _) (some 37) rfl rfl (by kernel_rfl) (by kernel_rfl) (by kernel_rfl) (fun _ _ _ h => h) (Or.inl ⟨by rfl, by (intro w3 hw; (try dsimp only at hw); go_simp; try with_reducible rfl)⟩) (by assumption) ?_; try simp only [Act.put, List.setIfInBounds_toArray, List.set_cons_zero, List.set_cons_succ])
            (refine take_dst (i := 15) (v := _) (some 38) rfl rfl (by kernel_rfl) (by kernel_rfl) (by kernel_rfl) (fun _ _ _ h => h) (Or.inl ⟨by rfl, by (intro w3 hw; (try dsimp only at hw); go_simp; try with_reducible rfl)⟩) (by assumption) ?_; try simp only [Act.put, List.setIfInBounds_toArray, List.set_cons_zero, List.set_cons_succ])
            (refine take_dst (i := 16) (v := _) (some 39) rfl rfl (by kernel_rfl) (by kernel_rfl) (by kernel_rfl) (fun _ _ _ h => h) (Or.inl ⟨by rfl, by (intro w3 hw; (try dsimp only at hw); go_simp; try with_reducible rfl)⟩) (by assumption) ?_; try simp only [Act.put, List.setIfInBounds_toArray, List.set_cons_zero, List.set_cons_succ])
            (refine wpAnyH_ready (rs := [17]) (by kernel_rfl) (by simp) (AllReadyH.cons (i := 17) rfl (fun K hK => ?_) AllReadyH.nil); go_simp)
            refine (isFact_is hd _ HC2.out HFB.out).mono ?_
            rintro e w3 ⟨rfl, rfl⟩
            go_wp2_with fail
            refine hK.out _ _ hHeld (fun hHeld => ?_)
            clear hK K
            try simp only [Act.put, List.setIfInBounds_toArray, List.set_cons_zero, List.set_cons_succ]
            (refine take_dst (i := 18) (v := _) (some 41) rfl rfl (by kernel_rfl) (by kernel_rfl) (by kernel_rfl) (fun _ _ _ h => h) (Or.inl ⟨by rfl, by (intro w3 hw; (try dsimp only at hw); go_simp; try with_reducible rfl)⟩) (by assumption) ?_; try simp only [Act.put, List.setIfInBounds_toArray, List.set_cons_zero, List.set_cons_succ])
            refine wpAnyH_done (by kernel_rfl) ?_ _
            clear hHeld KEEP
            go_wp2_with fail
            go_roundw
            case rel => exact ⟨t + 1, by omega, by go_num, by rw [hst.out]; exact TB.out.on (below_drewN (Below.refl _ _) 1), by rw [hst.out, ← HQH.out]; exact own_on OB.out (below_drewN (Below.refl _ _) 1)⟩
            case measure => simp [intOf]; omega
          have HFB := Lib.hid hfb
          clear hfb
          have T2 := Lib.hid (TB.out.on (below_drewN (Below.refl _ _) 1))
          have HRI2 := Lib.hid (HRI.out.on (below_drewN (Below.refl _ _) 1))
          cases hany : ifs.any (fun z => !facB fs z && !tkHd D o z)
          case true =>
            have hst := Lib.hid (show tkTo D y (facB fs) (fun _ => true) o (t + 1) = tkTo D y (facB fs) (fun _ => true) o t by rw [tkTo_succ, if_neg]; intro hc; have hc := tkCond_iff.1 hc; rw [hdk] at hc; rw [List.any_eq_true] at hany; obtain ⟨z, hz, h⟩ := hany; have h9 := hc.2.2.2.2 z hz; rw [tkKn_is] at h9; simp at h; simp [h.1, h.2] at h9)
            have HANY := Lib.hid hany
            clear hany
            go_wp2_with fail
            refine wp_region_held_drew (S := (fun w' => w'.cell? ⟨wr.heap.size, 0, none⟩ = some (.int .i64 hd) ∧ w'.cell? ⟨g1, 0, none⟩ = some (.pointer (some ⟨cb, 0, none⟩)) ∧ w'.cell? ⟨cb, 3, none⟩ = some (.map (some bp)) ∧ (Instr.lookup tM (.map (some bp)) (.int .i64 hd) false).run Try.prog w' = .ok (.bool true) w')) (by kernel_rfl) (KEEP.out _ (below_drewN (Below.refl _ _) 1)) (fun hHeld => ?_)
            (refine take_dst (i := 0) (v := _) (some 23) rfl rfl (by kernel_rfl) (by kernel_rfl) (by kernel_rfl) (fun _ _ _ h => h) (Or.inl ⟨by rfl, by (intro w3 hw; (try dsimp only at hw); go_simp; try with_reducible rfl)⟩) (by assumption) ?_; try simp only [Act.put, List.setIfInBounds_toArray, List.set_cons_zero, List.set_cons_succ])
            (refine take_dst (i := 1) (v := _) (some 24) rfl rfl (by kernel_rfl) (by kernel_rfl) (by kernel_rfl) (fun _ _ _ h => h) (Or.inl ⟨by rfl, by (intro w3 hw; (try dsimp only at hw); go_simp; try with_reducible rfl)⟩) (by assumption) ?_; try simp only [Act.put, List.setIfInBounds_toArray, List.set_cons_zero, List.set_cons_succ])
            (refine wpAnyH_ready (rs := [2]) (by kernel_rfl) (by simp) (AllReadyH.cons (i := 2) rfl (fun K hK => ?_) AllReadyH.nil); go_simp)
            refine (containsJ_is _ _ _ (natI (o ++ tkTo D y (facB fs) (fun _ => true) o t)) _ _ HRO.out (by omega) HCT.out).mono ?_
            rintro e w3 ⟨rfl, rfl⟩
            go_wp2_with fail
            refine hK.out _ _ hHeld (fun hHeld => ?_)
            clear hK K
            try simp only [Act.put, List.setIfInBounds_toArray, List.set_cons_zero, List.set_cons_succ]
            (refine take_dst (i := 3) (v := _) (some 26) rfl rfl (by kernel_rfl) (by kernel_rfl) (by kernel_rfl) (fun _ _ _ h => h) (Or.inl ⟨by rfl, by (intro w3 hw; (try dsimp only at hw); go_simp; try with_reducible rfl)⟩) (by assumption) ?_; try simp only [Act.put, List.setIfInBounds_toArray, List.set_cons_zero, List.set_cons_succ])
            (refine take_dst (i := 4) (v := _) (some 27) rfl rfl (by kernel_rfl) (by kernel_rfl) (by kernel_rfl) (fun _ _ _ h => h) (Or.inl ⟨by rfl, by (intro w3 hw; (try dsimp only at hw); go_simp; try with_reducible rfl)⟩) (by assumption) ?_; try simp only [Act.put, List.setIfInBounds_toArray, List.set_cons_zero, List.set_cons_succ])
            (refine take_dst (i := 5) (v := _) (some 28) rfl rfl (by kernel_rfl) (by kernel_rfl) (by kernel_rfl) (fun _ _ _ h => h) (Or.inl ⟨by rfl, by (intro w3 hw; (try dsimp only at hw); go_simp; try with_reducible rfl)⟩) (by assumption) ?_; try simp only [Act.put, List.setIfInBounds_toArray, List.set_cons_zero, List.set_cons_succ])
            (refine take_dst (i := 6) (v := _) (some 29) rfl rfl (by kernel_rfl) (by kernel_rfl) (by kernel_rfl) (fun _ _ _ h => h) (Or.inl ⟨by rfl, by (intro w3 hw; (try dsimp only at hw); go_simp; try with_reducible rfl)⟩) (by assumption) ?_; try simp only [Act.put, List.setIfInBounds_toArray, List.set_cons_zero, List.set_cons_succ])
            (refine take_dst (i := 7) (v := _) (some 30) rfl rfl (by kernel_rfl) (by kernel_rfl) (by kernel_rfl) (fun _ _ _ h => h) (Or.inl ⟨by rfl, by (intro w3 hw; (try dsimp only at hw); go_simp; try with_reducible rfl)⟩) (by assumption) ?_; try simp only [Act.put, List.setIfInBounds_toArray, List.set_cons_zero, List.set_cons_succ])
            (refine take_dst (i := 8) (v := _) (some 31) rfl rfl (by kernel_rfl) (by kernel_rfl) (by kernel_rfl) (fun _ _ _ h => h) (Or.inl ⟨by rfl, by (intro w3 hw; (try dsimp only at hw); go_simp; try with_reducible rfl)⟩) (by assumption) ?_; try simp only [Act.put, List.setIfInBounds_toArray, List.set_cons_zero, List.set_cons_succ])
            (refine take_dst (i := 9) (v := _) (some 32) rfl rfl (by kernel_rfl) (by kernel_rfl) (by kernel_rfl) (fun _ _ _ h => h) (Or.inl ⟨by rfl, by (intro w3 hw; (try dsimp only at hw); go_simp; try with_reducible rfl)⟩) (by assumption) ?_; try simp only [Act.put, List.setIfInBounds_toArray, List.set_cons_zero, List.set_cons_succ])
            (refine take_dst (i := 10) (v := _) (some 33) rfl rfl (by kernel_rfl) (by kernel_rfl) (by kernel_rfl) (fun _ _ _ h => h) (Or.inl ⟨by rfl, by (intro w3 hw; (try dsimp only at hw); go_simp; try with_reducible rfl)⟩) (by assumption) ?_; try simp only [Act.put, List.setIfInBounds_toArray, List.set_cons_zero, List.set_cons_succ])
            (refine take_dst (i := 11) (v := _) (some 34) rfl rfl (by kernel_rfl) (by kernel_rfl) (by kernel_rfl) (fun _ _ _ h => h) (Or.inl ⟨by rfl, by (intro w3 hw; (try dsimp only at hw); go_simp; try with_reducible rfl)⟩) (by assumption) ?_; try simp only [Act.put, List.setIfInBounds_toArray, List.set_cons_zero, List.set_cons_succ])
            (refine take_dst (i := 12) (v := _) (some 35) rfl rfl (by kernel_rfl) (by kernel_rfl) (by kernel_rfl) (fun _ _ _ h => h) (Or.inl ⟨by rfl, by (intro w3 hw; (try dsimp only at hw); go_simp; try with_reducible rfl)⟩) (by assumption) ?_; try simp only [Act.put, List.setIfInBounds_toArray, List.set_cons_zero, List.set_cons_succ])
            (refine take_dst (i := 13) (v := _) (some 36) rfl rfl (by kernel_rfl) (by kernel_rfl) (by kernel_rfl) (fun _ _ _ h => h) (Or.inl ⟨by rfl, by (intro w3 hw; (try dsimp only at hw); go_simp; try with_reducible rfl)⟩) (by assumption) ?_; try simp only [Act.put, List.setIfInBounds_toArray, List.set_cons_zero, List.set_cons_succ])
            (refine take_dst (i := 14) (v := _) (some 37) rfl rfl (by kernel_rfl) (by kernel_rfl) (by kernel_rfl) (fun _ _ _ h => h) (Or.inl ⟨by rfl, by (intro w3 hw; (try dsimp only at hw); go_simp; try with_reducible rfl)⟩) (by assumption) ?_; try simp only [Act.put, List.setIfInBounds_toArray, List.set_cons_zero, List.set_cons_succ])
            (refine take_dst (i := 15) (v := _) (some 38) rfl rfl (by kernel_rfl) (by kernel_rfl) (by kernel_rfl) (fun _ _ _ h => h) (Or.inl ⟨by rfl, by (intro w3 hw; (try dsimp only at hw); go_simp; try with_reducible rfl)⟩) (by assumption) ?_; try simp only [Act.put, List.setIfInBounds_toArray, List.set_cons_zero, List.set_cons_succ])
            (refine take_dst (i := 16) (v := _) (some 39) rfl rfl (by kernel_rfl) (by kernel_rfl) (by kernel_rfl) (fun _ _ _ h => h) (Or.inl ⟨by rfl, by (intro w3 hw; (try dsimp only at hw); go_simp; try with_reducible rfl)⟩) (by assumption) ?_; try simp only [Act.put, List.setIfInBounds_toArray, List.set_cons_zero, List.set_cons_succ])
            (refine wpAnyH_ready (rs := [17]) (by kernel_rfl) (by simp) (AllReadyH.cons (i := 17) rfl (fun K hK => ?_) AllReadyH.nil); go_simp)
            refine (isFact_is hd _ HC2.out HFB.out).mono ?_
            rintro e w3 ⟨rfl, rfl⟩
            go_wp2_with fail
            refine hK.out _ _ hHeld (fun hHeld => ?_)
            clear hK K
            try simp only [Act.put, List.setIfInBounds_toArray, List.set_cons_zero, List.set_cons_succ]
            (refine take_dst (i := 18) (v := _) (some 41) rfl rfl (by kernel_rfl) (by kernel_rfl) (by kernel_rfl) (fun _ _ _ h => h) (Or.inl ⟨by rfl, by (intro w3 hw; (try dsimp only at hw); go_simp; try with_reducible rfl)⟩) (by assumption) ?_; try simp only [Act.put, List.setIfInBounds_toArray, List.set_cons_zero, List.set_cons_succ])
            refine wpAnyH_done (by kernel_rfl) ?_ _
            clear hHeld KEEP
            go_wp2_with fail
            refine (tk_contains Ai ni ci ifs g1 _ HRI2.out hrn HIF.out HC2.out T2.out.iw.c1 gm g2 (tkHd D o) T2.out.iw.mp T2.out.iw.c2 HANY.out).mono ?_
            rintro e w3 ⟨rfl, rfl⟩
            go_wp2_with fail
            go_roundw
            case rel => exact ⟨t + 1, by omega, by go_num, by rw [hst.out]; exact TB.out.on (below_drewN (Below.refl _ _) 1), by rw [hst.out, ← HQH.out]; exact own_on OB.out (below_drewN (Below.refl _ _) 1)⟩
            case measure => simp [intOf]; omega
          case false =>
            have hst := Lib.hid (show tkTo D y (facB fs) (fun _ => true) o (t + 1) = tkTo D y (facB fs) (fun _ => true) o t ++ [t] by
              rw [tkTo_succ, if_pos]
              refine tkCond_iff.2 ⟨rfl, ?_, ?_, ?_, ?_⟩
              · simpa using HCTF.out
              · rw [hdk]; exact HYB.out
              · rw [hdk]; exact HFB.out
              · rw [hdk]
                intro z hz
                rw [tkKn_is]
                rw [List.any_eq_false] at hany
                have h9 := hany z hz
                cases h1 : facB fs z <;> simp [h1] at h9 ⊢
                exact h9)
            have HANY := Lib.hid hany
            clear hany
            go_wp2_with fail
            refine wp_region_held_drew (S := (fun w' => w'.cell? ⟨wr.heap.size, 0, none⟩ = some (.int .i64 hd) ∧ w'.cell? ⟨g1, 0, none⟩ = some (.pointer (some ⟨cb, 0, none⟩)) ∧ w'.cell? ⟨cb, 3, none⟩ = some (.map (some bp)) ∧ (Instr.lookup tM (.map (some bp)) (.int .i64 hd) false).run Try.prog w' = .ok (.bool true) w')) (by kernel_rfl) (KEEP.out _ (below_drewN (Below.refl _ _) 1)) (fun hHeld => ?_)
            (refine take_dst (i := 0) (v := _) (some 23) rfl rfl (by kernel_rfl) (by kernel_rfl) (by kernel_rfl) (fun _ _ _ h => h) (Or.inl ⟨by rfl, by (intro w3 hw; (try dsimp only at hw); go_simp; try with_reducible rfl)⟩) (by assumption) ?_; try simp only [Act.put, List.setIfInBounds_toArray, List.set_cons_zero, List.set_cons_succ])
            (refine take_dst (i := 1) (v := _) (some 24) rfl rfl (by kernel_rfl) (by kernel_rfl) (by kernel_rfl) (fun _ _ _ h => h) (Or.inl ⟨by rfl, by (intro w3 hw; (try dsimp only at hw); go_simp; try with_reducible rfl)⟩) (by assumption) ?_; try simp only [Act.put, List.setIfInBounds_toArray, List.set_cons_zero, List.set_cons_succ])
            (refine wpAnyH_ready (rs := [2]) (by kernel_rfl) (by simp) (AllReadyH.cons (i := 2) rfl (fun K hK => ?_) AllReadyH.nil); go_simp)
            refine (containsJ_is _ _ _ (natI (o ++ tkTo D y (facB fs) (fun _ => true) o t)) _ _ HRO.out (by omega) HCT.out).mono ?_
            rintro e w3 ⟨rfl, rfl⟩
            go_wp2_with fail
            refine hK.out _ _ hHeld (fun hHeld => ?_)
            clear hK K
            try simp only [Act.put, List.setIfInBounds_toArray, List.set_cons_zero, List.set_cons_succ]
            (refine take_dst (i := 3) (v := _) (some 26) rfl rfl (by kernel_rfl) (by kernel_rfl) (by kernel_rfl) (fun _ _ _ h => h) (Or.inl ⟨by rfl, by (intro w3 hw; (try dsimp only at hw); go_simp; try with_reducible rfl)⟩) (by assumption) ?_; try simp only [Act.put, List.setIfInBounds_toArray, List.set_cons_zero, List.set_cons_succ])
            (refine take_dst (i := 4) (v := _) (some 27) rfl rfl (by kernel_rfl) (by kernel_rfl) (by kernel_rfl) (fun _ _ _ h => h) (Or.inl ⟨by rfl, by (intro w3 hw; (try dsimp only at hw); go_simp; try with_reducible rfl)⟩) (by assumption) ?_; try simp only [Act.put, List.setIfInBounds_toArray, List.set_cons_zero, List.set_cons_succ])
            (refine take_dst (i := 5) (v := _) (some 28) rfl rfl (by kernel_rfl) (by kernel_rfl) (by kernel_rfl) (fun _ _ _ h => h) (Or.inl ⟨by rfl, by (intro w3 hw; (try dsimp only at hw); go_simp; try with_reducible rfl)⟩) (by assumption) ?_; try simp only [Act.put, List.setIfInBounds_toArray, List.set_cons_zero, List.set_cons_succ])
            (refine take_dst (i := 6) (v := _) (some 29) rfl rfl (by kernel_rfl) (by kernel_rfl) (by kernel_rfl) (fun _ _ _ h => h) (Or.inl ⟨by rfl, by (intro w3 hw; (try dsimp only at hw); go_simp; try with_reducible rfl)⟩) (by assumption) ?_; try simp only [Act.put, List.setIfInBounds_toArray, List.set_cons_zero, List.set_cons_succ])
            (refine take_dst (i := 7) (v := _) (some 30) rfl rfl (by kernel_rfl) (by kernel_rfl) (by kernel_rfl) (fun _ _ _ h => h) (Or.inl ⟨by rfl, by (intro w3 hw; (try dsimp only at hw); go_simp; try with_reducible rfl)⟩) (by assumption) ?_; try simp only [Act.put, List.setIfInBounds_toArray, List.set_cons_zero, List.set_cons_succ])
            (refine take_dst (i := 8) (v := _) (some 31) rfl rfl (by kernel_rfl) (by kernel_rfl) (by kernel_rfl) (fun _ _ _ h => h) (Or.inl ⟨by rfl, by (intro w3 hw; (try dsimp only at hw); go_simp; try with_reducible rfl)⟩) (by assumption) ?_; try simp only [Act.put, List.setIfInBounds_toArray, List.set_cons_zero, List.set_cons_succ])
            (refine take_dst (i := 9) (v := _) (some 32) rfl rfl (by kernel_rfl) (by kernel_rfl) (by kernel_rfl) (fun _ _ _ h => h) (Or.inl ⟨by rfl, by (intro w3 hw; (try dsimp only at hw); go_simp; try with_reducible rfl)⟩) (by assumption) ?_; try simp only [Act.put, List.setIfInBounds_toArray, List.set_cons_zero, List.set_cons_succ])
            (refine take_dst (i := 10) (v := _) (some 33) rfl rfl (by kernel_rfl) (by kernel_rfl) (by kernel_rfl) (fun _ _ _ h => h) (Or.inl ⟨by rfl, by (intro w3 hw; (try dsimp only at hw); go_simp; try with_reducible rfl)⟩) (by assumption) ?_; try simp only [Act.put, List.setIfInBounds_toArray, List.set_cons_zero, List.set_cons_succ])
            (refine take_dst (i := 11) (v := _) (some 34) rfl rfl (by kernel_rfl) (by kernel_rfl) (by kernel_rfl) (fun _ _ _ h => h) (Or.inl ⟨by rfl, by (intro w3 hw; (try dsimp only at hw); go_simp; try with_reducible rfl)⟩) (by assumption) ?_; try simp only [Act.put, List.setIfInBounds_toArray, List.set_cons_zero, List.set_cons_succ])
            (refine take_dst (i := 12) (v := _) (some 35) rfl rfl (by kernel_rfl) (by kernel_rfl) (by kernel_rfl) (fun _ _ _ h => h) (Or.inl ⟨by rfl, by (intro w3 hw; (try dsimp only at hw); go_simp; try with_reducible rfl)⟩) (by assumption) ?_; try simp only [Act.put, List.setIfInBounds_toArray, List.set_cons_zero, List.set_cons_succ])
            (refine take_dst (i := 13) (v := _) (some 36) rfl rfl (by kernel_rfl) (by kernel_rfl) (by kernel_rfl) (fun _ _ _ h => h) (Or.inl ⟨by rfl, by (intro w3 hw; (try dsimp only at hw); go_simp; try with_reducible rfl)⟩) (by assumption) ?_; try simp only [Act.put, List.setIfInBounds_toArray, List.set_cons_zero, List.set_cons_succ])
            (refine take_dst (i := 14) (v := _) (some 37) rfl rfl (by kernel_rfl) (by kernel_rfl) (by kernel_rfl) (fun _ _ _ h => h) (Or.inl ⟨by rfl, by (intro w3 hw; (try dsimp only at hw); go_simp; try with_reducible rfl)⟩) (by assumption) ?_; try simp only [Act.put, List.setIfInBounds_toArray, List.set_cons_zero, List.set_cons_succ])
            (refine take_dst (i := 15) (v := _) (some 38) rfl rfl (by kernel_rfl) (by kernel_rfl) (by kernel_rfl) (fun _ _ _ h => h) (Or.inl ⟨by rfl, by (intro w3 hw; (try dsimp only at hw); go_simp; try with_reducible rfl)⟩) (by assumption) ?_; try simp only [Act.put, List.setIfInBounds_toArray, List.set_cons_zero, List.set_cons_succ])
            (refine take_dst (i := 16) (v := _) (some 39) rfl rfl (by kernel_rfl) (by kernel_rfl) (by kernel_rfl) (fun _ _ _ h => h) (Or.inl ⟨by rfl, by (intro w3 hw; (try dsimp only at hw); go_simp; try with_reducible rfl)⟩) (by assumption) ?_; try simp only [Act.put, List.setIfInBounds_toArray, List.set_cons_zero, List.set_cons_succ])
            (refine wpAnyH_ready (rs := [17]) (by kernel_rfl) (by simp) (AllReadyH.cons (i := 17) rfl (fun K hK => ?_) AllReadyH.nil); go_simp)
            refine (isFact_is hd _ HC2.out HFB.out).mono ?_
            rintro e w3 ⟨rfl, rfl⟩
            go_wp2_with fail
            refine hK.out _ _ hHeld (fun hHeld => ?_)
            clear hK K
            try simp only [Act.put, List.setIfInBounds_toArray, List.set_cons_zero, List.set_cons_succ]
            (refine take_dst (i := 18) (v := _) (some 41) rfl rfl (by kernel_rfl) (by kernel_rfl) (by kernel_rfl) (fun _ _ _ h => h) (Or.inl ⟨by rfl, by (intro w3 hw; (try dsimp only at hw); go_simp; try with_reducible rfl)⟩) (by assumption) ?_; try simp only [Act.put, List.setIfInBounds_toArray, List.set_cons_zero, List.set_cons_succ])
            refine wpAnyH_done (by kernel_rfl) ?_ _
            clear hHeld KEEP
            go_wp2_with fail
            refine (tk_contains Ai ni ci ifs g1 _ HRI2.out hrn HIF.out HC2.out T2.out.iw.c1 gm g2 (tkHd D o) T2.out.iw.mp T2.out.iw.c2 HANY.out).mono ?_
            rintro e w3 ⟨rfl, rfl⟩
            go_wp2_with fail
            have E0 : ES w (wr.alloc (.cells #[.int .i64 hd, .slice Ai ni ci, .int .i64 fr, .int .i64 tt, .int .i64 rk] tR)) cb gm g1 g2 (g2 + 1) wr.heap.size (tkHd D o) (.slice Ao q co) (.slice Ah qh ch) (o ++ tkTo D y (facB fs) (fun _ => true) o t) qh (hdsI D (tkTo D y (facB fs) (fun _ => true) o t)) hd := ⟨TB.out, OB.out, by go_simp, ⟨_, _, alloc_obj wr _⟩, by simp, (by have := HORD.out; have := TB.out.iw.hm; exact ⟨by omega, by omega, by omega, by omega⟩), TB.out.iw.l2⟩
            have E1 := (E0.on (below_drewN (Below.refl _ _) 1)).on (show Below _ _ (World.drew _) from below_drewN (Below.refl _ _) 1)
            have EE := Lib.hid E1
            refine wp_region_T (fun w' => w'.cell? ⟨wr.heap.size, 0, none⟩ = some (.int .i64 hd)) [7] (by kernel_rfl) ?_
            obtain ⟨gb, hgb⟩ : ∃ g, g = wr.heap.size := ⟨_, rfl⟩
            rw [← hgb] at EE ⊢
            clear E0 E1 T2 HRI2 HC2 TB OB hgb HCC HRI HRO
            generalize World.drew (World.drewN (wr.alloc (.cells #[.int .i64 hd, .slice Ai ni ci, .int .i64 fr, .int .i64 tt, .int .i64 rk] tR)) 1) = w4 at EE ⊢
            refine wpAnyT_take (i := 0) (v := _) rfl (by kernel_rfl) (by kernel_rfl) (by kernel_rfl) (by kernel_rfl) (fun _ _ _ h => h) (fun _ => EE.out.cx) (Or.inl ⟨by rfl, by (intro w3; go_simp; try with_reducible rfl)⟩) ?_
            try simp only [Act.put, List.setIfInBounds_toArray, List.set_cons_zero, List.set_cons_succ]
            refine wpAnyT_take (i := 1) (v := _) rfl (by kernel_rfl) (by kernel_rfl) (by kernel_rfl) (by kernel_rfl) (fun _ _ _ h => h) (fun _ => EE.out.cx) (Or.inl ⟨by rfl, by (intro w3; go_simp; try with_reducible rfl)⟩) ?_
            try simp only [Act.put, List.setIfInBounds_toArray, List.set_cons_zero, List.set_cons_succ]
            refine wpAnyT_take (i := 4) (v := _) rfl (by kernel_rfl) (by kernel_rfl) (by kernel_rfl) (by kernel_rfl) (fun _ _ _ h => h) (fun _ => EE.out.cx) (Or.inl ⟨by rfl, by (intro w3; go_simp; try with_reducible rfl)⟩) ?_
            try simp only [Act.put, List.setIfInBounds_toArray, List.set_cons_zero, List.set_cons_succ]
            refine wpAnyT_take (i := 5) (v := _) rfl (by kernel_rfl) (by kernel_rfl) (by kernel_rfl) (by kernel_rfl) (fun _ _ _ h => h) (fun _ => EE.out.cx) (Or.inl ⟨by rfl, by (intro w3; go_simp; try with_reducible rfl)⟩) ?_
            try simp only [Act.put, List.setIfInBounds_toArray, List.set_cons_zero, List.set_cons_succ]
            refine wpAnyT_load (i := 6) (v := _) rfl (by kernel_rfl) (by kernel_rfl) (by kernel_rfl) (by kernel_rfl) (by kernel_rfl) (by kernel_rfl) (fun _ _ _ h => h) EE.out.cx (Or.inl ⟨by rfl, by (intro w3 hw; go_simp; try with_reducible rfl)⟩) ?_
            try simp only [Act.put, List.setIfInBounds_toArray, List.set_cons_zero, List.set_cons_succ]
            refine wpAnyT_ready (rs := [2, 7]) (by kernel_rfl) (by simp) ?_
            refine AllT.cons rfl (fun K hK => ?_) ?_
            · go_simp
              have HT := Lib.hid (EE.out.on (bl_a (w := w4) (.cells #[.int .i64 (t : Int)] tJ)))
              have HBI := Lib.hid (B1.new w4 (t : Int) tJ)
              obtain ⟨gi, hgi⟩ : ∃ g, g = w4.heap.size := ⟨_, rfl⟩
              rw [← hgi] at HBI ⊢
              refine hK.out _ _ (fun _ => HT.out.cx) ?_
              clear hK K hgi EE
              generalize w4.alloc (.cells #[.int .i64 (t : Int)] tJ) = w5 at HT HBI ⊢
              have EE := HT
              clear HT
              try simp only [Act.put, List.setIfInBounds_toArray, List.set_cons_zero, List.set_cons_succ]
              refine wpAnyT_ready (rs := [3, 7]) (by kernel_rfl) (by simp) ?_
              refine AllT.cons rfl (fun K hK => ?_) ?_
              · have hO3 := EE.out.tw.ow
                rw [← HQ.out] at hO3
                refine step_appJ rfl (.tmp 47) (.tmp 49) rfl w.heap.size _ q _ rfl hO3 EE.out.tw.iw.be.size gi 1 (t : Int) rfl HBI.out.c (by omega) ?_
                intro va w6 hoa hga
                obtain ⟨Aa, ca, rfl, _, _⟩ := own_form hoa
                have HT := Lib.hid (EE.out.appJ (o' := o ++ (tkTo D y (facB fs) (fun _ => true) o t ++ [t])) hga (by rw [← List.append_assoc, List.length_append, ← HQ.out, natI_append]; rw [show natI [t] = [(t : Int)] from natI_one t]; exact hoa))
                refine hK.out _ _ (fun _ => HT.out.cx) ?_
                clear hK K hoa hga hO3 EE HBI
                have EE := HT
                clear HT
                try simp only [Act.put, List.setIfInBounds_toArray, List.set_cons_zero, List.set_cons_succ]
                refine wpAnyT_ready (rs := [7]) (by kernel_rfl) (by simp) ?_
                refine AllT.cons rfl (fun K hK => ?_) ?_
                · go_simp
                  have HT := Lib.hid (EE.out.on (bl_a (w := w6) (.cells #[.int .i64 hd] tI)))
                  have HBH := Lib.hid (B1.new w6 hd tI)
                  obtain ⟨gj, hgj⟩ : ∃ g, g = w6.heap.size := ⟨_, rfl⟩
                  rw [← hgj] at HBH ⊢
                  refine hK.out _ _ (fun h => absurd h (by simp [noSt])) ?_
                  clear hK K hgj EE
                  generalize w6.alloc (.cells #[.int .i64 hd] tI) = w7 at HT HBH ⊢
                  have EE := HT
                  clear HT
                  try simp only [Act.put, List.setIfInBounds_toArray, List.set_cons_zero, List.set_cons_succ]
                  refine wpAnyT_ready (rs := [8]) (by kernel_rfl) (by simp) ?_
                  refine AllT.cons rfl (fun K hK => ?_) ?_
                  · refine step_app64 rfl (.tmp 51) (.tmp 54) rfl (g2 + 1) _ qh _ rfl EE.out.oh EE.out.ghl gj 1 hd rfl HBH.out.c (by omega) ?_
                    intro vb w8 hob hgb
                    obtain ⟨Ab, cc, rfl, _, _⟩ := own_form hob
                    have HT := Lib.hid (EE.out.app64 hgb hob)
                    refine hK.out _ _ (fun h => absurd h (by simp [noSt])) ?_
                    clear hK K hob hgb EE HBH
                    have EE := HT
                    clear HT
                    try simp only [Act.put, List.setIfInBounds_toArray, List.set_cons_zero, List.set_cons_succ]
                    refine wpAnyT_ready (rs := [9]) (by kernel_rfl) (by simp) ?_
                    refine AllT.cons rfl (fun K hK => ?_) AllT.nil
                    go_simp
                    refine hK.out _ _ (fun h => absurd h (by simp [noSt])) ?_
                    clear hK K
                    try simp only [Act.put, List.setIfInBounds_toArray, List.set_cons_zero, List.set_cons_succ]
                    refine wpAnyT_ready (rs := [10]) (by kernel_rfl) (by simp) ?_
                    refine AllT.cons rfl (fun K hK => ?_) AllT.nil
                    go_simp
                    refine hK.out _ _ (fun h => absurd h (by simp [noSt])) ?_
                    clear hK K
                    try simp only [Act.put, List.setIfInBounds_toArray, List.set_cons_zero, List.set_cons_succ]
                    refine wpAnyT_done (by kernel_rfl) ?_ _
                    go_wp2_with fail
                    go_roundw
                    case rel => exact ⟨t + 1, by omega, by go_num, by rw [hst.out]; exact EE.out.tw, by rw [hst.out, hdsI_append, show hdsI D [t] = [hd] from by rw [hdsI_one, hdk], List.length_append, ← HQH.out]; exact EE.out.oh⟩
                    case measure => simp [intOf]; omega
                  exact AllT.nil
                exact AllT.nil
              refine AllT.cons rfl (fun K hK => ?_) ?_
              · go_simp
                have HT := Lib.hid (EE.out.on (bl_a (w := w5) (.cells #[.int .i64 hd] tI)))
                have HBH := Lib.hid (B1.new w5 hd tI)
                have HOT := Lib.hid (HBI.out.on (bl_a (w := w5) (.cells #[.int .i64 hd] tI)))
                obtain ⟨gj, hgj⟩ : ∃ g, g = w5.heap.size := ⟨_, rfl⟩
                rw [← hgj] at HBH ⊢
                refine hK.out _ _ (fun h => absurd h (by simp [noSt])) ?_
                clear hK K hgj EE HBI
                generalize w5.alloc (.cells #[.int .i64 hd] tI) = w6 at HT HBH HOT ⊢
                have EE := HT
                clear HT
                have HBI := HOT
                clear HOT
                try simp only [Act.put, List.setIfInBounds_toArray, List.set_cons_zero, List.set_cons_succ]
                refine wpAnyT_ready (rs := [3]) (by kernel_rfl) (by simp) ?_
                refine AllT.cons rfl (fun K hK => ?_) ?_
                · have hO3 := EE.out.tw.ow
                  rw [← HQ.out] at hO3
                  refine step_appJ rfl (.tmp 47) (.tmp 49) rfl w.heap.size _ q _ rfl hO3 EE.out.tw.iw.be.size gi 1 (t : Int) rfl HBI.out.c (by omega) ?_
                  intro va w7 hoa hga
                  obtain ⟨Aa, ca, rfl, _, _⟩ := own_form hoa
                  have HT := Lib.hid (EE.out.appJ (o' := o ++ (tkTo D y (facB fs) (fun _ => true) o t ++ [t])) hga (by rw [← List.append_assoc, List.length_append, ← HQ.out, natI_append]; rw [show natI [t] = [(t : Int)] from natI_one t]; exact hoa))
                  have HOT := Lib.hid (HBH.out.grow hga (ne_kind EE.out.tw.ow HBH.out.o (by decide)))
                  refine hK.out _ _ (fun h => absurd h (by simp [noSt])) ?_
                  clear hK K hoa hga hO3 EE HBI HBH
                  have EE := HT
                  clear HT
                  have HBH := HOT
                  clear HOT
                  try simp only [Act.put, List.setIfInBounds_toArray, List.set_cons_zero, List.set_cons_succ]
                  refine wpAnyT_ready (rs := [8]) (by kernel_rfl) (by simp) ?_
                  refine AllT.cons rfl (fun K hK => ?_) ?_
                  · refine step_app64 rfl (.tmp 51) (.tmp 54) rfl (g2 + 1) _ qh _ rfl EE.out.oh EE.out.ghl gj 1 hd rfl HBH.out.c (by omega) ?_
                    intro vb w8 hob hgb
                    obtain ⟨Ab, cc, rfl, _, _⟩ := own_form hob
                    have HT := Lib.hid (EE.out.app64 hgb hob)
                    refine hK.out _ _ (fun h => absurd h (by simp [noSt])) ?_
                    clear hK K hob hgb EE HBH
                    have EE := HT
                    clear HT
                    try simp only [Act.put, List.setIfInBounds_toArray, List.set_cons_zero, List.set_cons_succ]
                    refine wpAnyT_ready (rs := [9]) (by kernel_rfl) (by simp) ?_
                    refine AllT.cons rfl (fun K hK => ?_) AllT.nil
                    go_simp
                    refine hK.out _ _ (fun h => absurd h (by simp [noSt])) ?_
                    clear hK K
                    try simp only [Act.put, List.setIfInBounds_toArray, List.set_cons_zero, List.set_cons_succ]
                    refine wpAnyT_ready (rs := [10]) (by kernel_rfl) (by simp) ?_
                    refine AllT.cons rfl (fun K hK => ?_) AllT.nil
                    go_simp
                    refine hK.out _ _ (fun h => absurd h (by simp [noSt])) ?_
                    clear hK K
                    try simp only [Act.put, List.setIfInBounds_toArray, List.set_cons_zero, List.set_cons_succ]
                    refine wpAnyT_done (by kernel_rfl) ?_ _
                    go_wp2_with fail
                    go_roundw
                    case rel => exact ⟨t + 1, by omega, by go_num, by rw [hst.out]; exact EE.out.tw, by rw [hst.out, hdsI_append, show hdsI D [t] = [hd] from by rw [hdsI_one, hdk], List.length_append, ← HQH.out]; exact EE.out.oh⟩
                    case measure => simp [intOf]; omega
                  exact AllT.nil
                exact AllT.nil
              exact AllT.nil
            refine AllT.cons rfl (fun K hK => ?_) ?_
            · go_simp
              have HT := Lib.hid (EE.out.on (bl_a (w := w4) (.cells #[.int .i64 hd] tI)))
              have HBH := Lib.hid (B1.new w4 hd tI)
              obtain ⟨gj, hgj⟩ : ∃ g, g = w4.heap.size := ⟨_, rfl⟩
              rw [← hgj] at HBH ⊢
              refine hK.out _ _ (fun h => absurd h (by simp [noSt])) ?_
              clear hK K hgj EE
              generalize w4.alloc (.cells #[.int .i64 hd] tI) = w5 at HT HBH ⊢
              have EE := HT
              clear HT
              try simp only [Act.put, List.setIfInBounds_toArray, List.set_cons_zero, List.set_cons_succ]
              refine wpAnyT_ready (rs := [2]) (by kernel_rfl) (by simp) ?_
              refine AllT.cons rfl (fun K hK => ?_) ?_
              · go_simp
                have HT := Lib.hid (EE.out.on (bl_a (w := w5) (.cells #[.int .i64 (t : Int)] tJ)))
                have HBI := Lib.hid (B1.new w5 (t : Int) tJ)
                have HOT := Lib.hid (HBH.out.on (bl_a (w := w5) (.cells #[.int .i64 (t : Int)] tJ)))
                obtain ⟨gi, hgi⟩ : ∃ g, g = w5.heap.size := ⟨_, rfl⟩
                rw [← hgi] at HBI ⊢
                refine hK.out _ _ (fun h => absurd h (by simp [noSt])) ?_
                clear hK K hgi EE HBH
                generalize w5.alloc (.cells #[.int .i64 (t : Int)] tJ) = w6 at HT HBI HOT ⊢
                have EE := HT
                clear HT
                have HBH := HOT
                clear HOT
                try simp only [Act.put, List.setIfInBounds_toArray, List.set_cons_zero, List.set_cons_succ]
                refine wpAnyT_ready (rs := [3]) (by kernel_rfl) (by simp) ?_
                refine AllT.cons rfl (fun K hK => ?_) ?_
                · have hO3 := EE.out.tw.ow
                  rw [← HQ.out] at hO3
                  refine step_appJ rfl (.tmp 47) (.tmp 49) rfl w.heap.size _ q _ rfl hO3 EE.out.tw.iw.be.size gi 1 (t : Int) rfl HBI.out.c (by omega) ?_
                  intro va w7 hoa hga
                  obtain ⟨Aa, ca, rfl, _, _⟩ := own_form hoa
                  have HT := Lib.hid (EE.out.appJ (o' := o ++ (tkTo D y (facB fs) (fun _ => true) o t ++ [t])) hga (by rw [← List.append_assoc, List.length_append, ← HQ.out, natI_append]; rw [show natI [t] = [(t : Int)] from natI_one t]; exact hoa))
                  have HOT := Lib.hid (HBH.out.grow hga (ne_kind EE.out.tw.ow HBH.out.o (by decide)))
                  refine hK.out _ _ (fun h => absurd h (by simp [noSt])) ?_
                  clear hK K hoa hga hO3 EE HBI HBH
                  have EE := HT
                  clear HT
                  have HBH := HOT
                  clear HOT
                  try simp only [Act.put, List.setIfInBounds_toArray, List.set_cons_zero, List.set_cons_succ]
                  refine wpAnyT_ready (rs := [8]) (by kernel_rfl) (by simp) ?_
                  refine AllT.cons rfl (fun K hK => ?_) ?_
                  · refine step_app64 rfl (.tmp 51) (.tmp 54) rfl (g2 + 1) _ qh _ rfl EE.out.oh EE.out.ghl gj 1 hd rfl HBH.out.c (by omega) ?_
                    intro vb w8 hob hgb
                    obtain ⟨Ab, cc, rfl, _, _⟩ := own_form hob
                    have HT := Lib.hid (EE.out.app64 hgb hob)
                    refine hK.out _ _ (fun h => absurd h (by simp [noSt])) ?_
                    clear hK K hob hgb EE HBH
                    have EE := HT
                    clear HT
                    try simp only [Act.put, List.setIfInBounds_toArray, List.set_cons_zero, List.set_cons_succ]
                    refine wpAnyT_ready (rs := [9]) (by kernel_rfl) (by simp) ?_
                    refine AllT.cons rfl (fun K hK => ?_) AllT.nil
                    go_simp
                    refine hK.out _ _ (fun h => absurd h (by simp [noSt])) ?_
                    clear hK K
                    try simp only [Act.put, List.setIfInBounds_toArray, List.set_cons_zero, List.set_cons_succ]
                    refine wpAnyT_ready (rs := [10]) (by kernel_rfl) (by simp) ?_
                    refine AllT.cons rfl (fun K hK => ?_) AllT.nil
                    go_simp
                    refine hK.out _ _ (fun h => absurd h (by simp [noSt])) ?_
                    clear hK K
                    try simp only [Act.put, List.setIfInBounds_toArray, List.set_cons_zero, List.set_cons_succ]
                    refine wpAnyT_done (by kernel_rfl) ?_ _
                    go_wp2_with fail
                    go_roundw
                    case rel => exact ⟨t + 1, by omega, by go_num, by rw [hst.out]; exact EE.out.tw, by rw [hst.out, hdsI_append, show hdsI D [t] = [hd] from by rw [hdsI_one, hdk], List.length_append, ← HQH.out]; exact EE.out.oh⟩
                    case measure => simp [intOf]; omega
                  exact AllT.nil
                exact AllT.nil
              exact AllT.nil
            exact AllT.nil
      · have htm : t = m := by omega
        have hN : tkTo D y (facB fs) (fun _ => true) o t = tkNew D y (facB fs) (fun _ => true) o := by rw [htm, ← HDL.out, tkTo_all]
        rw [hN] at TA OH
        clear hN ht hlt
        rw [htm]
        clear htm
        obtain ⟨N, hNd⟩ : ∃ N, N = tkNew D y (facB fs) (fun _ => true) o := ⟨_, rfl⟩
        rw [← hNd] at TA OH
        have HND := Lib.hid hNd
        clear hNd
        obtain ⟨Ao, co, rfl, _, _⟩ := own_form TA.out.ow
        obtain ⟨Ah, ch, rfl, _, _⟩ := own_form OH.out
        obtain ⟨q, hq⟩ : ∃ q, q = (o ++ N).length := ⟨_, rfl⟩
        obtain ⟨qh, hqh⟩ : ∃ q, q = N.length := ⟨_, rfl⟩
        rw [← hq] at TA ⊢
        rw [← hqh] at OH ⊢
        have HQ := Lib.hid hq
        have HQH := Lib.hid hqh
        clear hq hqh
        have hq24 : qh ≤ 24 := by
          have h := (HTI.out.step (yes := y) (pre := fun _ => true)).len
          rw [← HND.out, List.length_append, ← HQH.out, HDL.out] at h
          omega
        rcases Nat.eq_zero_or_pos qh with h0 | h0
        · have hN0 : N = [] := List.eq_nil_of_length_eq_zero (by rw [← HQH.out]; exact h0)
          have hfin : tk D y (facB fs) (fun _ => true) = o := HTK.out.trans (tkRun_stop (by rw [← HND.out]; exact hN0))
          rw [hN0, List.append_nil] at TA HQ
          have HFIN := Lib.hid hfin
          subst h0
          clear hN0 hfin
          go_wp2_with fail
          go_ret
          refine ⟨_, _, _, rfl, ?_, ?_, TA.out.iw.be⟩
          · rw [HFIN.out]; exact HQ.out
          · rw [HFIN.out]
            have h := TA.out.ow
            rw [← HQ.out] at h
            exact h
        · have HWD := Lib.hid (fun (s : Nat) (h : s < N.length) => show wordB (tAt D N[s]).hd = true from by
            have h1 : N[s] ∈ tkNew D y (facB fs) (fun _ => true) o := by rw [← HND.out]; exact List.getElem_mem h
            have h2 := (tkNew_mem.1 h1).1
            rw [HDL.out] at h2
            obtain ⟨ad, r, _, hrk, _, _⟩ := HC.out.rr.at h2
            have e : tAt D N[s] = r.dat := by unfold tAt; rw [HD.out]; exact dat_at hrk
            rw [e]
            exact (HV.out r (List.mem_of_getElem? hrk)).2)
          have hq9 : ((qh : Int) == 0) = false := by simp; omega
          go_wp2_with fail
          clear hq9
          go_loopw [9, 63] (fun _ i wz => ∃ s : Nat, s ≤ qh ∧ i = .int .i64 s ∧ TW w wz cb gm g1 g2 (tkHd D (o ++ N.take s)) (.slice Ao q co) (o ++ N) ∧ wz.ownsRow (g2 + 1) tI 1 (.slice Ah qh ch) qh (ints (hdsI D N))) (fun _ i _ => qh - (intOf i).toNat)
          case atStart => exact ⟨0, Nat.zero_le _, rfl, by rw [List.take_zero, List.append_nil]; exact TA.out, OH.out⟩
          case round =>
            clear TA OH
            obtain ⟨s, hs, rfl, hT, hO⟩ := hrel
            by_cases hlt : s < qh
            · have hln : s < N.length := by rw [← HQH.out]; exact hlt
              obtain ⟨ap, rfl, hcp⟩ := (Rd.of_own hO).int hlt
              rw [hdsI_get hln] at hcp
              have hw := HWD.out s hln
              have hpt := tkHd_put D (o ++ N.take s) N[s]
              rw [← take_put hln] at hpt
              have HPT := Lib.hid hpt
              clear hpt
              obtain ⟨w4, hmu, hmp4, hgr4⟩ := hT.iw.mp.put hw
              rw [HPT.out] at hmp4
              have T4 := Lib.hid (hT.put hmp4 hgr4)
              have O4 := Lib.hid (World.ownsRow.kept hO hgr4 (.inr fun e => by have := (hO.lt gm e).1; have := HORD.out; omega))
              have e2 := hT.iw.c2
              obtain ⟨hd, hhd⟩ : ∃ z, z = (tAt D N[s]).hd := ⟨_, rfl⟩
              rw [← hhd] at hcp hmu
              have i1 : (0 : Int) ≤ s := by omega
              have i2 : (s : Int) < qh := by omega
              clear hhd hw hmp4 hgr4 hT hO HPT
              go_wp2_with fail
              go_roundw
              case rel => exact ⟨s + 1, by omega, by go_num, T4.out, O4.out⟩
              case measure => simp [intOf]; omega
            · have hsq : s = qh := by omega
              subst hsq
              have T9 := Lib.hid hT
              clear hT hO
              have hNn : tkNew D y (facB fs) (fun _ => true) o ≠ [] := by
                rw [← HND.out]
                intro e
                have := HQH.out
                rw [e] at this
                simp at this
                omega
              have hroom := tkNew_room HTI.out hNn
              have hfu := HFU.out
              have hst := HTI.out.step (yes := y) (pre := fun _ => true)
              rw [← HND.out] at hst
              have hsl := hst.len
              have hgo := HTK.out.trans (tkRun_go hNn)
              rw [← HND.out] at hgo
              have hql : q = o.length + s := by have h1 := HQ.out; rw [List.length_append, ← HQH.out] at h1; exact h1
              have hqm : q ≤ m := by rw [← HQ.out, HDL.out] at hsl; exact hsl
              have HNX := Lib.hid (show ∃ (f : Nat) (o1 : List Nat), tk D y (facB fs) (fun _ => true) = tkRun D y (facB fs) (fun _ => true) (f + 1) o1 ∧ D.length < f + 1 + o1.length ∧ TkI D (facB fs) o1 ∧ TW w wr cb gm g1 g2 (tkHd D o1) (.slice Ao q co) o1 from by
                obtain ⟨f', rfl⟩ : ∃ f', f = f' + 1 := ⟨f - 1, by omega⟩
                refine ⟨f', o ++ N, hgo, by rw [List.length_append, ← HQH.out]; omega, hst, ?_⟩
                have h := T9.out
                rw [HQH.out, List.take_length] at h
                exact h)
              have HQL := Lib.hid hql
              have HQM := Lib.hid hqm
              clear hNn hroom hfu hst hsl hgo hql hqm
              go_wp2_with fail
              go_roundw
              case rel => exact HNX.out
              case measure =>
                have h1 := HSV.out
                have h2 := HQL.out
                have h3 := HQM.out
                rw [h1]
                show m + 1 - q < m + 1 - o.length
                omega
end Go.Proofs.Ytinocfehjdlohaa
namespace Go.Proofs.Ytinocfehjdlohaa
open Go.ChangeShapes Go.WideShapes Go.ChangeAt Go.RowKit
set_option linter.unusedVariables false
set_option linter.unusedSimpArgs false

theorem NS.grow {W w w' : World} {go gn gf : Nat} {Ao : Option Addr} {q co gc : Nat} {kn : Int → Bool} {row : Option Nat} (h : NS W w go gn gf Ao q co gc kn) (hg : w.grownBy w' row) (hr : ∀ g, row = some g → W.heap.size < g ∧ go < g ∧ gn < g ∧ gf < g) : NS W w' go gn gf Ao q co gc kn :=
  ⟨below_grown h.be hg fun k hk => Nat.le_of_lt (hr k hk).1, h.mp.kept hg (fun e => absurd (hr _ e.symm).1 (Nat.lt_irrefl _)), hg.cell h.co (fun e => absurd (hr _ e.symm).2.1 (Nat.lt_irrefl _)), hg.cell h.cn (fun e => absurd (hr _ e.symm).2.2.1 (Nat.lt_irrefl _)), hg.cell h.cf (fun e => absurd (hr _ e.symm).2.2.2 (Nat.lt_irrefl _)),
    ⟨h.lo.1, Nat.lt_of_lt_of_le h.lo.2 hg.size⟩, ⟨h.ln.1, Nat.lt_of_lt_of_le h.ln.2 hg.size⟩, ⟨h.lf.1, Nat.lt_of_lt_of_le h.lf.2 hg.size⟩⟩
theorem NS.new (W : World) (t1 t2 t3 : TypeId) (Ao : Option Addr) (q co gc : Nat) : NS W ((((W.alloc (.map #[] 0)).alloc (.cells #[.slice Ao q co] t1)).alloc (.cells #[.map (some W.heap.size)] t2)).alloc (.cells #[.func (.func 67) #[] #[.pointer (some ⟨W.heap.size + 1, 0, none⟩), .pointer (some ⟨gc, 0, none⟩), .pointer (some ⟨W.heap.size + 1 + 1, 0, none⟩), .pointer (some ⟨W.heap.size + 1 + 1 + 1, 0, none⟩)]] t3)) (W.heap.size + 1) (W.heap.size + 1 + 1) (W.heap.size + 1 + 1 + 1) Ao q co gc fun _ => false :=
  ⟨(((bl_a _).alloc (by simp) _).alloc (by simp <;> omega) _).alloc (by simp <;> omega) _, (((mapJ_made W).alloc _).alloc _).alloc _, by go_simp, by go_simp, by go_simp, ⟨by omega, by simp <;> omega⟩, ⟨by omega, by simp <;> omega⟩, ⟨by omega, by simp <;> omega⟩⟩
theorem Np_none (o : List Nat) : Np o (fun _ => false) = fun _ => False := by
  funext p; apply propext
  constructor
  · rintro ⟨_, h⟩; cases h
  · intro h; exact False.elim h
set_option maxRecDepth 100000 in
set_option maxHeartbeats 6400000 in
theorem impl_ProofOf (A : Option Addr) (m c : Nat) (ds : List Rl) (B : Option Addr) (k d : Nat) (fs : List Int) (day : Int) (x : Int) (w : World) (hr : RsRd w w.heap.size A m ds) (hz : szD ds ≤ 1048576) (hb : ∀ d ∈ ds, RlB d) (hf : Rd w w.heap.size 1 B k (ints fs)) (hk : k ≤ 1048576) (hfs : I64s fs)
    (hday : -9223372036854775808 ≤ day ∧ day ≤ 9223372036854775807) (hx : -9223372036854775808 ≤ x ∧ x ≤ 9223372036854775807) :
    Calls Try.prog 31 #[.slice A m c, .slice B k d, .int .i64 day, .int .i64 x] w (SlEnds w (ProofOf_r0 ds fs day x) (ProofOf_r1 ds fs day x)) := by
  have HR := Lib.hid hr
  have HZ := Lib.hid hz
  have HRB := Lib.hid hb
  have HF := Lib.hid hf
  have HFS := Lib.hid hfs
  have hml := hr.len
  have hmz : m ≤ 1048576 := sz_len hz hml
  clear hr hz hb hf hfs
  cases h1 : courtOk ds fs day
  case false =>
    have hfin := Lib.hid (po_no ds fs day x (by unfold poOk; rw [h1]; rfl))
    go_enter Try.func31, Try.ntmps31
    go_wp2_with fail
    refine (areFacts_is _ _ _ _ _ _ _ _ _ _ HR.out HZ.out HRB.out HF.out hk HFS.out hday h1).mono ?_
    rintro e w1 ⟨rfl, hb1⟩
    go_wp2_with fail
    go_ret2
    rw [hfin.out.1, hfin.out.2]
    exact sl_no hb1
  cases h2 : wordB x
  case false =>
    have hfin := Lib.hid (po_no ds fs day x (by unfold poOk; rw [h2]; simp))
    go_enter Try.func31, Try.ntmps31
    go_wp2_with fail
    refine (areFacts_is _ _ _ _ _ _ _ _ _ _ HR.out HZ.out HRB.out HF.out hk HFS.out hday h1).mono ?_
    rintro e w1 ⟨rfl, hb1⟩
    go_wp2_with (go_at_call 41; refine (isWord_is h2 _).mono ?_; rintro e w' ⟨rfl, rfl⟩)
    go_ret2
    rw [hfin.out.1, hfin.out.2]
    exact sl_no hb1
  have H1 := Lib.hid h1
  have H2 := Lib.hid h2
  have HML := Lib.hid hml
  have h24 := rulesB_len (courtOk_iff.1 h1).1
  have HM24 := Lib.hid (show m ≤ 24 by omega)
  clear h1 h2 hml h24
  have hmf := run_makeFn
  have hmm := @run_makeMap Try.prog
  go_enter Try.func31, Try.ntmps31
  go_wp2_with fail
  refine (areFacts_is _ _ _ _ _ _ _ _ _ _ HR.out HZ.out HRB.out HF.out hk HFS.out hday H1.out).mono ?_
  rintro e w1 ⟨rfl, hb1⟩
  have HB1 := Lib.hid hb1
  clear hb1
  go_wp2_with (go_at_call 41; refine (isWord_is H2.out _).mono ?_; rintro e w' ⟨rfl, rfl⟩)
  refine (judged_rs _ _ _ ds _ _ _ fs day _ (HR.out.on HB1.out) HZ.out HRB.out (HF.out.on HB1.out) hk H1.out).mono ?_
  rintro e WJ ⟨cb, A9, m9, c9, bp, bn, rs9, I9, ci9, rfl, hC, hdat, hcb, hb2, hci, hri⟩
  have HBJ := Lib.hid (below_step HB1.out hb2)
  have HDT := Lib.hid hdat
  have hba := bl_a (w := WJ) (.cells #[.pointer (some ⟨cb, 0, none⟩)] 75)
  have HBA := Lib.hid (below_step HBJ.out hba)
  have hCA := hC.on hba
  have HCA := Lib.hid hCA
  have HCI := Lib.hid ((hba.cell (p := ⟨cb, 1, none⟩) hC.lt).trans hci)
  have HRI := Lib.hid (hri.on hba)
  have hgc : (WJ.alloc (.cells #[.pointer (some ⟨cb, 0, none⟩)] 75)).cell? ⟨WJ.heap.size, 0, none⟩ = some (.pointer (some ⟨cb, 0, none⟩)) := cell_new _ _ _
  have HGC := Lib.hid hgc
  have HGL := Lib.hid (show WJ.heap.size < (WJ.alloc (.cells #[.pointer (some ⟨cb, 0, none⟩)] 75)).heap.size by simp)
  have hy := hCA.my.look hx
  have e3 := hCA.c3
  clear hC hb2 hdat hcb hci hri hba hCA HB1 hgc
  cases hyb : yesB ds fs day x
  case false =>
    have hfin := Lib.hid (po_no ds fs day x (by unfold poOk; rw [hyb]; simp))
    rw [hyb] at hy
    clear hyb
    go_wp2_with fail
    go_ret2
    rw [hfin.out.1, hfin.out.2]
    exact sl_no HBA.out
  case true =>
  have HFIN := Lib.hid (po_yes ds fs day x H1.out H2.out hyb)
  rw [hyb] at hy
  clear hyb
  go_wp2_with fail
  have HV := Lib.hid (show ∀ r ∈ rs9, (∀ z ∈ r.ifs, wordB z = true) ∧ wordB r.hd = true from fun r hr => by
    have h1 : r.dat ∈ actF ds day := by rw [← HDT.out]; exact List.mem_map_of_mem hr
    exact valid_ifs (courtOk_iff.1 H1.out).1 (actF_mem h1))
  have HM9 := Lib.hid (show m9 = (actF ds day).length by rw [← HDT.out, List.length_map]; exact HCA.out.rr.len.symm)
  have hm9 : m9 ≤ 24 := by
    have h1 : (actF ds day).length ≤ ds.length := by unfold actF; exact List.length_filter_le _ _
    have h2 := HM9.out
    have h3 := HML.out
    have h4 := HM24.out
    omega
  clear hy e3
  obtain ⟨gc, hgc⟩ : ∃ g, g = WJ.heap.size := ⟨_, rfl⟩
  rw [← hgc] at HGC HGL ⊢
  generalize (WJ.alloc (.cells #[.pointer (some ⟨cb, 0, none⟩)] 75)) = W1 at HBA HCA HCI HRI HGC HGL ⊢
  clear hgc HBJ
  refine (taken_is _ HCA.out HV.out hm9).mono ?_
  rintro e W2 ⟨Ao, q, co, rfl, hq, ho2, hb2⟩
  rw [HDT.out] at hq ho2
  have hq' : q = (iO ds fs day).length := by unfold iO; exact hq
  have ho' : W2.ownsRow W1.heap.size tJ 1 (.slice Ao q co) q (ints (natI (iO ds fs day))) := by unfold iO; exact ho2
  have HQ := Lib.hid hq'
  have HQ24 := Lib.hid (show q ≤ 24 by have h := (iO_I ds fs day).len; rw [← HM9.out, ← hq'] at h; omega)
  have HRO := Lib.hid (Rd.of_own ho')
  have HB2 := Lib.hid (below_step HBA.out hb2)
  have HC2 := Lib.hid (HCA.out.on hb2)
  have HGC2 := Lib.hid ((hb2.cell (p := ⟨gc, 0, none⟩) HGL.out).trans HGC.out)
  have HGL2 := Lib.hid (Nat.lt_of_lt_of_le HGL.out hb2.size)
  have HCI2 := Lib.hid ((hb2.cell (p := ⟨cb, 1, none⟩) HCA.out.lt).trans HCI.out)
  have HRI2 := Lib.hid (HRI.out.on hb2)
  clear hq hq' ho2 ho' hb2 HBA HCA HGC HGL HCI HRI
  have HNS0 := Lib.hid (NS.new W2 85 tMJ 88 Ao q co gc)
  go_wp2_with fail
  refine (need_is W2 HC2.out HV.out hm9 gc HGC2.out HGL2.out Ao q co (iO ds fs day) HRO.out (by have := HQ24.out; omega) (fun i hi => by have := (iO_I ds fs day).lt i hi; have := HM9.out; omega) (iO_I ds fs day).nd (W2.heap.size + 1) (W2.heap.size + 1 + 1) (W2.heap.size + 1 + 1 + 1) _ x (fun _ => false) _ H2.out HNS0.out rfl).mono ?_
  rintro e w3 ⟨rfl, kn, hN, _, hD⟩
  rw [HDT.out, pT_is, Np_none] at hD
  have HKN := Lib.hid (fun p (h : p < (iO ds fs day).length) => show kn ((iO ds fs day)[p] : Int) = needB (pT ds fs day) (facB fs) x p by
    rw [Bool.eq_iff_iff, needB_iff, ← hD.all p]
    exact ⟨fun e => ⟨h, e⟩, fun ⟨_, e⟩ => e⟩)
  obtain ⟨go, hgo⟩ : ∃ g, g = W2.heap.size + 1 := ⟨_, rfl⟩
  obtain ⟨gn, hgn⟩ : ∃ g, g = W2.heap.size + 1 + 1 := ⟨_, rfl⟩
  obtain ⟨gf, hgf⟩ : ∃ g, g = W2.heap.size + 1 + 1 + 1 := ⟨_, rfl⟩
  rw [← hgf, ← hgn, ← hgo] at hN ⊢
  have HN := Lib.hid hN
  have HN1 := Lib.hid (hN.on (bl_a (w := w3) (.cells #[] tI)))
  have e1 := HN1.out.co
  clear hN hD HNS0 hgo hgn hgf
  go_wp2_with fail
  clear e1
  go_loopw [14, 16, 48] (fun v _ i wr => ∃ j : Nat, j ≤ q ∧ i = .int .i64 j ∧ wr.ownsRow w3.heap.size tI 1 v (pOut ds fs day x j).length (ints (natI (pOut ds fs day x j))) ∧ Below w3.heap.size w3 wr) (fun _ _ i _ => q - (intOf i).toNat)
  case atStart => exact ⟨0, Nat.zero_le _, rfl, by rw [pOut_zero, natI_nil]; exact own_empty w3 tI, bl_a _⟩
  case round =>
    clear HN1
    obtain ⟨j, hj, rfl, hO, hB⟩ := hrel
    have HO := Lib.hid hO
    have HB := Lib.hid hB
    have HNR := Lib.hid (HN.out.on hB)
    clear hO hB
    by_cases hlt : j < q
    · have hlo : j < (iO ds fs day).length := by rw [← HQ.out]; exact hlt
      obtain ⟨ad, rfl, hcp⟩ := (HRO.out.below HNR.out.be).int hlt
      rw [natI_get hlo] at hcp
      have him : (iO ds fs day)[j] < m9 := by rw [HM9.out]; exact (iO_I ds fs day).lt _ (List.getElem_mem hlo)
      have hkn := HKN.out j hlo
      have hag := actTo_get ds fs day hlo
      rw [HML.out] at hag
      have HLEN := Lib.hid (pOut_len ds fs day x j)
      obtain ⟨i, hi⟩ : ∃ i, i = (iO ds fs day)[j] := ⟨_, rfl⟩
      rw [← hi] at hcp him hkn hag
      have hi6 : I64b (i : Int) := by unfold I64b; omega
      have hlk := HNR.out.mp.look hi6
      have e2 := HNR.out.cn
      have i1 : (0 : Int) ≤ j := by omega
      have i2 : (j : Int) < q := by omega
      have hq24 := HQ24.out
      have HKNJ := Lib.hid hkn
      have HAG := Lib.hid hag
      have HIM := Lib.hid him
      clear hlo hi hkn hag him
      cases hkb : kn (i : Int)
      · rw [hkb] at hlk
        have hst := Lib.hid (pOut_no ds fs day x (k := j) (by rw [← HKNJ.out, hkb]))
        clear hkb
        go_wp2_with fail
        go_roundw
        case rel => exact ⟨j + 1, by omega, by go_num, by rw [hst.out]; exact HO.out, HB.out⟩
        case measure => simp [intOf]; omega
      · rw [hkb] at hlk
        have hst := Lib.hid (pOut_yes ds fs day x (k := j) (by rw [← HKNJ.out, hkb]))
        have e3 := (HNR.out.be.cell (p := ⟨gc, 0, none⟩) HGL2.out).trans HGC2.out
        have e4 := (HNR.out.be.cell (p := ⟨cb, 1, none⟩) HC2.out.lt).trans HCI2.out
        obtain ⟨a2, rfl, hcz⟩ := (HRI2.out.below HNR.out.be).int HIM.out
        rw [HAG.out] at hcz
        have i3 : (0 : Int) ≤ i := by omega
        have i4 : (i : Int) < m9 := by have := HIM.out; omega
        obtain ⟨z, hz⟩ : ∃ z, z = (pO ds fs day)[j]?.getD 0 := ⟨_, rfl⟩
        rw [← hz] at hcz hst
        clear hkb hz
        go_wp2_with (at_builtin; refine append_int rfl (.tmp 55) (.tmp 63) rfl w3 _ _ _ rfl (World.ownsRow.alloc HO.out _) (Below.alloc HB.out (Below.size HB.out) _) _ _ (z : Int) rfl (cell_new _ _ _) (by have := HLEN.out; have := HQ24.out; omega) ?_; intro v' w' ho2 hb2)
        go_roundw
        case rel => exact ⟨j + 1, by omega, by go_num, by rw [hst.out, natI_append, natI_one, List.length_append]; exact ho2, hb2⟩
        case measure => simp [intOf]; omega
    · obtain rfl : q = j := by omega
      have hq2 : q = (pO ds fs day).length := by rw [pO_iO, ← HQ.out]
      have HQ2 := Lib.hid hq2
      clear hq2
      go_wp2_with fail
      go_ret2
      rw [HFIN.out.1, HFIN.out.2, ← HQ2.out]
      exact sl_yes (natI_length _) (own_base HO.out (Nat.le_trans HB2.out.size HN.out.be.size)) (below_step (below_step HB2.out HN.out.be) HB.out)
end Go.Proofs.Ytinocfehjdlohaa
namespace Go.Proofs.Ytinocfehjdlohaa
open Go.ChangeShapes Go.WideShapes Go.ChangeAt Go.RowKit Go.Deep
set_option linter.unusedVariables false
set_option linter.unusedSimpArgs false

theorem grown_set (W : World) (b i : Nat) (v : Value) : W.grownBy (W.setCell ⟨b, i, none⟩ v) (some b) := by
  refine ⟨rfl, rfl, rfl, by simp [World.setCell], fun k _ hk => ?_⟩
  have : b ≠ k := fun h => hk (by rw [h])
  simp [World.setCell, Array.getElem?_modify, this]
theorem KA.on {W w w' : World} {g : Nat} {p : Int → Bool} (h : KA W w g p) (hb : Below w.heap.size w w') : KA W w' g p :=
  ⟨Nat.lt_of_lt_of_le h.lt hb.size, fun z hz => (hb.cell (p := ⟨g, placeOf z, none⟩) h.lt).trans (h.c z hz), fun i hi => (World.frozen?_of_block (hb.block g h.lt)).trans (h.fz i hi), h.hg, below_step h.be hb⟩
theorem KA.grow {W w w' : World} {g : Nat} {p : Int → Bool} {row : Option Nat} (h : KA W w g p) (hg : w.grownBy w' row) (hr : ∀ k, row = some k → k ≠ g ∧ W.heap.size ≤ k) : KA W w' g p :=
  have e : w'.heap[g]? = w.heap[g]? := hg.block g h.lt fun e => (hr g e.symm).1 rfl
  ⟨Nat.lt_of_lt_of_le h.lt hg.size, fun z hz => (World.cell?_of_block (a := ⟨g, placeOf z, none⟩) e).trans (h.c z hz), fun i hi => (World.frozen?_of_block (a := ⟨g, i, none⟩) e).trans (h.fz i hi), h.hg, below_grown h.be hg fun k hk => (hr k hk).2⟩
theorem St.on {w w' : World} {sb : Nat} {y n f : Int → Bool} (h : St w sb y n f) (hb : Below w.heap.size w w') : St w' sb y n f :=
  ⟨Nat.lt_of_lt_of_le h.lt hb.size, fun x hx => (hb.cell (p := ⟨sb, placeOf x, none⟩) h.lt).trans (h.yes x hx), fun x hx => (hb.cell (p := ⟨sb, 32 + placeOf x, none⟩) h.lt).trans (h.no x hx), fun x hx => (hb.cell (p := ⟨sb, 64 + placeOf x, none⟩) h.lt).trans (h.fact x hx), fun i hi => (World.frozen?_of_block (hb.block sb h.lt)).trans (h.fz i hi)⟩
abbrev tK : TypeId := 69
/-- the reference's rounds: the marks of the known words, the places taken -/
structure KT (W w : World) (g : Nat) (p : Int → Bool) (v : Value) (o : List Nat) : Prop where
  ka : KA W w g p
  ow : w.ownsRow W.heap.size tI 1 v o.length (ints (natI o))
  bx : ∃ cs fz, w.heap[g]? = some (.cells cs tK fz)
section
variable {W w w' : World} {g : Nat} {p : Int → Bool} {v v' : Value} {o o' : List Nat}
theorem KT.on (h : KT W w g p v o) (hb : Below w.heap.size w w') : KT W w' g p v o := by
  obtain ⟨c1, f1, h1⟩ := h.bx
  exact ⟨h.ka.on hb, own_on h.ow hb, ⟨c1, f1, (hb.block g h.ka.lt).trans h1⟩⟩
theorem KT.far (h : KT W w g p v o) : some g ≠ v.ownBlock := ne_kind h.ow h.bx (by decide)
theorem KT.put {z : Int} (h : KT W w g p v o) (hz : wordB z = true) : KT W (w.setCell ⟨g, placeOf z, none⟩ (.bool true)) g (putB p z) v o := by
  obtain ⟨c1, f1, h1⟩ := h.bx
  refine ⟨h.ka.put hz, World.ownsRow.kept h.ow (grown_set _ _ _ _) (.inr fun e => h.far e.symm), ?_⟩
  refine ⟨c1.setIfInBounds (placeOf z) (.bool true), f1, ?_⟩
  simp [World.setCell, Array.getElem?_modify, h1]
theorem KT.app (h : KT W w g p v o) (hg : w.grownBy w' v.ownBlock) (ho : w'.ownsRow W.heap.size tI 1 v' o'.length (ints (natI o'))) : KT W w' g p v' o' := by
  obtain ⟨c1, f1, h1⟩ := h.bx
  exact ⟨h.ka.grow hg fun k hk => ⟨fun e => h.far (by rw [← e]; exact hk.symm), (h.ow.lt k hk).1⟩, ho, ⟨c1, f1, (hg.block g h.ka.lt h.far).trans h1⟩⟩
end
def boolN : Value → Nat
  | .bool true => 1
  | _ => 0
theorem tkKn_nil (fac : Int → Bool) (rs : List Rl) : tkKn fac rs [] = fac := by funext z; simp [tkKn]
theorem tkKn_put (fac : Int → Bool) (rs : List Rl) (o : List Nat) (i : Nat) : putB (tkKn fac rs o) (tAt rs i).hd = tkKn fac rs (o ++ [i]) := by
  funext z
  unfold putB tkKn
  rw [List.any_append]
  by_cases e : z = (tAt rs i).hd
  · subst e; simp
  · have : ((tAt rs i).hd == z) = false := by rw [beq_eq_false_iff_ne]; exact fun h => e h.symm
    simp [e, this]
theorem take_snocN (l : List Nat) (s : Nat) (h : s < l.length) : l.take (s + 1) = l.take s ++ [l[s]] := by
  rw [List.take_add_one, List.getElem?_eq_getElem h]; rfl
theorem setCells_obj {t : TypeId} (g : Nat) : ∀ (us : List Value) (o : Nat) (a : World), (∃ cs fz, a.heap[g]? = some (.cells cs t fz)) → ∃ cs fz, (a.setCells g o us).heap[g]? = some (.cells cs t fz)
  | [], _, _, h => h
  | u :: us, o, a, ⟨cs, fz, h⟩ => setCells_obj g us (o + 1) _ ⟨cs.setIfInBounds o u, fz, by simp [World.setCell, Array.getElem?_modify, h]⟩
/-- append of any slice of numbers: what it leaves -/
theorem append_intsG {ops : Array Oper} {rest : List Oper} {o : Oper} {a : Act} {Q : Exit → Act → World → Prop} {w1 : World} (hgd : o.guard = none) (s x : Operand)
    (ho : o.op = .call { callee := .builtin .append, args := #[s, x], argTypes := #[24, 24] }) (W : World) (v : Value) (n : Nat) (zs : List Int) (hs : a.eval s = v)
    (hown : w1.ownsRow W.heap.size 2 1 v n (ints zs)) (hb : Below W.heap.size W w1) (A : Option Addr) (m c : Nat) (ys : List Int) (hx : a.eval x = .slice A m c) {B : Nat} (hr : Rd w1 B 1 A m (ints ys)) (hn : n + m ≤ 4194304)
    (h : ∀ v' w', w'.ownsRow W.heap.size 2 1 v' (n + m) (ints (zs ++ ys)) → w1.grownBy w' v.ownBlock → wpList Try.prog ops Q rest (a.put o.dst v') w') : wpList Try.prog ops Q (o :: rest) a w1 := by
  cases A with
  | some ad => exact append_ints_g hgd s x ho W v n zs hs hown hb ad m c ys hx hr hn fun v' w' h1 _ _ h2 => h v' w' h1 h2
  | none =>
    obtain rfl : m = 0 := by
      rcases Nat.eq_zero_or_pos m with h0 | h0
      · exact h0
      · obtain ⟨ad, e, _⟩ := hr.2 h0; cases e
    obtain rfl : ys = [] := by have := hr.ilen; exact List.length_eq_zero_iff.1 (by omega)
    obtain ⟨A', c', rfl, hle, _⟩ := own_form hown
    obtain ⟨i0, hi, hz0, hz1, hz2⟩ := info_parts info_int
    refine wpList_plain hgd fun K hK => ?_
    have hrun := run_append_nothing (P := Try.prog) w1 24 24 o.type 2 i0 Try.underlying24 hi A' n c' hle (.slice none 0 c) (Src.ofNil w1 Try.underlying24 c)
    unfold Oper.wp execOp
    simp only [ho, resolve, invoke, builtin, Sem.run_bind, Sem.run_pure, Result.andThen_ok, List.map_toArray, List.map_cons, List.map_nil, hs, hx, hrun]
    exact hK _ _ (h _ w1 (by simpa using hown) ⟨rfl, rfl, rfl, Nat.le_refl _, fun _ _ _ => rfl⟩)
set_option maxRecDepth 100000 in
set_option maxHeartbeats 6400000 in
theorem l05Taken_is (A : Option Addr) (m c : Nat) (ds : List Rl) (fs : List Int) (day : Int) (sb : Nat) (w : World) (hr : RsRd w w.heap.size A m ds) (hz : szD ds ≤ 1048576) (hrb : ∀ d ∈ ds, RlB d) (hok : courtOk ds fs day = true) (hS : St w sb (yesB ds fs day) (noB ds fs day) (facB fs)) :
    Calls Try.prog 65 #[.slice A m c, .int .i64 day, .pointer (some ⟨sb, 0, none⟩)] w fun e w' => ∃ v, e = .returned v ∧ w'.ownsRow w.heap.size tI 1 v (pO ds fs day).length (ints (natI (pO ds fs day))) ∧ Below w.heap.size w w' := by
  have hml := hr.len
  have h24 := rulesB_len (courtOk_iff.1 hok).1
  have HML := Lib.hid hml
  have hm : m ≤ 24 := by omega
  obtain ⟨rs, hrr, hdat⟩ := hr
  have HRR := Lib.hid hrr
  have HD := Lib.hid hdat
  have HRN := Lib.hid (ruN_of hrr.nlen (by rw [hdat]; exact hz) (by rw [hdat]; exact hrb))
  have HV := Lib.hid (fun r (hr : r ∈ rs) => valid_ifs (courtOk_iff.1 hok).1 (d := Ru.dat r) (by rw [← hdat]; exact List.mem_map_of_mem hr))
  have HS := Lib.hid hS
  have HLT := Lib.hid hS.lt
  obtain ⟨y, hy⟩ : ∃ y, y = yesB ds fs day := ⟨_, rfl⟩
  obtain ⟨pre, hpre⟩ : ∃ p : Nat → Bool, p = fun i => onB (tAt ds i) day := ⟨_, rfl⟩
  have HPO := Lib.hid (show pO ds fs day = tk ds y (facB fs) pre by rw [hy, hpre]; unfold pO; rfl)
  rw [← hy] at HS
  have HPRE := Lib.hid (fun i => (congrFun hpre i : pre i = onB (tAt ds i) day))
  rw [HPO.out]
  clear hrr hdat hS hml h24 hy hpre hz hrb HPO
  have OO := Lib.hid (own_empty w tI)
  obtain ⟨w1, hw1⟩ : ∃ w1, w1 = w.alloc (.cells #[] tI) := ⟨_, rfl⟩
  have HB1 := Lib.hid (show Below w.heap.size w w1 by rw [hw1]; exact bl_a _)
  have HSZ := Lib.hid (show w1.heap.size = w.heap.size + 1 by rw [hw1]; simp)
  have HRG := Lib.hid (fact_range (HS.out.on HB1.out))
  have HKA := Lib.hid (KA.new w1 tK fs)
  have HTH := Lib.hid (fls_there2 w1 tK fs)
  rw [hw1] at HRG HKA HTH
  go_enter Try.func65, Try.ntmps65
  go_wp2_with (first
    | (refine wpList_load_mid rfl tK (.tmp 20) rfl sb 64 rfl (factL fs) _ HRG.out Try.underlying69 rfl (fact_info fs) ?_)
    | (refine wpList_run rfl (.pointer (some ⟨(w.alloc (.cells #[] tI)).heap.size, 0, none⟩)) (alloc_run _ rfl _ _) ?_)
    | (refine wpList_store_mid rfl tK (.tmp 8) (.tmp 21) rfl (w.alloc (.cells #[] tI)).heap.size 0 (factL fs).toArray rfl rfl HTH.out (fact_info fs) (fact_one fs) ?_))
  obtain ⟨g, hg⟩ : ∃ g, g = w.heap.size + 1 := ⟨_, rfl⟩
  have T0 := Lib.hid (show KT w (((w.alloc (.cells #[] tI)).alloc (.cells fls tK)).setCells (w.alloc (.cells #[] tI)).heap.size 0 (factL fs).toArray.toList) (w.alloc (.cells #[] tI)).heap.size (tkKn (facB fs) ds []) (.slice (some ⟨w.heap.size, 0, none⟩) 0 0) [] from by
    rw [tkKn_nil]
    have h := HKA.out
    exact ⟨⟨h.lt, h.c, h.fz, by simp, below_step (bl_a _) h.be⟩, by rw [natI_nil]; exact own_on OO.out h.be, setCells_obj _ _ _ _ ⟨_, _, alloc_obj _ _⟩⟩)
  rw [World.size_alloc, ← hg] at T0
  rw [← hg]
  generalize (((w.alloc (.cells #[] tI)).alloc (.cells fls tK)).setCells g 0 (factL fs).toArray.toList) = w0 at T0 ⊢
  clear HRG HKA HTH HB1 HSZ hw1 hg OO
  go_loopw [7, 9, 10, 11, 12, 13, 14, 15, 16, 26, 68, 93] (fun v more _ _ _ _ _ _ _ _ _ _ wr => ∃ (b : Bool) (o : List Nat), more = .bool b ∧ KT w wr g (tkKn (facB fs) ds o) v o ∧ TkI ds (facB fs) o ∧ (b = true → ∃ f, tk ds y (facB fs) pre = tkRun ds y (facB fs) pre (f + 1) o ∧ ds.length < f + 1 + o.length) ∧ (b = false → tk ds y (facB fs) pre = o)) (fun v more _ _ _ _ _ _ _ _ _ _ _ => 2 * (m + 1 - slN v) + boolN more)
  case atStart => exact ⟨true, [], rfl, T0.out, .nil, fun _ => ⟨ds.length, tk_eq _ _ _ _, by simp⟩, fun h => by cases h⟩
  case round =>
    clear T0
    obtain ⟨b, o, rfl, hT, hI, hgo, hend⟩ := hrel
    have TT := Lib.hid hT
    have HTI := Lib.hid hI
    have HGO := Lib.hid hgo
    have HEND := Lib.hid hend
    clear hT hI hgo hend
    cases b
    case false =>
      have hfin := HEND.out rfl
      have HFIN := Lib.hid hfin
      clear hfin
      go_wp2_with fail
      go_ret
      refine ⟨_, rfl, ?_, TT.out.ka.be⟩
      rw [HFIN.out]
      exact TT.out.ow
    case true =>
    clear HEND
    obtain ⟨f, hgo, hfu⟩ := HGO.out rfl
    have HTK := Lib.hid hgo
    have HFU := Lib.hid hfu
    clear HGO hgo hfu
    have OH := Lib.hid (own_empty wr tI)
    have HOL := Lib.hid (show o.length ≤ 24 by have := HTI.out.len; have := HML.out; omega)
    obtain ⟨Ao, co, rfl, _, _⟩ := own_form TT.out.ow
    obtain ⟨q, hq⟩ : ∃ q, q = o.length := ⟨_, rfl⟩
    rw [← hq]
    have hq2 : q ≤ 2097152 := by have := HOL.out; omega
    have HQ := Lib.hid hq
    rw [← hq] at TT
    obtain ⟨w1, hw1⟩ : ∃ w1, w1 = wr := ⟨_, rfl⟩
    rw [← hw1] at TT OH ⊢
    clear hw1 hq
    go_wp2_with fail
    go_loopw [10, 11, 12, 13, 14, 15, 26, 68] (fun h _ _ _ _ _ i _ wx => ∃ t : Nat, t ≤ m ∧ i = .int .i64 t ∧ Below w1.heap.size w1 wx ∧ wx.ownsRow w1.heap.size tI 1 h (tkTo ds y (facB fs) pre o t).length (ints (natI (tkTo ds y (facB fs) pre o t)))) (fun _ _ _ _ _ _ i _ _ => m - (intOf i).toNat)
    case atStart => exact ⟨0, Nat.zero_le _, rfl, bl_a _, by rw [tkTo_zero, natI_nil]; exact OH.out⟩
    case round =>
      clear OH
      obtain ⟨t, ht, rfl, hb, hO⟩ := hrel
      have HB := Lib.hid hb
      have OH := Lib.hid hO
      clear hb hO
      have HWX := Lib.hid (below_step TT.out.ka.be HB.out)
      have TX := Lib.hid (TT.out.on HB.out)
      obtain ⟨w2, hw2⟩ : ∃ w2, w2 = wr := ⟨_, rfl⟩
      rw [← hw2] at HB OH HWX TX ⊢
      clear hw2
      by_cases hlt : t < m
      · obtain ⟨ad, r, rfl, hrk, ha, hri⟩ := (HRR.out.below HWX.out).at hlt
        have hdk : tAt ds t = r.dat := by unfold tAt; rw [← HD.out]; exact dat_at hrk
        have hvi := HV.out r (List.mem_of_getElem? hrk)
        have hcond : tkCond ds y (facB fs) pre o t = (onB r.dat day && (!o.contains t && (y r.dat.hd && (!facB fs r.dat.hd && r.dat.ifs.all (tkKn (facB fs) ds o))))) := by unfold tkCond; rw [HPRE.out, hdk]
        have hrn := (HRN.out r (List.mem_of_getElem? hrk)).1
        have HLI := Lib.hid hri.ilen
        have HRI := Lib.hid hri
        obtain ⟨hd, fr, tt, rk, Ai, ni, ci, ifs⟩ := r
        simp only at hrn
        have hwd : wordB hd = true := hvi.2
        have HWD := Lib.hid hwd
        have HVI := Lib.hid (show ∀ z ∈ ifs, wordB z = true from hvi.1)
        have HCOND := Lib.hid (show tkCond ds y (facB fs) pre o t = (onB ⟨hd, ifs, fr, tt, rk⟩ day && (!o.contains t && (y hd && (!facB fs hd && ifs.all (tkKn (facB fs) ds o))))) from hcond)
        have HA := Lib.hid ha
        obtain ⟨c0, c1', c2, c3, c4⟩ := ha
        simp only at c0 c1' c2 c3 c4
        have hSx := HS.out.on HWX.out
        have s1 := hSx.yes hd hwd
        have s3 := hSx.fact hd hwd
        have p1 : (placeOf hd : Int) < 32 := by have := place_lt hwd; omega
        have p2 : (0 : Int) ≤ placeOf hd := by omega
        have HRO := Lib.hid (show Rd w2 w2.heap.size 1 Ao q (ints (natI o)) from by have h := TX.out.ow; rw [← HQ.out] at h; exact Rd.of_own h)
        have i1 : (0 : Int) ≤ t := by omega
        have i2 : (t : Int) < m := by omega
        clear hri hdk hvi hcond hwd hSx hrk
        cases hon : onB ⟨hd, ifs, fr, tt, rk⟩ day
        case false =>
          have HON := Lib.hid hon
          have hst := Lib.hid (show tkTo ds y (facB fs) pre o (t + 1) = tkTo ds y (facB fs) pre o t by rw [tkTo_succ, if_neg (by rw [HCOND.out, hon]; simp)])
          clear hon
          go_wp2_with (first | (go_at_call 53; refine (l05Place_is hd _ HWD.out).mono ?_; rintro e w' ⟨rfl, rfl⟩) | (go_at_call 37; refine (l05On_is (ad.add (t * 5)) ⟨hd, fr, tt, rk, Ai, ni, ci, ifs⟩ day _ HA.out HON.out).mono ?_; rintro e w' ⟨rfl, rfl⟩) | (go_at_call 88; refine (l00Has_is Ao q co (natI o) t _ HRO.out hq2 HHAS.out).mono ?_; rintro e w' ⟨rfl, rfl⟩))
          go_roundw
          case rel => exact ⟨t + 1, by omega, by go_num, HB.out, by rw [hst.out]; exact OH.out⟩
          case measure => simp [intOf]; omega
        have HON := Lib.hid hon
        cases hhas : o.contains t
        case true =>
          have HHAS := Lib.hid (show hasI (natI o) t = true by rw [hasI_nat]; exact hhas)
          have hst := Lib.hid (show tkTo ds y (facB fs) pre o (t + 1) = tkTo ds y (facB fs) pre o t by rw [tkTo_succ, if_neg (by rw [HCOND.out, hhas]; simp)])
          clear hon hhas
          go_wp2_with (first | (go_at_call 53; refine (l05Place_is hd _ HWD.out).mono ?_; rintro e w' ⟨rfl, rfl⟩) | (go_at_call 37; refine (l05On_is (ad.add (t * 5)) ⟨hd, fr, tt, rk, Ai, ni, ci, ifs⟩ day _ HA.out HON.out).mono ?_; rintro e w' ⟨rfl, rfl⟩) | (go_at_call 88; refine (l00Has_is Ao q co (natI o) t _ HRO.out hq2 HHAS.out).mono ?_; rintro e w' ⟨rfl, rfl⟩))
          go_roundw
          case rel => exact ⟨t + 1, by omega, by go_num, HB.out, by rw [hst.out]; exact OH.out⟩
          case measure => simp [intOf]; omega
        have HHAS := Lib.hid (show hasI (natI o) t = false by rw [hasI_nat]; exact hhas)
        cases hye : y hd
        case false =>
          have hst := Lib.hid (show tkTo ds y (facB fs) pre o (t + 1) = tkTo ds y (facB fs) pre o t by rw [tkTo_succ, if_neg (by rw [HCOND.out, hye]; simp)])
          rw [hye] at s1
          clear hon hhas hye
          go_wp2_with (first | (go_at_call 53; refine (l05Place_is hd _ HWD.out).mono ?_; rintro e w' ⟨rfl, rfl⟩) | (go_at_call 37; refine (l05On_is (ad.add (t * 5)) ⟨hd, fr, tt, rk, Ai, ni, ci, ifs⟩ day _ HA.out HON.out).mono ?_; rintro e w' ⟨rfl, rfl⟩) | (go_at_call 88; refine (l00Has_is Ao q co (natI o) t _ HRO.out hq2 HHAS.out).mono ?_; rintro e w' ⟨rfl, rfl⟩))
          go_roundw
          case rel => exact ⟨t + 1, by omega, by go_num, HB.out, by rw [hst.out]; exact OH.out⟩
          case measure => simp [intOf]; omega
        rw [hye] at s1
        cases hfa : facB fs hd
        case true =>
          have hst := Lib.hid (show tkTo ds y (facB fs) pre o (t + 1) = tkTo ds y (facB fs) pre o t by rw [tkTo_succ, if_neg (by rw [HCOND.out, hfa]; simp)])
          rw [hfa] at s3
          clear hon hhas hye hfa
          go_wp2_with (first | (go_at_call 53; refine (l05Place_is hd _ HWD.out).mono ?_; rintro e w' ⟨rfl, rfl⟩) | (go_at_call 37; refine (l05On_is (ad.add (t * 5)) ⟨hd, fr, tt, rk, Ai, ni, ci, ifs⟩ day _ HA.out HON.out).mono ?_; rintro e w' ⟨rfl, rfl⟩) | (go_at_call 88; refine (l00Has_is Ao q co (natI o) t _ HRO.out hq2 HHAS.out).mono ?_; rintro e w' ⟨rfl, rfl⟩))
          go_roundw
          case rel => exact ⟨t + 1, by omega, by go_num, HB.out, by rw [hst.out]; exact OH.out⟩
          case measure => simp [intOf]; omega
        rw [hfa] at s3
        have HALL := Lib.hid (show tkCond ds y (facB fs) pre o t = ifs.all (tkKn (facB fs) ds o) by rw [HCOND.out, hon, hhas, hye, hfa]; simp)
        clear hon hhas hye hfa HCOND
        go_wp2_with (first | (go_at_call 53; refine (l05Place_is hd _ HWD.out).mono ?_; rintro e w' ⟨rfl, rfl⟩) | (go_at_call 37; refine (l05On_is (ad.add (t * 5)) ⟨hd, fr, tt, rk, Ai, ni, ci, ifs⟩ day _ HA.out HON.out).mono ?_; rintro e w' ⟨rfl, rfl⟩) | (go_at_call 88; refine (l00Has_is Ao q co (natI o) t _ HRO.out hq2 HHAS.out).mono ?_; rintro e w' ⟨rfl, rfl⟩))
        go_loopw [14, 15, 68] (fun all _ i wy => ∃ u : Nat, u ≤ ni ∧ i = .int .i64 u ∧ all = .bool ((ifs.take u).all (tkKn (facB fs) ds o)) ∧ wy = w2) (fun _ _ i _ => ni - (intOf i).toNat)
        case atStart => exact ⟨0, Nat.zero_le _, rfl, rfl, rfl⟩
        case round =>
          obtain ⟨u, hu, rfl, rfl, rfl⟩ := hrel
          by_cases htl : u < ni
          · obtain ⟨ai, hAi, hcz⟩ := HRI.out.int htl
            subst hAi
            have htl2 : u < ifs.length := by have := HLI.out; omega
            obtain ⟨z, hz⟩ : ∃ z, z = ifs[u]?.getD 0 := ⟨_, rfl⟩
            rw [← hz] at hcz
            have hzm : z ∈ ifs := by rw [hz]; exact getD_mem htl2
            have hwz : wordB z = true := HVI.out z hzm
            have kz := TX.out.ka.c z hwz
            have hsn : (ifs.take (u + 1)).all (tkKn (facB fs) ds o) = ((ifs.take u).all (tkKn (facB fs) ds o) && tkKn (facB fs) ds o z) := by
              rw [take_snoc ifs u 0 htl2, List.all_append, ← hz]; simp
            have HSN := Lib.hid hsn
            have HWZ := Lib.hid hwz
            have q1 : (placeOf z : Int) < 32 := by have := place_lt hwz; omega
            have q2 : (0 : Int) ≤ placeOf z := by omega
            have i5 : (0 : Int) ≤ u := by omega
            have i6 : (u : Int) < ni := by omega
            obtain ⟨bz, hbz⟩ : ∃ b, b = tkKn (facB fs) ds o z := ⟨_, rfl⟩
            rw [← hbz] at kz HSN
            clear hz hzm hwz hsn hbz htl2
            cases hal : (ifs.take u).all (tkKn (facB fs) ds o)
            · rw [hal] at HSN
              clear hal
              go_wp2_with (go_at_call 53; refine (l05Place_is z _ HWZ.out).mono ?_; rintro e w' ⟨rfl, rfl⟩)
              go_roundw
              case rel => exact ⟨u + 1, by omega, by go_num, by rw [HSN.out]; rfl, by first | rfl | trivial⟩
              case measure => simp [intOf]; omega
            · rw [hal] at HSN
              clear hal
              go_wp2_with (go_at_call 53; refine (l05Place_is z _ HWZ.out).mono ?_; rintro e w' ⟨rfl, rfl⟩)
              go_roundw
              case rel => exact ⟨u + 1, by omega, by go_num, by rw [HSN.out]; rfl, by first | rfl | trivial⟩
              case measure => simp [intOf]; omega
          · obtain rfl : u = ni := by omega
            rw [List.take_of_length_le (by have := HLI.out; omega)]
            cases hal : ifs.all (tkKn (facB fs) ds o)
            · have hst := Lib.hid (show tkTo ds y (facB fs) pre o (t + 1) = tkTo ds y (facB fs) pre o t by rw [tkTo_succ, if_neg (by rw [HALL.out, hal]; simp)])
              clear hal
              go_wp2_with fail
              go_roundw
              case rel => exact ⟨t + 1, by omega, by go_num, HB.out, by rw [hst.out]; exact OH.out⟩
              case measure => simp [intOf]; omega
            · have hst := Lib.hid (show tkTo ds y (facB fs) pre o (t + 1) = tkTo ds y (facB fs) pre o t ++ [t] by rw [tkTo_succ, if_pos (by rw [HALL.out, hal])])
              clear hal
              obtain ⟨qh, hqh⟩ : ∃ q, q = (tkTo ds y (facB fs) pre o t).length := ⟨_, rfl⟩
              have HQH := Lib.hid hqh
              have hqm : qh ≤ t := by rw [hqh]; exact tkTo_len
              rw [← hqh] at OH
              clear hqh
              go_wp2_with (at_builtin; refine append_int rfl (.tmp 86) (.tmp 88) rfl w1 _ _ _ rfl (World.ownsRow.alloc OH.out _) (Below.alloc HB.out (Below.size HB.out) _) _ _ (t : Int) rfl (cell_new _ _ _) (by omega) ?_; intro v' w' ho2 hb2)
              go_roundw
              case rel => exact ⟨t + 1, by omega, by go_num, hb2, by rw [hst.out, natI_append, natI_one, List.length_append, ← HQH.out]; exact ho2⟩
              case measure => simp [intOf]; omega
      · obtain rfl : t = m := by omega
        have hto : tkTo ds y (facB fs) pre o t = tkNew ds y (facB fs) pre o := by rw [← HML.out, tkTo_all]
        rw [hto] at OH
        obtain ⟨N, hN⟩ : ∃ N, N = tkNew ds y (facB fs) pre o := ⟨_, rfl⟩
        rw [← hN] at OH
        have HND := Lib.hid hN
        obtain ⟨Ah, ch, rfl, _, _⟩ := own_form OH.out
        obtain ⟨qh, hqh⟩ : ∃ q, q = N.length := ⟨_, rfl⟩
        rw [← hqh] at OH ⊢
        have HQH := Lib.hid hqh
        have hst := HTI.out.step (yes := y) (pre := pre)
        rw [← hN] at hst
        have hsum : q + qh ≤ t := by
          have h1 := hst.len
          rw [List.length_append, ← hqh] at h1
          have h2 := HQ.out
          have h3 := HML.out
          omega
        have HST := Lib.hid hst
        clear hto hN hqh hst
        go_wp2_with fail
        go_loopw [9, 16, 93] (fun more _ i wz => ∃ s : Nat, s ≤ qh ∧ i = .int .i64 s ∧ more = .bool (decide (0 < s)) ∧ KT w wz g (tkKn (facB fs) ds (o ++ N.take s)) (.slice Ao q co) o ∧ wz.ownsRow w1.heap.size tI 1 (.slice Ah qh ch) qh (ints (natI N))) (fun _ _ i _ => qh - (intOf i).toNat)
        case atStart => exact ⟨0, Nat.zero_le _, rfl, rfl, by rw [List.take_zero, List.append_nil]; exact TX.out, OH.out⟩
        case round =>
          clear TX OH HB HWX
          obtain ⟨s, hs, rfl, rfl, hT, hO⟩ := hrel
          have HK := Lib.hid hT
          have HO := Lib.hid hO
          clear hT hO
          by_cases hls : s < qh
          · have hsN : s < N.length := by rw [← HQH.out]; exact hls
            have hNm : N[s] < t := by
              have h1 : N[s] ∈ tkNew ds y (facB fs) pre o := by rw [← HND.out]; exact List.getElem_mem hsN
              have h2 := (tkNew_mem.1 h1).1
              rw [HML.out] at h2; exact h2
            obtain ⟨ap, rfl, hcp⟩ := (Rd.of_own HO.out).int hls
            rw [natI_get hsN] at hcp
            obtain ⟨ad, r, rfl, hrk, ha, hri⟩ := (HRR.out.below HK.out.ka.be).at hNm
            have hdk : tAt ds N[s] = r.dat := by unfold tAt; rw [← HD.out]; exact dat_at hrk
            have hwd : wordB r.dat.hd = true := (HV.out r (List.mem_of_getElem? hrk)).2
            have hput := tkKn_put (facB fs) ds (o ++ N.take s) N[s]
            rw [← take_put hsN, hdk] at hput
            obtain ⟨j, hj⟩ : ∃ j, j = N[s] := ⟨_, rfl⟩
            rw [← hj] at hcp ha hNm
            obtain ⟨hd, fr, tt, rk, Ai, ni, ci, ifs⟩ := r
            have hwd' : wordB hd = true := hwd
            obtain ⟨c0, _⟩ := ha
            simp only at c0
            have kf := HK.out.ka.fz (placeOf hd) (place_lt hwd')
            have kc := HK.out.ka.c hd hwd'
            have HWD := Lib.hid hwd'
            have HK2 := HK.out.put hwd'
            have hput' : putB (tkKn (facB fs) ds (o ++ N.take s)) hd = tkKn (facB fs) ds (o ++ N.take (s + 1)) := hput
            rw [hput'] at HK2
            have HK3 := Lib.hid HK2
            have HO3 := Lib.hid (World.ownsRow.kept HO.out (grown_set wr g (placeOf hd) (.bool true)) (.inr fun e => ne_kind HO.out HK.out.bx (by decide) e.symm))
            have p1 : (placeOf hd : Int) < 32 := by have := place_lt hwd'; omega
            have p2 : (0 : Int) ≤ placeOf hd := by omega
            have i1 : (0 : Int) ≤ s := by omega
            have i2 : (s : Int) < qh := by omega
            have i3 : (0 : Int) ≤ j := by omega
            have i4 : (j : Int) < t := by omega
            clear hri hdk hwd hwd' hput hput' HK2 hrk hj hsN HK HO
            go_wp2_with (go_at_call 53; refine (l05Place_is hd _ HWD.out).mono ?_; rintro e w' ⟨rfl, rfl⟩)
            go_roundw
            case rel => exact ⟨s + 1, by omega, by go_num, by simp, HK3.out, HO3.out⟩
            case measure => simp [intOf]; omega
          · obtain rfl : s = qh := by omega
            have hNT : N.take s = N := by rw [List.take_of_length_le]; have := HQH.out; omega
            rw [hNT] at HK
            have hown := HK.out.ow
            rw [← HQ.out] at hown
            have HOW := Lib.hid hown
            have HRN2 := Lib.hid (Rd.of_own HO.out)
            clear hown hNT
            go_wp2_with (at_builtin; refine append_intsG rfl (.tmp 107) (.tmp 108) rfl w _ _ _ rfl HOW.out HK.out.ka.be Ah s ch (natI N) rfl HRN2.out (by omega) ?_; intro v' w' ho2 hg2)
            have hsl := slN_own ho2
            have hkt : KT w w' g (tkKn (facB fs) ds (o ++ N)) v' (o ++ N) := HK.out.app hg2 (by rw [natI_append, List.length_append, ← HQ.out, ← HQH.out]; exact ho2)
            have HKT := Lib.hid hkt
            have HSL := Lib.hid hsl
            clear hkt hsl ho2 hg2
            go_roundw
            case rel =>
              refine ⟨decide (0 < s), o ++ N, rfl, HKT.out, HST.out, fun h => ?_, fun h => ?_⟩
              · have h0 : 0 < s := of_decide_eq_true h
                have hNn : tkNew ds y (facB fs) pre o ≠ [] := by
                  rw [← HND.out]; intro e; have := HQH.out; rw [e] at this; simp at this; omega
                have hroom := tkNew_room HTI.out hNn
                have hfu := HFU.out
                obtain ⟨f', rfl⟩ : ∃ f', f = f' + 1 := ⟨f - 1, by omega⟩
                refine ⟨f', ?_, ?_⟩
                · have := HTK.out.trans (tkRun_go hNn)
                  rw [← HND.out] at this; exact this
                · rw [List.length_append, ← HQH.out]; omega
              · have h0 : ¬ 0 < s := of_decide_eq_false h
                have hN0 : N = [] := by
                  have := HQH.out
                  exact List.length_eq_zero_iff.1 (by omega)
                rw [hN0, List.append_nil]
                exact HTK.out.trans (tkRun_stop (by rw [← HND.out]; exact hN0))
            case measure =>
              have h1 := HSL.out
              have h2 : slN (.slice Ao q co) = q := rfl
              have h3 : boolN (.bool true) = 1 := rfl
              rw [h1, h2, h3]
              by_cases h0 : 0 < s
              · have h4 : boolN (.bool (decide (0 < s))) = 1 := by rw [decide_eq_true h0]; rfl
                rw [h4]; omega
              · have h4 : boolN (.bool (decide (0 < s))) = 0 := by rw [decide_eq_false h0]; rfl
                rw [h4]; omega
end Go.Proofs.Ytinocfehjdlohaa
namespace Go.Proofs.Ytinocfehjdlohaa
open Go.ChangeShapes Go.WideShapes Go.ChangeAt Go.RowKit
set_option linter.unusedVariables false
set_option linter.unusedSimpArgs false

theorem KA.putV {W w : World} {g : Nat} {p : Int → Bool} {z : Int} (h : KA W w g p) (hz : wordB z = true) (b : Bool) : KA W (w.setCell ⟨g, placeOf z, none⟩ (.bool b)) g (fun y => if y = z then b else p y) :=
  ⟨by simpa [World.setCell] using h.lt, fun y hy => by
    by_cases e : placeOf z = placeOf y
    · obtain rfl := place_inj hz hy e
      rw [World.cell?_setCell_same _ _ _ (h.c z hz)]; simp
    · rw [set_other _ _ _ _ _ e, h.c y hy]
      have : ¬ y = z := fun h => e (by rw [h])
      simp [this], fun i hi => by rw [set_frozen]; exact h.fz i hi, h.hg, below_setFar h.be (p := ⟨g, placeOf z, none⟩) _ h.hg⟩
theorem KT.putV {W w : World} {g : Nat} {p : Int → Bool} {v : Value} {o : List Nat} {z : Int} (h : KT W w g p v o) (hz : wordB z = true) (b : Bool) : KT W (w.setCell ⟨g, placeOf z, none⟩ (.bool b)) g (fun y => if y = z then b else p y) v o := by
  obtain ⟨c1, f1, h1⟩ := h.bx
  refine ⟨h.ka.putV hz b, World.ownsRow.kept h.ow (grown_set _ _ _ _) (.inr fun e => h.far e.symm), ?_⟩
  refine ⟨c1.setIfInBounds (placeOf z) (.bool b), f1, ?_⟩
  simp [World.setCell, Array.getElem?_modify, h1]
theorem KA.newF (w : World) (t : TypeId) : KA w ((w.alloc (.cells fls t)).setCells w.heap.size 0 fls.toList) w.heap.size (fun _ => false) := by
  have h := OA.new w t (fun _ => false)
  refine ⟨h.lt, fun z hz => ?_, h.fz, h.hg, h.be⟩
  have := h.c (placeOf z) (place_lt hz)
  rw [this]; simp
theorem want_first {T : List Rl} {fac : Int → Bool} {x : Int} : (fun y => if y = x then !fac x else false) = wantB T fac x T.length := by
  funext y
  rw [wantB_top]
  by_cases e : y = x
  · subst e; simp
  · have : (y == x) = false := by rw [beq_eq_false_iff_ne]; exact e
    simp [e, this]
theorem want_more (a : Int → Bool) (fac : Int → Bool) (l : List Int) (z : Int) :
    (fun y => if y = z then ((a z || (hasI l z && !fac z)) || !fac z) else (a y || (hasI l y && !fac y))) = fun y => a y || (hasI (l ++ [z]) y && !fac y) := by
  funext y
  have hh : hasI (l ++ [z]) y = (hasI l y || (y == z)) := by unfold hasI; rw [List.any_append]; simp
  rw [hh]
  by_cases e : y = z
  · subst e
    rw [if_pos rfl]
    cases a y <;> cases hasI l y <;> cases fac y <;> simp
  · have : (y == z) = false := by rw [beq_eq_false_iff_ne]; exact e
    rw [if_neg e, this, Bool.or_false]
theorem want_zero (a : Int → Bool) (fac : Int → Bool) : (fun y => a y || (hasI [] y && !fac y)) = a := by funext y; simp [hasI]
set_option maxRecDepth 100000 in
set_option maxHeartbeats 12800000 in
theorem spec_ProofOf (A : Option Addr) (m c : Nat) (ds : List Rl) (B : Option Addr) (k d : Nat) (fs : List Int) (day : Int) (x : Int) (w : World) (hr : RsRd w w.heap.size A m ds) (hz : szD ds ≤ 1048576) (hb : ∀ d ∈ ds, RlB d) (hf : Rd w w.heap.size 1 B k (ints fs)) (hk : k ≤ 1048576) (hfs : I64s fs)
    (hday : -9223372036854775808 ≤ day ∧ day ≤ 9223372036854775807) (hx : -9223372036854775808 ≤ x ∧ x ≤ 9223372036854775807) :
    Calls Try.prog 30 #[.slice A m c, .slice B k d, .int .i64 day, .int .i64 x] w (SlEnds w (ProofOf_r0 ds fs day x) (ProofOf_r1 ds fs day x)) := by
  have HR := Lib.hid hr
  have HZ := Lib.hid hz
  have HRB := Lib.hid hb
  have HF := Lib.hid hf
  have HFS := Lib.hid hfs
  have hml := hr.len
  have hmz : m ≤ 1048576 := sz_len hz hml
  have HACT := Lib.hid (szD_act (day := day) hr.len)
  clear hr hz hb hf hfs
  cases h1 : courtOk ds fs day
  case false =>
    have hfin := Lib.hid (po_no ds fs day x (by unfold poOk; rw [h1]; rfl))
    go_enter Try.func30, Try.ntmps30
    go_wp2_with fail
    refine (l05Can_is _ _ _ _ _ _ _ _ _ _ HR.out HZ.out HRB.out HF.out hk HFS.out hday h1).mono ?_
    rintro e w1 ⟨rfl, hb1⟩
    go_wp2_with fail
    go_ret2
    rw [hfin.out.1, hfin.out.2]
    exact sl_no hb1
  cases h2 : wordB x
  case false =>
    have hfin := Lib.hid (po_no ds fs day x (by unfold poOk; rw [h2]; simp))
    go_enter Try.func30, Try.ntmps30
    go_wp2_with fail
    refine (l05Can_is _ _ _ _ _ _ _ _ _ _ HR.out HZ.out HRB.out HF.out hk HFS.out hday h1).mono ?_
    rintro e w1 ⟨rfl, hb1⟩
    go_wp2_with (go_at_call 35; refine (l05Word_is h2 _).mono ?_; rintro e w' ⟨rfl, rfl⟩)
    go_ret2
    rw [hfin.out.1, hfin.out.2]
    exact sl_no hb1
  have H1 := Lib.hid h1
  have H2 := Lib.hid h2
  have HML := Lib.hid hml
  have h24 := rulesB_len (courtOk_iff.1 h1).1
  have hm24 : m ≤ 24 := by omega
  have p1 : (placeOf x : Int) < 32 := by have := place_lt h2; omega
  have p2 : (0 : Int) ≤ placeOf x := by omega
  clear h1 h2 hml h24
  go_enter Try.func30, Try.ntmps30
  go_wp2_with fail
  refine (l05Can_is _ _ _ _ _ _ _ _ _ _ HR.out HZ.out HRB.out HF.out hk HFS.out hday H1.out).mono ?_
  rintro e w1 ⟨rfl, hb1⟩
  have HB1 := Lib.hid hb1
  clear hb1
  go_wp2_with (go_at_call 35; refine (l05Word_is H2.out _).mono ?_; rintro e w' ⟨rfl, rfl⟩)
  refine (l05Of_any _ _ _ ds day _ (HR.out.on HB1.out) hmz).mono ?_
  rintro e w2 ⟨A2, n2, c2, rfl, hrd, hb2⟩
  rw [HACT.out] at hrd
  have HB2 := Lib.hid (below_step HB1.out hb2)
  have HR2 := Lib.hid hrd
  clear hrd hb2
  go_wp2_with fail
  refine (answer_rs _ _ _ ds _ _ _ fs day _ HR2.out (actF_small (courtOk_iff.1 H1.out).1) HRB.out (HF.out.on HB2.out) hk H1.out).mono ?_
  rintro e w3 ⟨sb, rfl, hsb, hS, hb3⟩
  have HB3 := Lib.hid (below_step HB2.out hb3)
  have HS := Lib.hid hS
  have s1 := hS.yes x H2.out
  clear hb3 hS
  cases hyb : yesB ds fs day x
  case false =>
    have hfin := Lib.hid (po_no ds fs day x (by unfold poOk; rw [hyb]; simp))
    rw [hyb] at s1
    clear hyb
    go_wp2_with fail
    go_quiet (first | (go_at_call 53; exact quietL (l05Place_is x _ H2.out)))
    go_wp2_with fail
    go_ret2
    rw [hfin.out.1, hfin.out.2]
    exact sl_no (below_drewN HB3.out _)
  have HFIN := Lib.hid (po_yes ds fs day x H1.out H2.out hyb)
  rw [hyb] at s1
  clear hyb
  go_wp2_with fail
  go_quiet (first | (go_at_call 53; exact quietL (l05Place_is x _ H2.out)))
  have HB3q := Lib.hid (below_drewN HB3.out nq)
  have HSq := Lib.hid (HS.out.drewN nq)
  clear s1 HB3 HS
  generalize World.drewN w3 nq = w3q at HB3q HSq ⊢
  go_wp2_with fail
  refine (l05Taken_is _ _ _ ds fs day sb _ (HR.out.on HB3q.out) HZ.out HRB.out H1.out HSq.out).mono ?_
  rintro e w4 ⟨v, rfl, ho4, hb4⟩
  obtain ⟨Ap, cp, rfl, _, _⟩ := own_form ho4
  have HB4 := Lib.hid (below_step HB3q.out hb4)
  have HS4 := Lib.hid (HSq.out.on hb4)
  have HRP := Lib.hid (Rd.of_own ho4)
  obtain ⟨q, hq⟩ : ∃ q, q = (pO ds fs day).length := ⟨_, rfl⟩
  rw [← hq] at HRP ⊢
  have hq24 : q ≤ 24 := by have h1 := pO_len ds fs day; have h2 := HML.out; omega
  have HQ := Lib.hid hq
  clear ho4 hb4 hq HB3q HSq
  have HKA := Lib.hid (KA.newF w4 tK)
  have HTH := Lib.hid (fls_there w4 tK)
  have HBX := Lib.hid (setCells_obj w4.heap.size fls.toList 0 _ ⟨_, _, alloc_obj w4 (.cells fls tK)⟩)
  go_wp2_with (first
    | (refine wpList_run rfl (.agg fls) (build_run _ rfl _ _) ?_)
    | (refine wpList_run rfl (.pointer (some ⟨w4.heap.size, 0, none⟩)) (alloc_run _ rfl _ _) ?_)
    | (refine wpList_store_mid rfl tK (.tmp 12) (.tmp 47) rfl w4.heap.size 0 fls rfl rfl HTH.out fls_info fls_one ?_))
  clear HTH
  obtain ⟨g, hg⟩ : ∃ g, g = w4.heap.size := ⟨_, rfl⟩
  rw [← hg] at HKA HBX ⊢
  have HG := Lib.hid hg
  clear hg
  generalize ((w4.alloc (.cells fls tK)).setCells g 0 fls.toList) = wO at HKA HBX ⊢
  have HKD := Lib.hid (HKA.out.drewN 1)
  have hfc := (HS4.out.on HKD.out.be).fact x H2.out
  have kf := HKA.out.fz (placeOf x) (place_lt H2.out)
  have kc := HKA.out.c x H2.out
  have KEEP := Lib.hid (show (fun w' => w'.cell? ⟨sb, 64 + placeOf x, none⟩ = some (.bool (facB fs x))) (wO.drewN 1) from hfc)
  have HKP := Lib.hid (show KA w4 (wO.setCell ⟨g, placeOf x, none⟩ (.bool (!facB fs x))).drew g (wantB (pT ds fs day) (facB fs) x (pT ds fs day).length) from by
    have h := (HKA.out.putV H2.out (!facB fs x)).drewN 1
    rw [want_first] at h
    exact h)
  have HBP := Lib.hid (show ∃ cs fz, (wO.setCell ⟨g, placeOf x, none⟩ (.bool (!facB fs x))).drew.heap[g]? = some (.cells cs tK fz) from setCells_obj g [.bool (!facB fs x)] (placeOf x) wO HBX.out)
  have KEEP2 := Lib.hid (show (fun w' => w'.cell? ⟨sb, 64 + placeOf x, none⟩ = some (.bool (facB fs x))) (wO.setCell ⟨g, placeOf x, none⟩ (.bool (!facB fs x))).drew from (HS4.out.on HKP.out.be).fact x H2.out)
  clear hfc HKA HKD HBX
  try simp only [Act.put, List.setIfInBounds_toArray, List.set_cons_zero, List.set_cons_succ]
  refine wp_region_held_drew (S := (fun w' => w'.cell? ⟨sb, 64 + placeOf x, none⟩ = some (.bool (facB fs x)))) (by kernel_rfl) KEEP.out (fun hHeld => ?_)
  (refine take_dst (i := 0) (v := _) (some 48) rfl rfl (by kernel_rfl) (by kernel_rfl) (by kernel_rfl) (fun _ _ _ h => h) (Or.inl ⟨by rfl, by (intro w3 hw; (try dsimp only at hw); go_simp; try with_reducible rfl)⟩) (by assumption) ?_; try simp only [Act.put, List.setIfInBounds_toArray, List.set_cons_zero, List.set_cons_succ])
  (refine take_dst (i := 2) (v := _) (some 50) rfl rfl (by kernel_rfl) (by kernel_rfl) (by kernel_rfl) (fun _ _ _ h => h) (Or.inl ⟨by rfl, by (intro w3 hw; (try dsimp only at hw); go_simp; try with_reducible rfl)⟩) (by assumption) ?_; try simp only [Act.put, List.setIfInBounds_toArray, List.set_cons_zero, List.set_cons_succ])
  (refine take_dst (i := 3) (v := _) (some 51) rfl rfl (by kernel_rfl) (by kernel_rfl) (by kernel_rfl) (fun _ _ _ h => h) (Or.inl ⟨by rfl, by (intro w3 hw; (try dsimp only at hw); go_simp; try with_reducible rfl)⟩) (by assumption) ?_; try simp only [Act.put, List.setIfInBounds_toArray, List.set_cons_zero, List.set_cons_succ])
  (refine take_dst (i := 5) (v := _) (some 53) rfl rfl (by kernel_rfl) (by kernel_rfl) (by kernel_rfl) (fun _ _ _ h => h) (Or.inl ⟨by rfl, by (intro w3 hw; (try dsimp only at hw); go_simp; try with_reducible rfl)⟩) (by assumption) ?_; try simp only [Act.put, List.setIfInBounds_toArray, List.set_cons_zero, List.set_cons_succ])
  (refine take_dst (i := 6) (v := _) (some 54) rfl rfl (by kernel_rfl) (by kernel_rfl) (by kernel_rfl) (fun _ _ _ h => h) (Or.inl ⟨by rfl, by (intro w3 hw; (try dsimp only at hw); go_simp; try with_reducible rfl)⟩) (by assumption) ?_; try simp only [Act.put, List.setIfInBounds_toArray, List.set_cons_zero, List.set_cons_succ])
  (refine wpAnyH_ready (rs := [1]) (by kernel_rfl) (by simp) (AllReadyH.cons (i := 1) rfl (fun K hK => ?_) AllReadyH.nil); go_simp)
  refine (l05Place_is x _ H2.out).mono ?_
  rintro e w9 ⟨rfl, rfl⟩
  go_wp2_with fail
  refine hK.out _ _ hHeld (fun hHeld => ?_)
  clear hK K
  try simp only [Act.put, List.setIfInBounds_toArray, List.set_cons_zero, List.set_cons_succ]
  (refine wpAnyH_ready (rs := [4]) (by kernel_rfl) (by simp) (AllReadyH.cons (i := 4) rfl (fun K hK => ?_) AllReadyH.nil); go_simp)
  refine (l05Place_is x _ H2.out).mono ?_
  rintro e w9 ⟨rfl, rfl⟩
  go_wp2_with fail
  refine hK.out _ _ hHeld (fun hHeld => ?_)
  clear hK K
  try simp only [Act.put, List.setIfInBounds_toArray, List.set_cons_zero, List.set_cons_succ]
  (refine take_dst (i := 7) (v := _) (some 55) rfl rfl (by kernel_rfl) (by kernel_rfl) (by kernel_rfl) (fun _ _ _ h => h) (Or.inl ⟨by rfl, by (intro w3 hw; (try dsimp only at hw); go_simp; try with_reducible rfl)⟩) (by assumption) ?_; try simp only [Act.put, List.setIfInBounds_toArray, List.set_cons_zero, List.set_cons_succ])
  (refine take_dst (i := 8) (v := _) (some 56) rfl rfl (by kernel_rfl) (by kernel_rfl) (by kernel_rfl) (fun _ _ _ h => h) (Or.inl ⟨by rfl, by (intro w3 hw; (try dsimp only at hw); go_simp; try with_reducible rfl)⟩) (by assumption) ?_; try simp only [Act.put, List.setIfInBounds_toArray, List.set_cons_zero, List.set_cons_succ])
  (refine take_dst (i := 9) (v := _) (some 57) rfl rfl (by kernel_rfl) (by kernel_rfl) (by kernel_rfl) (fun _ _ _ h => h) (Or.inl ⟨by rfl, by (intro w3 hw; (try dsimp only at hw); go_simp; try with_reducible rfl)⟩) (by assumption) ?_; try simp only [Act.put, List.setIfInBounds_toArray, List.set_cons_zero, List.set_cons_succ])
  (refine take_dst (i := 10) (v := _) (some 58) rfl rfl (by kernel_rfl) (by kernel_rfl) (by kernel_rfl) (fun _ _ _ h => h) (Or.inl ⟨by rfl, by (intro w3 hw; (try dsimp only at hw); go_simp; try with_reducible rfl)⟩) (by assumption) ?_; try simp only [Act.put, List.setIfInBounds_toArray, List.set_cons_zero, List.set_cons_succ])
  (refine wpAnyH_ready (rs := [11]) (by kernel_rfl) (by simp) (AllReadyH.cons (i := 11) rfl (fun K hK => ?_) AllReadyH.nil); go_simp)
  refine hK.out _ _ KEEP2.out (fun hHeld => ?_)
  clear hK K
  try simp only [Act.put, List.setIfInBounds_toArray, List.set_cons_zero, List.set_cons_succ]
  refine wpAnyH_done (by kernel_rfl) ?_ _
  clear hHeld KEEP KEEP2 kf kc
  generalize (wO.setCell ⟨g, placeOf x, none⟩ (.bool (!facB fs x))).drew = wP at HKP HBP ⊢
  have OO := Lib.hid (own_base (own_empty wP tI) HKP.out.be.size)
  have HTL := Lib.hid (pT_len ds fs day)
  have T0 := Lib.hid (show KT w4 (wP.alloc (.cells #[] tI)) g (wantB (pT ds fs day) (facB fs) x q) (.slice (some ⟨wP.heap.size, 0, none⟩) 0 0) (pBack ds fs day x q) from by
    obtain ⟨c1, f1, h1⟩ := HBP.out
    have h2 := HKP.out
    rw [HTL.out, ← HQ.out] at h2
    refine ⟨h2.on (bl_a _), ?_, ⟨c1, f1, ((bl_a _).block g h2.lt).trans h1⟩⟩
    rw [HQ.out, pBack_top, natI_nil]
    exact OO.out)
  clear HKP HBP OO
  go_wp2_with fail
  go_loopw [13, 14, 15, 16, 17, 18, 19, 112] (fun v i _ _ _ _ _ _ wr => ∃ j : Nat, j ≤ q ∧ i = .int .i64 ((j : Int) - 1) ∧ KT w4 wr g (wantB (pT ds fs day) (facB fs) x j) v (pBack ds fs day x j)) (fun _ i _ _ _ _ _ _ _ => (intOf i + 1).toNat)
  case atStart => exact ⟨q, Nat.le_refl _, by go_num, T0.out⟩
  case round =>
    clear T0
    obtain ⟨j, hj, rfl, hT⟩ := hrel
    have TT := Lib.hid hT
    clear hT
    obtain ⟨wr1, hwr1⟩ : ∃ w1, w1 = wr := ⟨_, rfl⟩
    rw [← hwr1] at TT ⊢
    clear hwr1
    rcases j with _ | n
    · have e0 : ((0 : Nat) : Int) - 1 = -1 := rfl
      rw [e0]
      go_wp2_with fail
      go_ret2
      rw [HFIN.out.1, HFIN.out.2, ← pBack_bot]
      have hbe := below_step HB4.out TT.out.ka.be
      exact sl_yes (natI_length _) (own_base TT.out.ow HB4.out.size) hbe
    · have e0 : ((n + 1 : Nat) : Int) - 1 = (n : Int) := by omega
      rw [e0]
      have hnq : n < q := by omega
      have hno : n < (pO ds fs day).length := by rw [← HQ.out]; exact hnq
      have hnT : n < (pT ds fs day).length := by rw [pT_len]; exact hno
      have htn : tAt (pT ds fs day) n = tAt ds (pO ds fs day)[n] := pT_at ds fs day hno
      have hbw := below_step HB4.out TT.out.ka.be
      obtain ⟨ap, rfl, hcp⟩ := (HRP.out.below TT.out.ka.be).int hnq
      rw [natI_get hno] at hcp
      have him : (pO ds fs day)[n] < m := by have h := (pO_I ds fs day).lt _ (List.getElem_mem hno); have := HML.out; omega
      obtain ⟨rs, hrr, hdat⟩ := HR.out
      have HRR := Lib.hid hrr
      have HD := Lib.hid hdat
      have HRN := Lib.hid (ruN_of hrr.nlen (by rw [hdat]; exact HZ.out) (by rw [hdat]; exact HRB.out))
      have HV := Lib.hid (fun r (hr : r ∈ rs) => valid_ifs (courtOk_iff.1 H1.out).1 (d := Ru.dat r) (by rw [← hdat]; exact List.mem_map_of_mem hr))
      clear hrr hdat
      obtain ⟨i, hi⟩ : ∃ i, i = (pO ds fs day)[n] := ⟨_, rfl⟩
      have HIP := Lib.hid (show (pO ds fs day)[n]?.getD 0 = i by rw [List.getElem?_eq_getElem hno, hi]; rfl)
      rw [← hi] at hcp him htn
      obtain ⟨ad, r, rfl, hrk, ha, hri⟩ := (HRR.out.below hbw).at him
      have hdk : tAt ds i = r.dat := by have h := dat_at hrk; rw [HD.out] at h; exact h
      have hvi := HV.out r (List.mem_of_getElem? hrk)
      have hrn := (HRN.out r (List.mem_of_getElem? hrk)).1
      have HLI := Lib.hid hri.ilen
      have HROW := Lib.hid (fun (w' : World) (hb : Below w.heap.size w w') => show AtP w' (ad.add (i * 5)) r ∧ Rd w' w.heap.size 1 r.A r.n (ints r.ifs) from by
        obtain ⟨ad', r', e, hrk', ha', hri'⟩ := (HRR.out.below hb).at him
        cases e
        obtain rfl : r = r' := by
          rw [hrk'] at hrk
          injection hrk with h
          exact h.symm
        exact ⟨ha', hri'⟩)
      rw [hdk] at htn
      obtain ⟨hd, fr, tt, rk, Ai, ni, ci, ifs⟩ := r
      simp only at hrn
      have hwd : wordB hd = true := hvi.2
      have HVI := Lib.hid (show ∀ z ∈ ifs, wordB z = true from hvi.1)
      have HTN := Lib.hid (show tAt (pT ds fs day) n = ⟨hd, ifs, fr, tt, rk⟩ from htn)
      obtain ⟨c0, c1', c2, c3, c4⟩ := ha
      simp only at c0 c1'
      have HWD := Lib.hid hwd
      have kc := TT.out.ka.c hd hwd
      have q1 : (placeOf hd : Int) < 32 := by have := place_lt hwd; omega
      have q2 : (0 : Int) ≤ placeOf hd := by omega
      have i1 : (0 : Int) ≤ n := by omega
      have i2 : (n : Int) < q := by omega
      have i3 : (0 : Int) ≤ i := by omega
      have i4 : (i : Int) < m := by omega
      have HNQ := Lib.hid (And.intro hnq (And.intro hno hnT))
      clear hri hdk hvi hwd htn hi hno hnT hbw him hrk c2 c3 c4
      obtain ⟨gw, hgw⟩ : ∃ b, b = wantB (pT ds fs day) (facB fs) x (n + 1) hd := ⟨_, rfl⟩
      rw [← hgw] at kc
      have HGW := Lib.hid hgw
      clear hgw
      obtain ⟨Ao, co, rfl, _, _⟩ := own_form TT.out.ow
      obtain ⟨qo, hqo⟩ : ∃ q, q = (pBack ds fs day x (n + 1)).length := ⟨_, rfl⟩
      rw [← hqo]
      have HQO := Lib.hid hqo
      have hqo24 : qo ≤ 24 := by have h1 := pBack_len ds fs day x (n + 1); have h2 := HQ.out; omega
      rw [← hqo] at TT
      clear hqo
      go_wp2_with (go_at_call 53; refine (l05Place_is hd _ HWD.out).mono ?_; rintro e w' ⟨rfl, rfl⟩)
      clear c0 c1' kc hcp
      go_loopw [16, 17] (fun gr s_ wy => ∃ s : Nat, s ≤ n ∧ s_ = .int .i64 s ∧ gr = .bool (gw && freshTo (pT ds fs day) n s) ∧ KT w4 wy g (wantB (pT ds fs day) (facB fs) x (n + 1)) (.slice Ao qo co) (pBack ds fs day x (n + 1))) (fun _ s_ _ => n - (intOf s_).toNat)
      case atStart => exact ⟨0, Nat.zero_le _, rfl, by rw [freshTo_zero, Bool.and_true], TT.out⟩
      case round =>
        clear TT
        obtain ⟨s, hs, rfl, rfl, hT⟩ := hrel
        have TT := Lib.hid hT
        clear hT
        obtain ⟨wr2, hwr2⟩ : ∃ w2, w2 = wr := ⟨_, rfl⟩
        rw [← hwr2] at TT ⊢
        clear hwr2
        have hbw := below_step HB4.out TT.out.ka.be
        have HBW := Lib.hid hbw
        obtain ⟨⟨c0, c1', _⟩, _⟩ := HROW.out _ hbw
        simp only at c0 c1'
        by_cases hsn : s < n
        · have hsq : s < q := by omega
          have hso : s < (pO ds fs day).length := by rw [← HQ.out]; exact hsq
          obtain ⟨ap', hap, hcs⟩ := (HRP.out.below TT.out.ka.be).int hsq
          cases hap
          rw [natI_get hso] at hcs
          have him2 : (pO ds fs day)[s] < m := by have h := (pO_I ds fs day).lt _ (List.getElem_mem hso); have := HML.out; omega
          have hts : tAt (pT ds fs day) s = tAt ds (pO ds fs day)[s] := pT_at ds fs day hso
          obtain ⟨i', hi'⟩ : ∃ i, i = (pO ds fs day)[s] := ⟨_, rfl⟩
          rw [← hi'] at hcs him2 hts
          obtain ⟨ad', r2, e, hrk2, ha2, _⟩ := (HRR.out.below hbw).at him2
          cases e
          have hdk2 : tAt ds i' = r2.dat := by have h := dat_at hrk2; rw [HD.out] at h; exact h
          rw [hdk2] at hts
          obtain ⟨hd2, fr2, tt2, rk2, Ai2, ni2, ci2, ifs2⟩ := r2
          obtain ⟨b0, _⟩ := ha2
          simp only at b0
          have HFS := Lib.hid (show (gw && freshTo (pT ds fs day) n (s + 1)) = ((gw && freshTo (pT ds fs day) n s) && !(hd2 == hd)) by
            rw [freshTo_succ, hts, HTN.out, Bool.and_assoc]; rfl)
          have j1 : (0 : Int) ≤ s := by omega
          have j2 : (s : Int) < q := by omega
          have j3 : (0 : Int) ≤ i' := by omega
          have j4 : (i' : Int) < m := by omega
          have j5 : (s : Int) < n := by omega
          clear hso him2 hts hi' hrk2 hdk2 hbw c1'
          obtain ⟨fb, hfb⟩ : ∃ b, b = (gw && freshTo (pT ds fs day) n s) := ⟨_, rfl⟩
          rw [← hfb] at HFS ⊢
          clear hfb
          rcases Bool.eq_false_or_eq_true (hd2 == hd) with heq | heq
          · have HE := Lib.hid heq
            go_wp2_with fail
            go_quiet (fail)
            have TQ := Lib.hid (TT.out.on (below_drewN (Below.refl _ _) nq))
            go_wp2_with fail
            go_roundw
            case rel => exact ⟨s + 1, by omega, by go_num, by rw [HFS.out, HE.out]; simp, TQ.out⟩
            case measure => simp [intOf]; omega
          · have HE := Lib.hid heq
            go_wp2_with fail
            go_quiet (fail)
            have TQ := Lib.hid (TT.out.on (below_drewN (Below.refl _ _) nq))
            go_wp2_with fail
            go_roundw
            case rel => exact ⟨s + 1, by omega, by go_num, by rw [HFS.out, HE.out]; simp, TQ.out⟩
            case measure => simp [intOf]; omega
        · obtain rfl : s = n := by omega
          have hgr : (gw && freshTo (pT ds fs day) s s) = needB (pT ds fs day) (facB fs) x s := by rw [ground_is (pT_dag ds fs day) HNQ.out.2.2, HTN.out, ← HGW.out]
          rw [hgr]
          cases hnd : needB (pT ds fs day) (facB fs) x s
          · have HNX := Lib.hid (show KT w4 wr2 g (wantB (pT ds fs day) (facB fs) x s) (.slice Ao qo co) (pBack ds fs day x s) from by
              have e1 : wantB (pT ds fs day) (facB fs) x s = wantB (pT ds fs day) (facB fs) x (s + 1) := by funext y; rw [wantB_step _ _ _ s, hnd]; simp
              rw [e1, pBack_no ds fs day x HNQ.out.2.1 hnd]
              exact TT.out)
            clear hnd hgr
            go_wp2_with fail
            go_roundw
            case rel => exact ⟨s, by omega, by go_num, HNX.out⟩
            case measure => simp [intOf] <;> omega
          · have HND := Lib.hid hnd
            have HYES := Lib.hid (pBack_yes ds fs day x HNQ.out.2.1 hnd)
            obtain ⟨ap', hap, hcs⟩ := (HRP.out.below TT.out.ka.be).int HNQ.out.1
            cases hap
            rw [natI_get HNQ.out.2.1, show ((pO ds fs day)[s]'HNQ.out.2.1) = i by have h := HIP.out; rwa [List.getElem?_eq_getElem HNQ.out.2.1] at h] at hcs
            have HRO := Lib.hid (show Rd (wr2.alloc (.cells #[.int .i64 (i : Int)] tI)) (wr2.alloc (.cells #[.int .i64 (i : Int)] tI)).heap.size 1 Ao qo (ints (natI (pBack ds fs day x (s + 1)))) from by
              have h := (TT.out.on (bl_a (w := wr2) (.cells #[.int .i64 (i : Int)] tI))).ow
              rw [← HQO.out] at h
              exact Rd.of_own h)
            clear hnd hgr hbw c0
            have HNEW := Lib.hid (fun (v' : Value) (w' : World) (ho2 : w'.ownsRow wr2.heap.size tI 1 v' (1 + qo) (ints ([(i : Int)] ++ natI (pBack ds fs day x (s + 1))))) (hb2 : Below wr2.heap.size wr2 w') => show Go.RowKit.Hid (KT w4 w' g (wantB (pT ds fs day) (facB fs) x (s + 1)) v' (pBack ds fs day x s)) ∧ w'.cell? { block := (ad.add (i * 5)).block, off := (ad.add (i * 5)).off + 1 } = some (.slice Ai ni ci) from by
              have h := TT.out.on hb2
              have hkt : KT w4 w' g (wantB (pT ds fs day) (facB fs) x (s + 1)) v' (pBack ds fs day x s) := by
                refine ⟨h.ka, ?_, h.bx⟩
                have h9 := HIP.out
                rw [HYES.out, h9, natI_append, natI_one, List.length_append, ← HQO.out]
                exact own_base ho2 TT.out.ka.be.size
              obtain ⟨⟨_, d1, _⟩, _⟩ := HROW.out _ (below_step HB4.out hkt.ka.be)
              exact ⟨Lib.hid hkt, d1⟩)
            clear c1'
            go_wp2_with (at_builtin; refine append_intsA rfl (.tmp 104) (.tmp 105) rfl wr2 _ _ _ rfl (own_one wr2 (i : Int)) (bl_a _) Ao qo co (natI (pBack ds fs day x (s + 1))) rfl HRO.out (by omega) ?_; intro v' w' ho2 hb2; obtain ⟨HKT, d1⟩ := HNEW.out v' w' ho2 hb2; clear ho2 hb2)
            clear d1
            go_loopw [18, 19, 112] (fun _ _ i3 wz => ∃ u : Nat, u ≤ ni ∧ i3 = .int .i64 u ∧ KT w4 wz g (fun y => wantB (pT ds fs day) (facB fs) x (s + 1) y || (hasI (ifs.take u) y && !facB fs y)) v' (pBack ds fs day x s)) (fun _ _ i3 _ => ni - (intOf i3).toNat)
            case atStart => exact ⟨0, Nat.zero_le _, rfl, by rw [List.take_zero, want_zero]; exact HKT.out⟩
            case round =>
              clear HKT
              obtain ⟨u, hu, rfl, hT3⟩ := hrel
              have HK := Lib.hid hT3
              clear hT3
              by_cases htl : u < ni
              · have hbw := below_step HB4.out HK.out.ka.be
                obtain ⟨⟨_, d1, _⟩, hri⟩ := HROW.out _ hbw
                simp only at d1
                obtain ⟨ai, hAi, hcz⟩ := hri.int htl
                subst hAi
                have htl2 : u < ifs.length := by have := HLI.out; omega
                obtain ⟨z, hz⟩ : ∃ z, z = ifs[u]?.getD 0 := ⟨_, rfl⟩
                rw [← hz] at hcz
                have hzm : z ∈ ifs := by rw [hz]; exact getD_mem htl2
                have hwz : wordB z = true := HVI.out z hzm
                have kz := HK.out.ka.c z hwz
                have kf := HK.out.ka.fz (placeOf z) (place_lt hwz)
                have f3 := (HS4.out.on HK.out.ka.be).fact z hwz
                obtain ⟨bz, hbz⟩ : ∃ b, b = (wantB (pT ds fs day) (facB fs) x (s + 1) z || (hasI (ifs.take u) z && !facB fs z)) := ⟨_, rfl⟩
                have hkt := HK.out.putV hwz (bz || !facB fs z)
                rw [hbz, want_more, show ifs.take u ++ [z] = ifs.take (u + 1) by rw [take_snoc ifs u 0 htl2, ← hz], ← hbz] at hkt
                rw [← hbz] at kz
                obtain ⟨fz, hfz⟩ : ∃ b, b = facB fs z := ⟨_, rfl⟩
                rw [← hfz] at hkt f3
                have HWZ := Lib.hid hwz
                have q3 : (placeOf z : Int) < 32 := by have := place_lt hwz; omega
                have q4 : (0 : Int) ≤ placeOf z := by omega
                have i5 : (0 : Int) ≤ u := by omega
                have i6 : (u : Int) < ni := by omega
                clear hri hz hzm hwz hbz hfz htl2 hbw
                cases bz
                · simp only [Bool.false_or] at hkt
                  have HKT := Lib.hid hkt
                  clear hkt HK
                  go_wp2_with (go_at_call 53; refine (l05Place_is z _ HWZ.out).mono ?_; rintro e w' ⟨rfl, rfl⟩)
                  go_roundw
                  case rel => exact ⟨u + 1, by omega, by go_num, HKT.out⟩
                  case measure => simp [intOf]; omega
                · simp only [Bool.true_or] at hkt
                  have HKT := Lib.hid hkt
                  clear hkt HK
                  go_wp2_with (go_at_call 53; refine (l05Place_is z _ HWZ.out).mono ?_; rintro e w' ⟨rfl, rfl⟩)
                  go_roundw
                  case rel => exact ⟨u + 1, by omega, by go_num, HKT.out⟩
                  case measure => simp [intOf]; omega
              · obtain rfl : u = ni := by omega
                have hkt := HK.out
                rw [List.take_of_length_le (by have := HLI.out; omega)] at hkt
                have e1 : (fun y => wantB (pT ds fs day) (facB fs) x (s + 1) y || (hasI ifs y && !facB fs y)) = wantB (pT ds fs day) (facB fs) x s := by
                  funext y
                  rw [wantB_step _ _ _ s, HND.out, HTN.out, Bool.true_and]
                rw [e1] at hkt
                have HKT := Lib.hid hkt
                clear hkt e1 HK
                go_wp2_with fail
                go_roundw
                case rel => exact ⟨s, by omega, by go_num, HKT.out⟩
                case measure => simp [intOf] <;> omega
end Go.Proofs.Ytinocfehjdlohaa
