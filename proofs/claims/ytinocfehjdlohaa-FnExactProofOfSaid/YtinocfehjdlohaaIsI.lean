/-
  IsProof: the program's function.
-/
import Derived.Test.YtinocfehjdlohaaIsP
import Derived.Test.YtinocfehjdlohaaRegH
import Derived.Test.YtinocfehjdlohaaDaysW
namespace Go.Proofs.Ytinocfehjdlohaa
open Go.ChangeShapes Go.WideShapes Go.ChangeAt Go.RowKit
set_option linter.unusedVariables false
set_option linter.unusedSimpArgs false

/-- what stands in the rounds: the map of the heads, the two boxes -/
structure IW (W w : World) (cb gm g1 g2 : Nat) (kn : Int → Bool) : Prop where
  be : Below W.heap.size W w
  mp : MapB w gm kn
  c1 : w.cell? ⟨g1, 0, none⟩ = some (.pointer (some ⟨cb, 0, none⟩))
  c2 : w.cell? ⟨g2, 0, none⟩ = some (.map (some gm))
  l1 : g1 < w.heap.size
  l2 : g2 < w.heap.size
  n1 : g1 ≠ gm
  n2 : g2 ≠ gm
  hm : W.heap.size ≤ gm
section
variable {W w w' : World} {cb gm g1 g2 : Nat} {kn kn' : Int → Bool}
theorem IW.on (h : IW W w cb gm g1 g2 kn) (hb : Below w.heap.size w w') : IW W w' cb gm g1 g2 kn :=
  ⟨below_step h.be hb, h.mp.below hb h.mp.lt, (hb.cell (p := ⟨g1, 0, none⟩) h.l1).trans h.c1, (hb.cell (p := ⟨g2, 0, none⟩) h.l2).trans h.c2, Nat.lt_of_lt_of_le h.l1 hb.size, Nat.lt_of_lt_of_le h.l2 hb.size, h.n1, h.n2, h.hm⟩
theorem IW.put (h : IW W w cb gm g1 g2 kn) (hp : MapB w' gm kn') (hg : w.grownBy w' (some gm)) : IW W w' cb gm g1 g2 kn' :=
  ⟨below_grown h.be hg fun k hk => by injection hk with hk; subst hk; exact h.hm, hp, hg.cell h.c1 (by intro e; injection e with e; exact h.n1 e), hg.cell h.c2 (by intro e; injection e with e; exact h.n2 e), Nat.lt_of_lt_of_le h.l1 hg.size, Nat.lt_of_lt_of_le h.l2 hg.size, h.n1, h.n2, h.hm⟩
theorem IW.new (W : World) (cb : Nat) (t1 t2 : TypeId) : IW W (((W.alloc (.map #[] 0)).alloc (.cells #[.pointer (some ⟨cb, 0, none⟩)] t1)).alloc (.cells #[.map (some W.heap.size)] t2)) cb W.heap.size (W.heap.size + 1) (W.heap.size + 1 + 1) fun _ => false :=
  ⟨((bl_a _).alloc (by simp) _).alloc (by simp; omega) _, ((mapB_made W).alloc _).alloc _, by go_simp, by go_simp, by simp, by simp, by omega, by omega, Nat.le_refl _⟩
end
theorem in_range {ps : List Int} {n : Nat} (h : allIn ps 0 ((n : Int) - 1) = true) {z : Int} (hz : z ∈ ps) : ∃ t : Nat, z = (t : Int) ∧ t < n := by
  unfold allIn at h
  rw [List.all_eq_true] at h
  have := h z hz
  simp [inB] at this
  exact ⟨z.toNat, by omega, by omega⟩
set_option maxRecDepth 100000 in
set_option maxHeartbeats 6400000 in
theorem impl_IsProof (A : Option Addr) (m c : Nat) (ds : List Rl) (B : Option Addr) (k d : Nat) (fs : List Int) (day : Int) (D : Option Addr) (q e0 : Nat) (ps : List Int) (x : Int) (w : World) (hr : RsRd w w.heap.size A m ds) (hz : szD ds ≤ 1048576) (hb : ∀ d ∈ ds, RlB d) (hf : Rd w w.heap.size 1 B k (ints fs)) (hk : k ≤ 1048576) (hfs : I64s fs)
    (hday : -9223372036854775808 ≤ day ∧ day ≤ 9223372036854775807) (hp : Rd w w.heap.size 1 D q (ints ps)) (hq : q ≤ 1048576) (hps : I64s ps) (hx : -9223372036854775808 ≤ x ∧ x ≤ 9223372036854775807) :
    Calls Try.prog 25 #[.slice A m c, .slice B k d, .int .i64 day, .slice D q e0, .int .i64 x] w fun e w' => e = .returned (.tuple #[.bool (IsProof_r0 ds fs day ps x), .bool (IsProof_r1 ds fs day ps x)]) ∧ Below w.heap.size w w' := by
  have HR := Lib.hid hr
  have HZ := Lib.hid hz
  have HRB := Lib.hid hb
  have HF := Lib.hid hf
  have HFS := Lib.hid hfs
  have HP := Lib.hid hp
  have hml := hr.len
  have hpl := hp.ilen
  have hmz : m ≤ 1048576 := sz_len hz hml
  clear hr hz hb hf hfs hp hps
  cases h1 : courtOk ds fs day
  case false =>
    have hfin := Lib.hid (ip_no (ds := ds) (fs := fs) (day := day) (ps := ps) (x := x) (by simp [ipOk, h1]))
    go_enter Try.func25, Try.ntmps25
    go_wp2_with fail
    refine (areFacts_is _ _ _ _ _ _ _ _ _ _ HR.out HZ.out HRB.out HF.out hk HFS.out hday h1).mono ?_
    rintro e w1 ⟨rfl, hb1⟩
    go_wp2_with fail
    go_ret2
    exact ⟨by rw [hfin.out.1, hfin.out.2]; rfl, hb1⟩
  cases h2 : wordB x
  case false =>
    have hfin := Lib.hid (ip_no (ds := ds) (fs := fs) (day := day) (ps := ps) (x := x) (by simp [ipOk, h2]))
    go_enter Try.func25, Try.ntmps25
    go_wp2_with fail
    refine (areFacts_is _ _ _ _ _ _ _ _ _ _ HR.out HZ.out HRB.out HF.out hk HFS.out hday h1).mono ?_
    rintro e w1 ⟨rfl, hb1⟩
    go_wp2_with (go_at_call 41; refine (isWord_is h2 _).mono ?_; rintro e w' ⟨rfl, rfl⟩)
    go_ret2
    exact ⟨by rw [hfin.out.1, hfin.out.2]; rfl, hb1⟩
  cases h3 : allIn ps 0 ((ds.length : Int) - 1)
  case false =>
    have hfin := Lib.hid (ip_no (ds := ds) (fs := fs) (day := day) (ps := ps) (x := x) (by simp [ipOk, h3]))
    rw [hml] at h3
    have H3 := Lib.hid h3
    clear h3
    go_enter Try.func25, Try.ntmps25
    go_wp2_with fail
    refine (areFacts_is _ _ _ _ _ _ _ _ _ _ HR.out HZ.out HRB.out HF.out hk HFS.out hday h1).mono ?_
    rintro e w1 ⟨rfl, hb1⟩
    go_wp2_with (go_at_call 41; refine (isWord_is h2 _).mono ?_; rintro e w' ⟨rfl, rfl⟩)
    refine (areWithin_any _ _ _ ps _ _ _ (HP.out.on hb1) (by omega)).mono ?_
    rintro e w2 ⟨rfl, hb2⟩
    rw [H3.out]
    have HB2 := Lib.hid (below_step hb1 hb2)
    clear hb1 hb2
    go_wp2_with fail
    go_ret2
    exact ⟨by rw [hfin.out.1, hfin.out.2]; rfl, HB2.out⟩
  have HOK := Lib.hid (ipOk_iff.2 ⟨h1, h2, h3⟩)
  have HIN := Lib.hid h3
  rw [hml] at h3
  have H1 := Lib.hid h1
  have H2 := Lib.hid h2
  have H3 := Lib.hid h3
  have HML := Lib.hid hml
  have HPL := Lib.hid hpl
  clear h1 h2 h3 hml hpl
  have hmf := run_makeFn
  have hmm := @run_makeMap Try.prog
  go_enter Try.func25, Try.ntmps25
  go_wp2_with fail
  refine (areFacts_is _ _ _ _ _ _ _ _ _ _ HR.out HZ.out HRB.out HF.out hk HFS.out hday H1.out).mono ?_
  rintro e w1 ⟨rfl, hb1⟩
  have HB1 := Lib.hid hb1
  clear hb1
  go_wp2_with (go_at_call 41; refine (isWord_is H2.out _).mono ?_; rintro e w' ⟨rfl, rfl⟩)
  refine (areWithin_any _ _ _ ps _ _ _ (HP.out.on HB1.out) (by omega)).mono ?_
  rintro e w2 ⟨rfl, hb2⟩
  rw [H3.out]
  have HB2 := Lib.hid (below_step HB1.out hb2)
  clear hb2
  go_wp2_with fail
  refine (judged_rs _ _ _ ds _ _ _ fs day _ (HR.out.on HB2.out) HZ.out HRB.out (HF.out.on HB2.out) hk H1.out).mono ?_
  rintro e WJ ⟨cb, A9, m9, c9, bp, bn, rs9, I9, ci9, rfl, hC, _, hcb, hb2, _, _⟩
  have HBJ := Lib.hid (below_step HB2.out hb2)
  have HC := Lib.hid hC
  have HI0 := Lib.hid (IW.new WJ cb 75 tM)
  clear hC hb2 hcb HB1 HB2 H3
  rcases Nat.eq_zero_or_pos q with hq0 | hq0
  · subst hq0
    have hfin := Lib.hid (ip_none HOK.out HPL.out)
    go_wp2_with fail
    refine (isFact_is x _ (HC.out.on HI0.out.be) rfl).mono ?_
    rintro e w5 ⟨rfl, rfl⟩
    have HB9 := Lib.hid (below_step HBJ.out HI0.out.be)
    clear HI0
    go_wp2_with fail
    go_ret2
    exact ⟨by rw [hfin.out.1, hfin.out.2]; rfl, HB9.out⟩
  obtain ⟨rs, hrr, hdat⟩ := HR.out
  have HRR := Lib.hid hrr
  have HD := Lib.hid hdat
  have HRN := Lib.hid (ruN_of hrr.nlen (by rw [hdat]; exact HZ.out) (by rw [hdat]; exact HRB.out))
  clear hrr hdat
  have hq9 : ((q : Int) == 0) = false := by simp; omega
  go_wp2_with fail
  clear hq9
  obtain ⟨gm, hgm⟩ : ∃ gm, gm = WJ.heap.size := ⟨_, rfl⟩
  have hgm1 : WJ.heap.size + 1 = gm + 1 := by omega
  obtain ⟨g1, hg1⟩ : ∃ g1, g1 = WJ.heap.size + 1 := ⟨_, rfl⟩
  obtain ⟨g2, hg2⟩ : ∃ g2, g2 = g1 + 1 := ⟨_, rfl⟩
  rw [← hg1, ← hg2] at HI0 ⊢
  clear hgm1 hg1 hg2 hgm
  go_loopw [10, 11, 15, 16, 48] (fun _ _ _ _ i wr => ∃ j : Nat, j ≤ q ∧ i = .int .i64 j ∧ ipRun ds fs day ps j = true ∧ IW WJ wr cb WJ.heap.size g1 g2 (knTo ds ps j)) (fun _ _ _ _ i _ => q - (intOf i).toNat)
  case atStart => exact ⟨0, by omega, rfl, rfl, HI0.out⟩
  case round =>
    clear HI0
    obtain ⟨j, hj, rfl, hrun, hI⟩ := hrel
    have HRUN := Lib.hid hrun
    clear hrun
    by_cases hlt : j < q
    · have hbw := below_step HBJ.out hI.be
      obtain ⟨ap, rfl, hcp⟩ := (HP.out.below hbw).int hlt
      have hpm : ps[j]?.getD 0 ∈ ps := getD_mem (by have := HPL.out; omega)
      obtain ⟨t, ht, htm⟩ := in_range HIN.out hpm
      have htm2 : t < m := by have := HML.out; omega
      rw [ht] at hcp
      obtain ⟨ad, r, rfl, hrk, ha, hri⟩ := (HRR.out.below hbw).at htm2
      have hdk : psD ds ps j = r.dat := by
        unfold psD ruD
        rw [ht, ← HD.out]
        exact dat_at hrk
      have hvi := valid_ifs (courtOk_iff.1 H1.out).1 (d := r.dat) (by rw [← HD.out]; exact List.mem_map_of_mem (List.mem_of_getElem? hrk))
      have hrn := (HRN.out r (List.mem_of_getElem? hrk)).1
      have hri2 := hri.more hbw.size
      have hwd : wordB r.hd = true := hvi.2
      obtain ⟨hd, fr, tt, rk, Ai, ni, ci, ifs⟩ := r
      simp only at hri2 hrn hwd
      obtain ⟨c0, c1', c2, c3, c4⟩ := ha
      simp only at c0 c1' c2 c3 c4
      have hd6 : I64b hd := by have := wordB_iff.1 hwd; unfold I64b; omega
      have hif6 : I64s ifs := fun z hz => by have := wordB_iff.1 (hvi.1 z hz); omega
      obtain ⟨bx, hbx⟩ : ∃ bx, bx = wr.alloc (.cells #[.int .i64 hd, .slice Ai ni ci, .int .i64 fr, .int .i64 tt, .int .i64 rk] tR) := ⟨_, rfl⟩
      have hbb : Below wr.heap.size wr bx := by rw [hbx]; exact bl_a _
      have hIb := hI.on hbb
      have KEEP := Lib.hid (fun (b : Bool) (hyb : yesB ds fs day hd = b) (w' : World) (h : Below bx.heap.size bx w') => show (fun w' => w'.cell? ⟨wr.heap.size, 0, none⟩ = some (.int .i64 hd) ∧ w'.cell? ⟨wr.heap.size, 1, none⟩ = some (.slice Ai ni ci) ∧ w'.cell? ⟨wr.heap.size, 2, none⟩ = some (.int .i64 fr) ∧ w'.cell? ⟨wr.heap.size, 3, none⟩ = some (.int .i64 tt) ∧ w'.cell? ⟨wr.heap.size, 4, none⟩ = some (.int .i64 rk) ∧ w'.cell? ⟨g1, 0, none⟩ = some (.pointer (some ⟨cb, 0, none⟩)) ∧ w'.cell? ⟨cb, 3, none⟩ = some (.map (some bp)) ∧ (Instr.lookup tM (.map (some bp)) (.int .i64 hd) false).run Try.prog w' = .ok (.bool b) w') w' from
        ⟨(h.cell (p := ⟨wr.heap.size, 0, none⟩) (by rw [hbx]; simp)).trans (by rw [hbx]; go_simp), (h.cell (p := ⟨wr.heap.size, 1, none⟩) (by rw [hbx]; simp)).trans (by rw [hbx]; go_simp), (h.cell (p := ⟨wr.heap.size, 2, none⟩) (by rw [hbx]; simp)).trans (by rw [hbx]; go_simp), (h.cell (p := ⟨wr.heap.size, 3, none⟩) (by rw [hbx]; simp)).trans (by rw [hbx]; go_simp), (h.cell (p := ⟨wr.heap.size, 4, none⟩) (by rw [hbx]; simp)).trans (by rw [hbx]; go_simp),
          (hIb.on h).c1, (HC.out.on (hIb.on h).be).c3, by rw [← hyb]; exact (HC.out.on (hIb.on h).be).my.look hd6⟩)
      have HBX := Lib.hid hbb
      have HIB := Lib.hid hIb
      have HRI := Lib.hid (hri2.on hbb)
      rw [hbx] at KEEP HBX HIB HRI
      have HDK := Lib.hid hdk
      have HWD := Lib.hid hwd
      have HIF := Lib.hid hif6
      have i1 : (0 : Int) ≤ j := by omega
      have i2 : (j : Int) < q := by omega
      have i3 : (0 : Int) ≤ t := by omega
      have i4 : (t : Int) < m := by omega
      clear hI hbw hpm ht htm htm2 hri hri2 hrk hdk hvi hbb hbx hIb hwd hd6 hif6
      cases hon : onB ⟨hd, ifs, fr, tt, rk⟩ day
      · have HON := Lib.hid hon
        have hfin := Lib.hid (ip_bad HOK.out (by have := HPL.out; omega) (show ipStep ds fs day ps j = false by unfold ipStep; rw [HDK.out]; show (onB ⟨hd, ifs, fr, tt, rk⟩ day && _) = false; rw [HON.out]; rfl))
        replace KEEP := Lib.hid (KEEP.out _ rfl)
        clear hon
        obtain ⟨yb, hyb⟩ : ∃ yb, yesB ds fs day hd = yb := ⟨_, rfl⟩
        rw [hyb] at KEEP
        clear hyb
        go_wp2_with fail
        refine wp_region_held_drew (S := (fun w' => w'.cell? ⟨wr.heap.size, 0, none⟩ = some (.int .i64 hd) ∧ w'.cell? ⟨wr.heap.size, 1, none⟩ = some (.slice Ai ni ci) ∧ w'.cell? ⟨wr.heap.size, 2, none⟩ = some (.int .i64 fr) ∧ w'.cell? ⟨wr.heap.size, 3, none⟩ = some (.int .i64 tt) ∧ w'.cell? ⟨wr.heap.size, 4, none⟩ = some (.int .i64 rk) ∧ w'.cell? ⟨g1, 0, none⟩ = some (.pointer (some ⟨cb, 0, none⟩)) ∧ w'.cell? ⟨cb, 3, none⟩ = some (.map (some bp)) ∧ (Instr.lookup tM (.map (some bp)) (.int .i64 hd) false).run Try.prog w' = .ok (.bool yb) w')) (by kernel_rfl) (KEEP.out _ (below_drewN (Below.refl _ _) 1)) (fun hHeld => ?_)
        (refine take_dst (i := 0) (v := _) (some 56) rfl rfl (by kernel_rfl) (by kernel_rfl) (by kernel_rfl) (fun _ _ _ h => h) (Or.inl ⟨by rfl, by (intro w3 hw; (try dsimp only at hw); go_simp; try with_reducible rfl)⟩) (by assumption) ?_; try simp only [Act.put, List.setIfInBounds_toArray, List.set_cons_zero, List.set_cons_succ])
        (refine take_dst (i := 1) (v := _) (some 57) rfl rfl (by kernel_rfl) (by kernel_rfl) (by kernel_rfl) (fun _ _ _ h => h) (Or.inl ⟨by rfl, by (intro w3 hw; (try dsimp only at hw); go_simp; try with_reducible rfl)⟩) (by assumption) ?_; try simp only [Act.put, List.setIfInBounds_toArray, List.set_cons_zero, List.set_cons_succ])
        (refine wpAnyH_ready (rs := [2]) (by kernel_rfl) (by simp) (AllReadyH.cons (i := 2) rfl (fun K hK => ?_) AllReadyH.nil); go_simp)
        refine (isActive_is hd fr tt rk Ai ni ci ifs day _ HON.out).mono ?_
        rintro e w3 ⟨rfl, hb2⟩
        go_wp2_with fail
        refine hK.out _ _ (KEEP.out _ ⟨hb2.os, hb2.tape, hb2.output, hb2.size, hb2.block⟩) (fun hHeld => ?_)
        clear hK K
        try simp only [Act.put, List.setIfInBounds_toArray, List.set_cons_zero, List.set_cons_succ]
        (refine take_dst (i := 3) (v := _) (some 59) rfl rfl (by kernel_rfl) (by kernel_rfl) (by kernel_rfl) (fun _ _ _ h => h) (Or.inl ⟨by rfl, by (intro w3 hw; (try dsimp only at hw); go_simp; try with_reducible rfl)⟩) (by assumption) ?_; try simp only [Act.put, List.setIfInBounds_toArray, List.set_cons_zero, List.set_cons_succ])
        (refine take_dst (i := 4) (v := _) (some 60) rfl rfl (by kernel_rfl) (by kernel_rfl) (by kernel_rfl) (fun _ _ _ h => h) (Or.inl ⟨by rfl, by (intro w3 hw; (try dsimp only at hw); go_simp; try with_reducible rfl)⟩) (by assumption) ?_; try simp only [Act.put, List.setIfInBounds_toArray, List.set_cons_zero, List.set_cons_succ])
        (refine take_dst (i := 5) (v := undef) (some 61) rfl rfl (by kernel_rfl) (by kernel_rfl) (by kernel_rfl) (fun _ _ _ h => h) (Or.inr ⟨by rfl, rfl⟩) (by assumption) ?_; try simp only [Act.put, List.setIfInBounds_toArray, List.set_cons_zero, List.set_cons_succ])
        (refine take_dst (i := 6) (v := undef) (some 62) rfl rfl (by kernel_rfl) (by kernel_rfl) (by kernel_rfl) (fun _ _ _ h => h) (Or.inr ⟨by rfl, rfl⟩) (by assumption) ?_; try simp only [Act.put, List.setIfInBounds_toArray, List.set_cons_zero, List.set_cons_succ])
        (refine take_dst (i := 7) (v := undef) (some 63) rfl rfl (by kernel_rfl) (by kernel_rfl) (by kernel_rfl) (fun _ _ _ h => h) (Or.inr ⟨by rfl, rfl⟩) (by assumption) ?_; try simp only [Act.put, List.setIfInBounds_toArray, List.set_cons_zero, List.set_cons_succ])
        (refine take_dst (i := 8) (v := undef) (some 64) rfl rfl (by kernel_rfl) (by kernel_rfl) (by kernel_rfl) (fun _ _ _ h => h) (Or.inr ⟨by rfl, rfl⟩) (by assumption) ?_; try simp only [Act.put, List.setIfInBounds_toArray, List.set_cons_zero, List.set_cons_succ])
        (refine take_dst (i := 9) (v := undef) (some 65) rfl rfl (by kernel_rfl) (by kernel_rfl) (by kernel_rfl) (fun _ _ _ h => h) (Or.inr ⟨by rfl, rfl⟩) (by assumption) ?_; try simp only [Act.put, List.setIfInBounds_toArray, List.set_cons_zero, List.set_cons_succ])
        (refine take_dst (i := 10) (v := undef) (some 66) rfl rfl (by kernel_rfl) (by kernel_rfl) (by kernel_rfl) (fun _ _ _ h => h) (Or.inr ⟨by rfl, rfl⟩) (by assumption) ?_; try simp only [Act.put, List.setIfInBounds_toArray, List.set_cons_zero, List.set_cons_succ])
        (refine take_dst (i := 11) (v := undef) (some 67) rfl rfl (by kernel_rfl) (by kernel_rfl) (by kernel_rfl) (fun _ _ _ h => h) (Or.inr ⟨by rfl, rfl⟩) (by assumption) ?_; try simp only [Act.put, List.setIfInBounds_toArray, List.set_cons_zero, List.set_cons_succ])
        (refine take_dst (i := 12) (v := undef) (some 68) rfl rfl (by kernel_rfl) (by kernel_rfl) (by kernel_rfl) (fun _ _ _ h => h) (Or.inr ⟨by rfl, rfl⟩) (by assumption) ?_; try simp only [Act.put, List.setIfInBounds_toArray, List.set_cons_zero, List.set_cons_succ])
        (refine take_dst (i := 13) (v := _) (some 69) rfl rfl (by kernel_rfl) (by kernel_rfl) (by kernel_rfl) (fun _ _ _ h => h) (Or.inl ⟨by rfl, by (intro w3 hw; (try dsimp only at hw); go_simp; try with_reducible rfl)⟩) (by assumption) ?_; try simp only [Act.put, List.setIfInBounds_toArray, List.set_cons_zero, List.set_cons_succ])
        (refine take_dst (i := 14) (v := _) (some 70) rfl rfl (by kernel_rfl) (by kernel_rfl) (by kernel_rfl) (fun _ _ _ h => h) (Or.inl ⟨by rfl, by (intro w3 hw; (try dsimp only at hw); go_simp; try with_reducible rfl)⟩) (by assumption) ?_; try simp only [Act.put, List.setIfInBounds_toArray, List.set_cons_zero, List.set_cons_succ])
        (refine take_dst (i := 15) (v := undef) (some 71) rfl rfl (by kernel_rfl) (by kernel_rfl) (by kernel_rfl) (fun _ _ _ h => h) (Or.inr ⟨by rfl, rfl⟩) (by assumption) ?_; try simp only [Act.put, List.setIfInBounds_toArray, List.set_cons_zero, List.set_cons_succ])
        (refine take_dst (i := 16) (v := undef) (some 72) rfl rfl (by kernel_rfl) (by kernel_rfl) (by kernel_rfl) (fun _ _ _ h => h) (Or.inr ⟨by rfl, rfl⟩) (by assumption) ?_; try simp only [Act.put, List.setIfInBounds_toArray, List.set_cons_zero, List.set_cons_succ])
        (refine take_dst (i := 17) (v := undef) (some 73) rfl rfl (by kernel_rfl) (by kernel_rfl) (by kernel_rfl) (fun _ _ _ h => h) (Or.inr ⟨by rfl, rfl⟩) (by assumption) ?_; try simp only [Act.put, List.setIfInBounds_toArray, List.set_cons_zero, List.set_cons_succ])
        (refine take_dst (i := 18) (v := undef) (some 74) rfl rfl (by kernel_rfl) (by kernel_rfl) (by kernel_rfl) (fun _ _ _ h => h) (Or.inr ⟨by rfl, rfl⟩) (by assumption) ?_; try simp only [Act.put, List.setIfInBounds_toArray, List.set_cons_zero, List.set_cons_succ])
        (refine take_dst (i := 19) (v := _) (some 75) rfl rfl (by kernel_rfl) (by kernel_rfl) (by kernel_rfl) (fun _ _ _ h => h) (Or.inl ⟨by rfl, by (intro w3 hw; (try dsimp only at hw); go_simp; try with_reducible rfl)⟩) (by assumption) ?_; try simp only [Act.put, List.setIfInBounds_toArray, List.set_cons_zero, List.set_cons_succ])
        refine wpAnyH_done (by kernel_rfl) ?_ _
        have HI3 := Lib.hid (HIB.out.on ((below_drewN (Below.refl _ _) 1).trans (hb2.mono (Nat.le_refl _))))
        have HB3 := Lib.hid (below_step HBJ.out HI3.out.be)
        clear hb2 hHeld HIB KEEP
        go_wp2_with fail
        go_ret2
        exact ⟨by rw [hfin.out.1, hfin.out.2]; rfl, HB3.out⟩
      have HON := Lib.hid hon
      clear hon
      cases hyb : yesB ds fs day hd
      · have hfin := Lib.hid (ip_bad HOK.out (by have := HPL.out; omega) (show ipStep ds fs day ps j = false by unfold ipStep; rw [HDK.out]; show (onB ⟨hd, ifs, fr, tt, rk⟩ day && (yesB ds fs day hd && _)) = false; rw [hyb]; simp))
        replace KEEP := Lib.hid (KEEP.out _ hyb)
        clear hyb
        go_wp2_with fail
        refine wp_region_held_drew (S := (fun w' => w'.cell? ⟨wr.heap.size, 0, none⟩ = some (.int .i64 hd) ∧ w'.cell? ⟨wr.heap.size, 1, none⟩ = some (.slice Ai ni ci) ∧ w'.cell? ⟨wr.heap.size, 2, none⟩ = some (.int .i64 fr) ∧ w'.cell? ⟨wr.heap.size, 3, none⟩ = some (.int .i64 tt) ∧ w'.cell? ⟨wr.heap.size, 4, none⟩ = some (.int .i64 rk) ∧ w'.cell? ⟨g1, 0, none⟩ = some (.pointer (some ⟨cb, 0, none⟩)) ∧ w'.cell? ⟨cb, 3, none⟩ = some (.map (some bp)) ∧ (Instr.lookup tM (.map (some bp)) (.int .i64 hd) false).run Try.prog w' = .ok (.bool false) w')) (by kernel_rfl) (KEEP.out _ (below_drewN (Below.refl _ _) 1)) (fun hHeld => ?_)
        (refine take_dst (i := 0) (v := _) (some 56) rfl rfl (by kernel_rfl) (by kernel_rfl) (by kernel_rfl) (fun _ _ _ h => h) (Or.inl ⟨by rfl, by (intro w3 hw; (try dsimp only at hw); go_simp; try with_reducible rfl)⟩) (by assumption) ?_; try simp only [Act.put, List.setIfInBounds_toArray, List.set_cons_zero, List.set_cons_succ])
        (refine take_dst (i := 1) (v := _) (some 57) rfl rfl (by kernel_rfl) (by kernel_rfl) (by kernel_rfl) (fun _ _ _ h => h) (Or.inl ⟨by rfl, by (intro w3 hw; (try dsimp only at hw); go_simp; try with_reducible rfl)⟩) (by assumption) ?_; try simp only [Act.put, List.setIfInBounds_toArray, List.set_cons_zero, List.set_cons_succ])
        (refine wpAnyH_ready (rs := [2]) (by kernel_rfl) (by simp) (AllReadyH.cons (i := 2) rfl (fun K hK => ?_) AllReadyH.nil); go_simp)
        refine (isActive_is hd fr tt rk Ai ni ci ifs day _ HON.out).mono ?_
        rintro e w3 ⟨rfl, hb2⟩
        go_wp2_with fail
        refine hK.out _ _ (KEEP.out _ ⟨hb2.os, hb2.tape, hb2.output, hb2.size, hb2.block⟩) (fun hHeld => ?_)
        clear hK K
        try simp only [Act.put, List.setIfInBounds_toArray, List.set_cons_zero, List.set_cons_succ]
        (refine take_dst (i := 3) (v := _) (some 59) rfl rfl (by kernel_rfl) (by kernel_rfl) (by kernel_rfl) (fun _ _ _ h => h) (Or.inl ⟨by rfl, by (intro w3 hw; (try dsimp only at hw); go_simp; try with_reducible rfl)⟩) (by assumption) ?_; try simp only [Act.put, List.setIfInBounds_toArray, List.set_cons_zero, List.set_cons_succ])
        (refine take_dst (i := 4) (v := _) (some 60) rfl rfl (by kernel_rfl) (by kernel_rfl) (by kernel_rfl) (fun _ _ _ h => h) (Or.inl ⟨by rfl, by (intro w3 hw; (try dsimp only at hw); go_simp; try with_reducible rfl)⟩) (by assumption) ?_; try simp only [Act.put, List.setIfInBounds_toArray, List.set_cons_zero, List.set_cons_succ])
        (refine take_dst (i := 5) (v := _) (some 61) rfl rfl (by kernel_rfl) (by kernel_rfl) (by kernel_rfl) (fun _ _ _ h => h) (Or.inl ⟨by rfl, by (intro w3 hw; (try dsimp only at hw); go_simp; try with_reducible rfl)⟩) (by assumption) ?_; try simp only [Act.put, List.setIfInBounds_toArray, List.set_cons_zero, List.set_cons_succ])
        (refine take_dst (i := 6) (v := _) (some 62) rfl rfl (by kernel_rfl) (by kernel_rfl) (by kernel_rfl) (fun _ _ _ h => h) (Or.inl ⟨by rfl, by (intro w3 hw; (try dsimp only at hw); go_simp; try with_reducible rfl)⟩) (by assumption) ?_; try simp only [Act.put, List.setIfInBounds_toArray, List.set_cons_zero, List.set_cons_succ])
        (refine take_dst (i := 7) (v := _) (some 63) rfl rfl (by kernel_rfl) (by kernel_rfl) (by kernel_rfl) (fun _ _ _ h => h) (Or.inl ⟨by rfl, by (intro w3 hw; (try dsimp only at hw); go_simp; try with_reducible rfl)⟩) (by assumption) ?_; try simp only [Act.put, List.setIfInBounds_toArray, List.set_cons_zero, List.set_cons_succ])
        (refine take_dst (i := 8) (v := _) (some 64) rfl rfl (by kernel_rfl) (by kernel_rfl) (by kernel_rfl) (fun _ _ _ h => h) (Or.inl ⟨by rfl, by (intro w3 hw; (try dsimp only at hw); go_simp; try with_reducible rfl)⟩) (by assumption) ?_; try simp only [Act.put, List.setIfInBounds_toArray, List.set_cons_zero, List.set_cons_succ])
        (refine take_dst (i := 9) (v := _) (some 65) rfl rfl (by kernel_rfl) (by kernel_rfl) (by kernel_rfl) (fun _ _ _ h => h) (Or.inl ⟨by rfl, by (intro w3 hw; (try dsimp only at hw); go_simp; try with_reducible rfl)⟩) (by assumption) ?_; try simp only [Act.put, List.setIfInBounds_toArray, List.set_cons_zero, List.set_cons_succ])
        (refine take_dst (i := 10) (v := _) (some 66) rfl rfl (by kernel_rfl) (by kernel_rfl) (by kernel_rfl) (fun _ _ _ h => h) (Or.inl ⟨by rfl, by (intro w3 hw; (try dsimp only at hw); go_simp; try with_reducible rfl)⟩) (by assumption) ?_; try simp only [Act.put, List.setIfInBounds_toArray, List.set_cons_zero, List.set_cons_succ])
        (refine take_dst (i := 11) (v := _) (some 67) rfl rfl (by kernel_rfl) (by kernel_rfl) (by kernel_rfl) (fun _ _ _ h => h) (Or.inl ⟨by rfl, by (intro w3 hw; (try dsimp only at hw); go_simp; try with_reducible rfl)⟩) (by assumption) ?_; try simp only [Act.put, List.setIfInBounds_toArray, List.set_cons_zero, List.set_cons_succ])
        (refine take_dst (i := 12) (v := _) (some 68) rfl rfl (by kernel_rfl) (by kernel_rfl) (by kernel_rfl) (fun _ _ _ h => h) (Or.inl ⟨by rfl, by (intro w3 hw; (try dsimp only at hw); go_simp; try with_reducible rfl)⟩) (by assumption) ?_; try simp only [Act.put, List.setIfInBounds_toArray, List.set_cons_zero, List.set_cons_succ])
        (refine take_dst (i := 13) (v := _) (some 69) rfl rfl (by kernel_rfl) (by kernel_rfl) (by kernel_rfl) (fun _ _ _ h => h) (Or.inl ⟨by rfl, by (intro w3 hw; (try dsimp only at hw); go_simp; try with_reducible rfl)⟩) (by assumption) ?_; try simp only [Act.put, List.setIfInBounds_toArray, List.set_cons_zero, List.set_cons_succ])
        (refine take_dst (i := 14) (v := _) (some 70) rfl rfl (by kernel_rfl) (by kernel_rfl) (by kernel_rfl) (fun _ _ _ h => h) (Or.inl ⟨by rfl, by (intro w3 hw; (try dsimp only at hw); go_simp; try with_reducible rfl)⟩) (by assumption) ?_; try simp only [Act.put, List.setIfInBounds_toArray, List.set_cons_zero, List.set_cons_succ])
        (refine take_dst (i := 15) (v := undef) (some 71) rfl rfl (by kernel_rfl) (by kernel_rfl) (by kernel_rfl) (fun _ _ _ h => h) (Or.inr ⟨by rfl, rfl⟩) (by assumption) ?_; try simp only [Act.put, List.setIfInBounds_toArray, List.set_cons_zero, List.set_cons_succ])
        (refine take_dst (i := 16) (v := undef) (some 72) rfl rfl (by kernel_rfl) (by kernel_rfl) (by kernel_rfl) (fun _ _ _ h => h) (Or.inr ⟨by rfl, rfl⟩) (by assumption) ?_; try simp only [Act.put, List.setIfInBounds_toArray, List.set_cons_zero, List.set_cons_succ])
        (refine take_dst (i := 17) (v := undef) (some 73) rfl rfl (by kernel_rfl) (by kernel_rfl) (by kernel_rfl) (fun _ _ _ h => h) (Or.inr ⟨by rfl, rfl⟩) (by assumption) ?_; try simp only [Act.put, List.setIfInBounds_toArray, List.set_cons_zero, List.set_cons_succ])
        (refine take_dst (i := 18) (v := undef) (some 74) rfl rfl (by kernel_rfl) (by kernel_rfl) (by kernel_rfl) (fun _ _ _ h => h) (Or.inr ⟨by rfl, rfl⟩) (by assumption) ?_; try simp only [Act.put, List.setIfInBounds_toArray, List.set_cons_zero, List.set_cons_succ])
        (refine take_dst (i := 19) (v := _) (some 75) rfl rfl (by kernel_rfl) (by kernel_rfl) (by kernel_rfl) (fun _ _ _ h => h) (Or.inl ⟨by rfl, by (intro w3 hw; (try dsimp only at hw); go_simp; try with_reducible rfl)⟩) (by assumption) ?_; try simp only [Act.put, List.setIfInBounds_toArray, List.set_cons_zero, List.set_cons_succ])
        refine wpAnyH_done (by kernel_rfl) ?_ _
        have HI3 := Lib.hid (HIB.out.on ((below_drewN (Below.refl _ _) 1).trans (hb2.mono (Nat.le_refl _))))
        have HB3 := Lib.hid (below_step HBJ.out HI3.out.be)
        clear hb2 hHeld HIB KEEP
        go_wp2_with fail
        go_ret2
        exact ⟨by rw [hfin.out.1, hfin.out.2]; rfl, HB3.out⟩
      have HYB := Lib.hid hyb
      replace KEEP := Lib.hid (KEEP.out _ hyb)
      clear hyb
      cases hany : ifs.any (fun z => !facB fs z && !knTo ds ps j z)
      case true =>
        have hfin := Lib.hid (ip_bad HOK.out (by have := HPL.out; omega) (show ipStep ds fs day ps j = false by unfold ipStep; rw [HDK.out]; show (_ && (_ && ifs.all fun z => facB fs z || knTo ds ps j z)) = false; rw [all_any, hany]; simp))
        have HANY := Lib.hid hany
        clear hany
        go_wp2_with fail
        refine wp_region_held_drew (S := (fun w' => w'.cell? ⟨wr.heap.size, 0, none⟩ = some (.int .i64 hd) ∧ w'.cell? ⟨wr.heap.size, 1, none⟩ = some (.slice Ai ni ci) ∧ w'.cell? ⟨wr.heap.size, 2, none⟩ = some (.int .i64 fr) ∧ w'.cell? ⟨wr.heap.size, 3, none⟩ = some (.int .i64 tt) ∧ w'.cell? ⟨wr.heap.size, 4, none⟩ = some (.int .i64 rk) ∧ w'.cell? ⟨g1, 0, none⟩ = some (.pointer (some ⟨cb, 0, none⟩)) ∧ w'.cell? ⟨cb, 3, none⟩ = some (.map (some bp)) ∧ (Instr.lookup tM (.map (some bp)) (.int .i64 hd) false).run Try.prog w' = .ok (.bool true) w')) (by kernel_rfl) (KEEP.out _ (below_drewN (Below.refl _ _) 1)) (fun hHeld => ?_)
        (refine take_dst (i := 0) (v := _) (some 56) rfl rfl (by kernel_rfl) (by kernel_rfl) (by kernel_rfl) (fun _ _ _ h => h) (Or.inl ⟨by rfl, by (intro w3 hw; (try dsimp only at hw); go_simp; try with_reducible rfl)⟩) (by assumption) ?_; try simp only [Act.put, List.setIfInBounds_toArray, List.set_cons_zero, List.set_cons_succ])
        (refine take_dst (i := 1) (v := _) (some 57) rfl rfl (by kernel_rfl) (by kernel_rfl) (by kernel_rfl) (fun _ _ _ h => h) (Or.inl ⟨by rfl, by (intro w3 hw; (try dsimp only at hw); go_simp; try with_reducible rfl)⟩) (by assumption) ?_; try simp only [Act.put, List.setIfInBounds_toArray, List.set_cons_zero, List.set_cons_succ])
        (refine wpAnyH_ready (rs := [2]) (by kernel_rfl) (by simp) (AllReadyH.cons (i := 2) rfl (fun K hK => ?_) AllReadyH.nil); go_simp)
        refine (isActive_is hd fr tt rk Ai ni ci ifs day _ HON.out).mono ?_
        rintro e w3 ⟨rfl, hb2⟩
        go_wp2_with fail
        refine hK.out _ _ (KEEP.out _ ⟨hb2.os, hb2.tape, hb2.output, hb2.size, hb2.block⟩) (fun hHeld => ?_)
        clear hK K
        try simp only [Act.put, List.setIfInBounds_toArray, List.set_cons_zero, List.set_cons_succ]
        (refine take_dst (i := 3) (v := _) (some 59) rfl rfl (by kernel_rfl) (by kernel_rfl) (by kernel_rfl) (fun _ _ _ h => h) (Or.inl ⟨by rfl, by (intro w3 hw; (try dsimp only at hw); go_simp; try with_reducible rfl)⟩) (by assumption) ?_; try simp only [Act.put, List.setIfInBounds_toArray, List.set_cons_zero, List.set_cons_succ])
        (refine take_dst (i := 4) (v := _) (some 60) rfl rfl (by kernel_rfl) (by kernel_rfl) (by kernel_rfl) (fun _ _ _ h => h) (Or.inl ⟨by rfl, by (intro w3 hw; (try dsimp only at hw); go_simp; try with_reducible rfl)⟩) (by assumption) ?_; try simp only [Act.put, List.setIfInBounds_toArray, List.set_cons_zero, List.set_cons_succ])
        (refine take_dst (i := 5) (v := _) (some 61) rfl rfl (by kernel_rfl) (by kernel_rfl) (by kernel_rfl) (fun _ _ _ h => h) (Or.inl ⟨by rfl, by (intro w3 hw; (try dsimp only at hw); go_simp; try with_reducible rfl)⟩) (by assumption) ?_; try simp only [Act.put, List.setIfInBounds_toArray, List.set_cons_zero, List.set_cons_succ])
        (refine take_dst (i := 6) (v := _) (some 62) rfl rfl (by kernel_rfl) (by kernel_rfl) (by kernel_rfl) (fun _ _ _ h => h) (Or.inl ⟨by rfl, by (intro w3 hw; (try dsimp only at hw); go_simp; try with_reducible rfl)⟩) (by assumption) ?_; try simp only [Act.put, List.setIfInBounds_toArray, List.set_cons_zero, List.set_cons_succ])
        (refine take_dst (i := 7) (v := _) (some 63) rfl rfl (by kernel_rfl) (by kernel_rfl) (by kernel_rfl) (fun _ _ _ h => h) (Or.inl ⟨by rfl, by (intro w3 hw; (try dsimp only at hw); go_simp; try with_reducible rfl)⟩) (by assumption) ?_; try simp only [Act.put, List.setIfInBounds_toArray, List.set_cons_zero, List.set_cons_succ])
        (refine take_dst (i := 8) (v := _) (some 64) rfl rfl (by kernel_rfl) (by kernel_rfl) (by kernel_rfl) (fun _ _ _ h => h) (Or.inl ⟨by rfl, by (intro w3 hw; (try dsimp only at hw); go_simp; try with_reducible rfl)⟩) (by assumption) ?_; try simp only [Act.put, List.setIfInBounds_toArray, List.set_cons_zero, List.set_cons_succ])
        (refine take_dst (i := 9) (v := _) (some 65) rfl rfl (by kernel_rfl) (by kernel_rfl) (by kernel_rfl) (fun _ _ _ h => h) (Or.inl ⟨by rfl, by (intro w3 hw; (try dsimp only at hw); go_simp; try with_reducible rfl)⟩) (by assumption) ?_; try simp only [Act.put, List.setIfInBounds_toArray, List.set_cons_zero, List.set_cons_succ])
        (refine take_dst (i := 10) (v := _) (some 66) rfl rfl (by kernel_rfl) (by kernel_rfl) (by kernel_rfl) (fun _ _ _ h => h) (Or.inl ⟨by rfl, by (intro w3 hw; (try dsimp only at hw); go_simp; try with_reducible rfl)⟩) (by assumption) ?_; try simp only [Act.put, List.setIfInBounds_toArray, List.set_cons_zero, List.set_cons_succ])
        (refine take_dst (i := 11) (v := _) (some 67) rfl rfl (by kernel_rfl) (by kernel_rfl) (by kernel_rfl) (fun _ _ _ h => h) (Or.inl ⟨by rfl, by (intro w3 hw; (try dsimp only at hw); go_simp; try with_reducible rfl)⟩) (by assumption) ?_; try simp only [Act.put, List.setIfInBounds_toArray, List.set_cons_zero, List.set_cons_succ])
        (refine take_dst (i := 12) (v := _) (some 68) rfl rfl (by kernel_rfl) (by kernel_rfl) (by kernel_rfl) (fun _ _ _ h => h) (Or.inl ⟨by rfl, by (intro w3 hw; (try dsimp only at hw); go_simp; try with_reducible rfl)⟩) (by assumption) ?_; try simp only [Act.put, List.setIfInBounds_toArray, List.set_cons_zero, List.set_cons_succ])
        (refine take_dst (i := 13) (v := _) (some 69) rfl rfl (by kernel_rfl) (by kernel_rfl) (by kernel_rfl) (fun _ _ _ h => h) (Or.inl ⟨by rfl, by (intro w3 hw; (try dsimp only at hw); go_simp; try with_reducible rfl)⟩) (by assumption) ?_; try simp only [Act.put, List.setIfInBounds_toArray, List.set_cons_zero, List.set_cons_succ])
        (refine take_dst (i := 14) (v := _) (some 70) rfl rfl (by kernel_rfl) (by kernel_rfl) (by kernel_rfl) (fun _ _ _ h => h) (Or.inl ⟨by rfl, by (intro w3 hw; (try dsimp only at hw); go_simp; try with_reducible rfl)⟩) (by assumption) ?_; try simp only [Act.put, List.setIfInBounds_toArray, List.set_cons_zero, List.set_cons_succ])
        (refine take_dst (i := 15) (v := _) (some 71) rfl rfl (by kernel_rfl) (by kernel_rfl) (by kernel_rfl) (fun _ _ _ h => h) (Or.inl ⟨by rfl, by (intro w3 hw; (try dsimp only at hw); go_simp; try with_reducible rfl)⟩) (by assumption) ?_; try simp only [Act.put, List.setIfInBounds_toArray, List.set_cons_zero, List.set_cons_succ])
        (refine take_dst (i := 16) (v := _) (some 72) rfl rfl (by kernel_rfl) (by kernel_rfl) (by kernel_rfl) (fun _ _ _ h => h) (Or.inl ⟨by rfl, by (intro w3 hw; (try dsimp only at hw); go_simp; try with_reducible rfl)⟩) (by assumption) ?_; try simp only [Act.put, List.setIfInBounds_toArray, List.set_cons_zero, List.set_cons_succ])
        (refine take_dst (i := 17) (v := _) (some 73) rfl rfl (by kernel_rfl) (by kernel_rfl) (by kernel_rfl) (fun _ _ _ h => h) (Or.inl ⟨by rfl, by (intro w3 hw; (try dsimp only at hw); go_simp; try with_reducible rfl)⟩) (by assumption) ?_; try simp only [Act.put, List.setIfInBounds_toArray, List.set_cons_zero, List.set_cons_succ])
        have hi3 := HIB.out.on ((below_drewN (Below.refl _ _) 1).trans (hb2.mono (Nat.le_refl _)))
        have HI3 := Lib.hid hi3
        (refine wpAnyH_ready (rs := [18]) (by kernel_rfl) (by simp) (AllReadyH.cons (i := 18) rfl (fun K hK => ?_) AllReadyH.nil); go_simp)
        refine (ip_contains Ai ni ci ifs g1 _ (HRI.out.on ((below_drewN (Below.refl _ _) 1).trans (hb2.mono (Nat.le_refl _)))) hrn HIF.out (HC.out.on hi3.be) hi3.c1 _ g2 _ hi3.mp hi3.c2 HANY.out).mono ?_
        rintro e w' ⟨rfl, rfl⟩
        go_wp2_with fail
        refine hK.out _ _ hHeld (fun hHeld => ?_)
        clear hK K
        try simp only [Act.put, List.setIfInBounds_toArray, List.set_cons_zero, List.set_cons_succ]
        (refine take_dst (i := 19) (v := _) (some 75) rfl rfl (by kernel_rfl) (by kernel_rfl) (by kernel_rfl) (fun _ _ _ h => h) (Or.inl ⟨by rfl, by (intro w3 hw; (try dsimp only at hw); go_simp; try with_reducible rfl)⟩) (by assumption) ?_; try simp only [Act.put, List.setIfInBounds_toArray, List.set_cons_zero, List.set_cons_succ])
        refine wpAnyH_done (by kernel_rfl) ?_ _
        have HB3 := Lib.hid (below_step HBJ.out HI3.out.be)
        clear hb2 hHeld HIB KEEP
        go_wp2_with fail
        go_ret2
        exact ⟨by rw [hfin.out.1, hfin.out.2]; rfl, HB3.out⟩
      case false =>
        have hnx := Lib.hid (show ipRun ds fs day ps (j + 1) = true by
          rw [ipRun_succ, HRUN.out]
          unfold ipStep; rw [HDK.out]
          show (true && (onB ⟨hd, ifs, fr, tt, rk⟩ day && (yesB ds fs day hd && ifs.all fun z => facB fs z || knTo ds ps j z))) = true
          rw [all_any, hany, HON.out, HYB.out]; rfl)
        have hkn := Lib.hid (show knTo ds ps (j + 1) = putB (knTo ds ps j) hd by rw [knTo, HDK.out]; rfl)
        have HANY := Lib.hid hany
        clear hany
        go_wp2_with fail
        refine wp_region_held_drew (S := (fun w' => w'.cell? ⟨wr.heap.size, 0, none⟩ = some (.int .i64 hd) ∧ w'.cell? ⟨wr.heap.size, 1, none⟩ = some (.slice Ai ni ci) ∧ w'.cell? ⟨wr.heap.size, 2, none⟩ = some (.int .i64 fr) ∧ w'.cell? ⟨wr.heap.size, 3, none⟩ = some (.int .i64 tt) ∧ w'.cell? ⟨wr.heap.size, 4, none⟩ = some (.int .i64 rk) ∧ w'.cell? ⟨g1, 0, none⟩ = some (.pointer (some ⟨cb, 0, none⟩)) ∧ w'.cell? ⟨cb, 3, none⟩ = some (.map (some bp)) ∧ (Instr.lookup tM (.map (some bp)) (.int .i64 hd) false).run Try.prog w' = .ok (.bool true) w')) (by kernel_rfl) (KEEP.out _ (below_drewN (Below.refl _ _) 1)) (fun hHeld => ?_)
        (refine take_dst (i := 0) (v := _) (some 56) rfl rfl (by kernel_rfl) (by kernel_rfl) (by kernel_rfl) (fun _ _ _ h => h) (Or.inl ⟨by rfl, by (intro w3 hw; (try dsimp only at hw); go_simp; try with_reducible rfl)⟩) (by assumption) ?_; try simp only [Act.put, List.setIfInBounds_toArray, List.set_cons_zero, List.set_cons_succ])
        (refine take_dst (i := 1) (v := _) (some 57) rfl rfl (by kernel_rfl) (by kernel_rfl) (by kernel_rfl) (fun _ _ _ h => h) (Or.inl ⟨by rfl, by (intro w3 hw; (try dsimp only at hw); go_simp; try with_reducible rfl)⟩) (by assumption) ?_; try simp only [Act.put, List.setIfInBounds_toArray, List.set_cons_zero, List.set_cons_succ])
        (refine wpAnyH_ready (rs := [2]) (by kernel_rfl) (by simp) (AllReadyH.cons (i := 2) rfl (fun K hK => ?_) AllReadyH.nil); go_simp)
        refine (isActive_is hd fr tt rk Ai ni ci ifs day _ HON.out).mono ?_
        rintro e w3 ⟨rfl, hb2⟩
        go_wp2_with fail
        refine hK.out _ _ (KEEP.out _ ⟨hb2.os, hb2.tape, hb2.output, hb2.size, hb2.block⟩) (fun hHeld => ?_)
        clear hK K
        try simp only [Act.put, List.setIfInBounds_toArray, List.set_cons_zero, List.set_cons_succ]
        (refine take_dst (i := 3) (v := _) (some 59) rfl rfl (by kernel_rfl) (by kernel_rfl) (by kernel_rfl) (fun _ _ _ h => h) (Or.inl ⟨by rfl, by (intro w3 hw; (try dsimp only at hw); go_simp; try with_reducible rfl)⟩) (by assumption) ?_; try simp only [Act.put, List.setIfInBounds_toArray, List.set_cons_zero, List.set_cons_succ])
        (refine take_dst (i := 4) (v := _) (some 60) rfl rfl (by kernel_rfl) (by kernel_rfl) (by kernel_rfl) (fun _ _ _ h => h) (Or.inl ⟨by rfl, by (intro w3 hw; (try dsimp only at hw); go_simp; try with_reducible rfl)⟩) (by assumption) ?_; try simp only [Act.put, List.setIfInBounds_toArray, List.set_cons_zero, List.set_cons_succ])
        (refine take_dst (i := 5) (v := _) (some 61) rfl rfl (by kernel_rfl) (by kernel_rfl) (by kernel_rfl) (fun _ _ _ h => h) (Or.inl ⟨by rfl, by (intro w3 hw; (try dsimp only at hw); go_simp; try with_reducible rfl)⟩) (by assumption) ?_; try simp only [Act.put, List.setIfInBounds_toArray, List.set_cons_zero, List.set_cons_succ])
        (refine take_dst (i := 6) (v := _) (some 62) rfl rfl (by kernel_rfl) (by kernel_rfl) (by kernel_rfl) (fun _ _ _ h => h) (Or.inl ⟨by rfl, by (intro w3 hw; (try dsimp only at hw); go_simp; try with_reducible rfl)⟩) (by assumption) ?_; try simp only [Act.put, List.setIfInBounds_toArray, List.set_cons_zero, List.set_cons_succ])
        (refine take_dst (i := 7) (v := _) (some 63) rfl rfl (by kernel_rfl) (by kernel_rfl) (by kernel_rfl) (fun _ _ _ h => h) (Or.inl ⟨by rfl, by (intro w3 hw; (try dsimp only at hw); go_simp; try with_reducible rfl)⟩) (by assumption) ?_; try simp only [Act.put, List.setIfInBounds_toArray, List.set_cons_zero, List.set_cons_succ])
        (refine take_dst (i := 8) (v := _) (some 64) rfl rfl (by kernel_rfl) (by kernel_rfl) (by kernel_rfl) (fun _ _ _ h => h) (Or.inl ⟨by rfl, by (intro w3 hw; (try dsimp only at hw); go_simp; try with_reducible rfl)⟩) (by assumption) ?_; try simp only [Act.put, List.setIfInBounds_toArray, List.set_cons_zero, List.set_cons_succ])
        (refine take_dst (i := 9) (v := _) (some 65) rfl rfl (by kernel_rfl) (by kernel_rfl) (by kernel_rfl) (fun _ _ _ h => h) (Or.inl ⟨by rfl, by (intro w3 hw; (try dsimp only at hw); go_simp; try with_reducible rfl)⟩) (by assumption) ?_; try simp only [Act.put, List.setIfInBounds_toArray, List.set_cons_zero, List.set_cons_succ])
        (refine take_dst (i := 10) (v := _) (some 66) rfl rfl (by kernel_rfl) (by kernel_rfl) (by kernel_rfl) (fun _ _ _ h => h) (Or.inl ⟨by rfl, by (intro w3 hw; (try dsimp only at hw); go_simp; try with_reducible rfl)⟩) (by assumption) ?_; try simp only [Act.put, List.setIfInBounds_toArray, List.set_cons_zero, List.set_cons_succ])
        (refine take_dst (i := 11) (v := _) (some 67) rfl rfl (by kernel_rfl) (by kernel_rfl) (by kernel_rfl) (fun _ _ _ h => h) (Or.inl ⟨by rfl, by (intro w3 hw; (try dsimp only at hw); go_simp; try with_reducible rfl)⟩) (by assumption) ?_; try simp only [Act.put, List.setIfInBounds_toArray, List.set_cons_zero, List.set_cons_succ])
        (refine take_dst (i := 12) (v := _) (some 68) rfl rfl (by kernel_rfl) (by kernel_rfl) (by kernel_rfl) (fun _ _ _ h => h) (Or.inl ⟨by rfl, by (intro w3 hw; (try dsimp only at hw); go_simp; try with_reducible rfl)⟩) (by assumption) ?_; try simp only [Act.put, List.setIfInBounds_toArray, List.set_cons_zero, List.set_cons_succ])
        (refine take_dst (i := 13) (v := _) (some 69) rfl rfl (by kernel_rfl) (by kernel_rfl) (by kernel_rfl) (fun _ _ _ h => h) (Or.inl ⟨by rfl, by (intro w3 hw; (try dsimp only at hw); go_simp; try with_reducible rfl)⟩) (by assumption) ?_; try simp only [Act.put, List.setIfInBounds_toArray, List.set_cons_zero, List.set_cons_succ])
        (refine take_dst (i := 14) (v := _) (some 70) rfl rfl (by kernel_rfl) (by kernel_rfl) (by kernel_rfl) (fun _ _ _ h => h) (Or.inl ⟨by rfl, by (intro w3 hw; (try dsimp only at hw); go_simp; try with_reducible rfl)⟩) (by assumption) ?_; try simp only [Act.put, List.setIfInBounds_toArray, List.set_cons_zero, List.set_cons_succ])
        (refine take_dst (i := 15) (v := _) (some 71) rfl rfl (by kernel_rfl) (by kernel_rfl) (by kernel_rfl) (fun _ _ _ h => h) (Or.inl ⟨by rfl, by (intro w3 hw; (try dsimp only at hw); go_simp; try with_reducible rfl)⟩) (by assumption) ?_; try simp only [Act.put, List.setIfInBounds_toArray, List.set_cons_zero, List.set_cons_succ])
        (refine take_dst (i := 16) (v := _) (some 72) rfl rfl (by kernel_rfl) (by kernel_rfl) (by kernel_rfl) (fun _ _ _ h => h) (Or.inl ⟨by rfl, by (intro w3 hw; (try dsimp only at hw); go_simp; try with_reducible rfl)⟩) (by assumption) ?_; try simp only [Act.put, List.setIfInBounds_toArray, List.set_cons_zero, List.set_cons_succ])
        (refine take_dst (i := 17) (v := _) (some 73) rfl rfl (by kernel_rfl) (by kernel_rfl) (by kernel_rfl) (fun _ _ _ h => h) (Or.inl ⟨by rfl, by (intro w3 hw; (try dsimp only at hw); go_simp; try with_reducible rfl)⟩) (by assumption) ?_; try simp only [Act.put, List.setIfInBounds_toArray, List.set_cons_zero, List.set_cons_succ])
        have hi3 := HIB.out.on ((below_drewN (Below.refl _ _) 1).trans (hb2.mono (Nat.le_refl _)))
        have HI3 := Lib.hid hi3
        (refine wpAnyH_ready (rs := [18]) (by kernel_rfl) (by simp) (AllReadyH.cons (i := 18) rfl (fun K hK => ?_) AllReadyH.nil); go_simp)
        refine (ip_contains Ai ni ci ifs g1 _ (HRI.out.on ((below_drewN (Below.refl _ _) 1).trans (hb2.mono (Nat.le_refl _)))) hrn HIF.out (HC.out.on hi3.be) hi3.c1 _ g2 _ hi3.mp hi3.c2 HANY.out).mono ?_
        rintro e w' ⟨rfl, rfl⟩
        go_wp2_with fail
        refine hK.out _ _ hHeld (fun hHeld => ?_)
        clear hK K
        try simp only [Act.put, List.setIfInBounds_toArray, List.set_cons_zero, List.set_cons_succ]
        (refine take_dst (i := 19) (v := _) (some 75) rfl rfl (by kernel_rfl) (by kernel_rfl) (by kernel_rfl) (fun _ _ _ h => h) (Or.inl ⟨by rfl, by (intro w3 hw; (try dsimp only at hw); go_simp; try with_reducible rfl)⟩) (by assumption) ?_; try simp only [Act.put, List.setIfInBounds_toArray, List.set_cons_zero, List.set_cons_succ])
        refine wpAnyH_done (by kernel_rfl) ?_ _
        have e1 := hHeld.1
        obtain ⟨w4, hmu, hmp4, hgr4⟩ := hi3.mp.put HWD.out
        have HI4 := Lib.hid (hi3.put hmp4 hgr4)
        have e2 := hi3.c2
        clear hb2 hHeld HIB KEEP hi3 hmp4 hgr4 HI3
        go_wp2_with fail
        go_roundw
        case rel => exact ⟨j + 1, by omega, by go_num, hnx.out, by rw [hkn.out]; exact HI4.out⟩
        case measure => simp [intOf]; omega
    · obtain rfl : j = q := by omega
      obtain ⟨j', rfl⟩ : ∃ j', j = j' + 1 := ⟨j - 1, by omega⟩
      have hfin := Lib.hid (ip_end (k := j') HOK.out HPL.out.symm (by rw [HPL.out]; exact HRUN.out))
      have hbw := below_step HBJ.out hI.be
      have HBW := Lib.hid hbw
      obtain ⟨ap, rfl, hcp⟩ := (HP.out.below hbw).int (show j' < j' + 1 by omega)
      have hpm : ps[j']?.getD 0 ∈ ps := getD_mem (by have := HPL.out; omega)
      obtain ⟨t, ht, htm⟩ := in_range HIN.out hpm
      have htm2 : t < m := by have := HML.out; omega
      rw [ht] at hcp
      obtain ⟨ad, r, rfl, hrk, ha, hri⟩ := (HRR.out.below hbw).at htm2
      have hdk : psD ds ps j' = r.dat := by
        unfold psD ruD
        rw [ht, ← HD.out]
        exact dat_at hrk
      have HDK := Lib.hid hdk
      obtain ⟨c0, _⟩ := ha
      have i3 : (0 : Int) ≤ t := by omega
      have i4 : (t : Int) < m := by omega
      have i5 : ((j' + 1 : Nat) : Int) - 1 = (j' : Int) := by omega
      have i6 : (0 : Int) ≤ (j' : Int) := by omega
      have i7 : (j' : Int) < ((j' + 1 : Nat) : Int) := by omega
      clear hbw hpm ht htm htm2 hri hrk hdk hI
      go_wp2_with fail
      go_ret2
      exact ⟨by rw [hfin.out.1, hfin.out.2, HDK.out]; rfl, HBW.out⟩
end Go.Proofs.Ytinocfehjdlohaa
