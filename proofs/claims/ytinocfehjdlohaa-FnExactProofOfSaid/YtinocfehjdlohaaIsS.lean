/-
  IsProof: the reference's function.
-/
import Derived.Test.YtinocfehjdlohaaIsI
import Derived.Test.YtinocfehjdlohaaOpenW
namespace Go.Proofs.Ytinocfehjdlohaa
open Go.ChangeShapes Go.WideShapes Go.ChangeAt Go.RowKit
set_option linter.unusedVariables false
set_option linter.unusedSimpArgs false

/-- a block of 32 marks, one for each word -/
structure KA (W w : World) (g : Nat) (p : Int → Bool) : Prop where
  lt : g < w.heap.size
  c : ∀ z, wordB z = true → w.cell? ⟨g, placeOf z, none⟩ = some (.bool (p z))
  fz : ∀ i, i < 32 → w.frozen? ⟨g, i, none⟩ = false
  hg : W.heap.size ≤ g
  be : Below W.heap.size W w
theorem KA.drewN {W w : World} {g : Nat} {p : Int → Bool} (h : KA W w g p) (j : Nat) : KA W (w.drewN j) g p := ⟨h.lt, h.c, h.fz, h.hg, below_drewN h.be j⟩
theorem KA.put {W w : World} {g : Nat} {p : Int → Bool} {z : Int} (h : KA W w g p) (hz : wordB z = true) : KA W (w.setCell ⟨g, placeOf z, none⟩ (.bool true)) g (putB p z) :=
  ⟨by simpa [World.setCell] using h.lt, fun y hy => by
    by_cases e : placeOf z = placeOf y
    · obtain rfl := place_inj hz hy e
      rw [World.cell?_setCell_same _ _ _ (h.c z hz)]; simp [putB]
    · rw [set_other _ _ _ _ _ e, h.c y hy]
      have : (y == z) = false := by
        rw [beq_eq_false_iff_ne]
        intro h; exact e (by rw [h])
      unfold putB; rw [this, Bool.or_false], fun i hi => by rw [set_frozen]; exact h.fz i hi, h.hg, below_setFar h.be (p := ⟨g, placeOf z, none⟩) _ h.hg⟩
def factL (fs : List Int) : List Value := (List.range 32).map fun i => .bool (facB fs (wordAt i))
theorem factL_len (fs : List Int) : (factL fs).length = 32 := by simp [factL]
theorem factL_at {fs : List Int} {z : Int} (hz : wordB z = true) : (factL fs)[placeOf z]? = some (.bool (facB fs z)) := by
  unfold factL
  rw [List.getElem?_map, List.getElem?_range (place_lt hz)]
  show some (Value.bool (facB fs (wordAt (placeOf z)))) = _
  rw [(word_place hz).2]
theorem fact_range {w : World} {sb : Nat} {y n : Int → Bool} {fs : List Int} (h : St w sb y n (facB fs)) : w.rangeAt sb 64 (factL fs) := fun j v hv => by
  have hj : j < 32 := by have := (List.getElem?_eq_some_iff.1 hv).1; rwa [factL_len] at this
  obtain ⟨h1, h2⟩ := place_word hj
  have a := h.fact _ h1
  rw [h2] at a
  rw [a]
  unfold factL at hv
  rw [List.getElem?_map, List.getElem?_range hj] at hv
  exact hv
theorem fact_one (fs : List Int) : (factL fs).toArray.all (·.oneCell') = true := all_oneCell_toArray fun v hv => by
  unfold factL at hv
  rw [List.mem_map] at hv
  obtain ⟨i, _, rfl⟩ := hv
  rfl
theorem fact_info (fs : List Int) : (Try.prog.info? 69).map (·.size) = some (factL fs).length := by rw [factL_len]; kernel_rfl
theorem KA.new0 (w : World) (t : TypeId) (fs : List Int) : KA w ((w.alloc (.cells fls t)).setCells w.heap.size 0 (factL fs)) w.heap.size (facB fs) := by
  rw [fls_eq]
  have hc : ∀ z, wordB z = true → ((w.alloc (.cells (Array.replicate 32 (.bool false)) t)).setCells w.heap.size 0 (factL fs)).cell? ⟨w.heap.size, placeOf z, none⟩ = some (.bool (facB fs z)) := fun z hz => by
    have hl := place_lt hz
    have := World.cell?_setCells_in w.heap.size (factL fs) 0 (w.alloc (.cells (Array.replicate 32 (.bool false)) t)) (fun j hj => by
      rw [factL_len] at hj
      rw [World.cell?_alloc_at _ _ _ _ rfl]; simp [hj]) (placeOf z) (by rw [factL_len]; exact hl)
    rw [Nat.zero_add] at this
    rw [this, ← factL_at hz]
    exact (List.getElem?_eq_getElem _).symm
  have hg : Below w.heap.size w ((w.alloc (.cells (Array.replicate 32 (.bool false)) t)).setCells w.heap.size 0 (factL fs)) ∧ w.heap.size < ((w.alloc (.cells (Array.replicate 32 (.bool false)) t)).setCells w.heap.size 0 (factL fs)).heap.size := by
    have h : ∀ (us : List Value) (o : Nat) (a : World), Below w.heap.size w a → w.heap.size < a.heap.size → Below w.heap.size w (a.setCells w.heap.size o us) ∧ w.heap.size < (a.setCells w.heap.size o us).heap.size := by
      intro us
      induction us with
      | nil => exact fun o a h1 h2 => ⟨h1, h2⟩
      | cons u us ih => exact fun o a h1 h2 => ih (o + 1) _ (below_setFar h1 (p := ⟨w.heap.size, o, none⟩) u (Nat.le_refl _)) (by simpa [World.setCell] using h2)
    exact h _ _ _ (bl_a _) (by simp)
  exact ⟨hg.2, hc, fun i hi => by rw [World.frozen?_setCells]; go_simp, Nat.le_refl _, hg.1⟩
theorem fls_there2 (w : World) (t : TypeId) (fs : List Int) : (w.alloc (.cells fls t)).there w.heap.size 0 (factL fs).toArray.size := by
  have := fls_there w t
  rw [fls_size] at this
  have e : (factL fs).toArray.size = 32 := by rw [← factL_len fs]; rfl
  rw [e]
  exact this
theorem KA.new (w : World) (t : TypeId) (fs : List Int) : KA w ((w.alloc (.cells fls t)).setCells w.heap.size 0 (factL fs).toArray.toList) w.heap.size (facB fs) := KA.new0 w t fs
attribute [irreducible] factL
/-- the reference's known words -/
def skn (ds : List Rl) (fs ps : List Int) (k : Nat) : Int → Bool := fun z => facB fs z || knTo ds ps k z
theorem skn_zero (ds : List Rl) (fs ps : List Int) : skn ds fs ps 0 = facB fs := by funext z; simp [skn, knTo]
theorem skn_succ (ds : List Rl) (fs ps : List Int) (k : Nat) : skn ds fs ps (k + 1) = putB (skn ds fs ps k) (psD ds ps k).hd := by
  funext z; simp [skn, knTo, putB, Bool.or_assoc]
theorem all_take_bad {p : Int → Bool} {zs : List Int} {k : Nat} (hk : k < zs.length) (h : p (zs[k]?.getD 0) = false) : zs.all p = false := by
  rw [List.all_eq_false]; exact ⟨_, getD_mem hk, by simp [h]⟩
theorem all_take_more {p : Int → Bool} {zs : List Int} {k : Nat} (hk : k < zs.length) (h0 : (zs.take k).all p = true) (h : p (zs[k]?.getD 0) = true) : (zs.take (k + 1)).all p = true := by
  rw [take_snoc zs k 0 hk, List.all_append, h0]; simp [h]
set_option maxRecDepth 100000 in
set_option maxHeartbeats 6400000 in
theorem spec_IsProof (A : Option Addr) (m c : Nat) (ds : List Rl) (B : Option Addr) (k d : Nat) (fs : List Int) (day : Int) (D : Option Addr) (q e0 : Nat) (ps : List Int) (x : Int) (w : World) (hr : RsRd w w.heap.size A m ds) (hz : szD ds ≤ 1048576) (hb : ∀ d ∈ ds, RlB d) (hf : Rd w w.heap.size 1 B k (ints fs)) (hk : k ≤ 1048576) (hfs : I64s fs)
    (hday : -9223372036854775808 ≤ day ∧ day ≤ 9223372036854775807) (hp : Rd w w.heap.size 1 D q (ints ps)) (hq : q ≤ 1048576) (hps : I64s ps) (hx : -9223372036854775808 ≤ x ∧ x ≤ 9223372036854775807) :
    Calls Try.prog 24 #[.slice A m c, .slice B k d, .int .i64 day, .slice D q e0, .int .i64 x] w fun e w' => e = .returned (.tuple #[.bool (IsProof_r0 ds fs day ps x), .bool (IsProof_r1 ds fs day ps x)]) ∧ Below w.heap.size w w' := by
  have HR := Lib.hid hr
  have HZ := Lib.hid hz
  have HRB := Lib.hid hb
  have HF := Lib.hid hf
  have HFS := Lib.hid hfs
  have HP := Lib.hid hp
  have hml := hr.len
  have hpl := hp.ilen
  have hmz : m ≤ 1048576 := sz_len hz hml
  have HACT := Lib.hid (szD_act (day := day) hr.len)
  clear hr hz hb hf hfs hp hps
  cases h1 : courtOk ds fs day
  case false =>
    have hfin := Lib.hid (ip_no (ds := ds) (fs := fs) (day := day) (ps := ps) (x := x) (by simp [ipOk, h1]))
    go_enter Try.func24, Try.ntmps24
    go_wp2_with fail
    refine (l05Can_is _ _ _ _ _ _ _ _ _ _ HR.out HZ.out HRB.out HF.out hk HFS.out hday h1).mono ?_
    rintro e w1 ⟨rfl, hb1⟩
    go_wp2_with fail
    go_ret2
    exact ⟨by rw [hfin.out.1, hfin.out.2]; rfl, hb1⟩
  cases h2 : wordB x
  case false =>
    have hfin := Lib.hid (ip_no (ds := ds) (fs := fs) (day := day) (ps := ps) (x := x) (by simp [ipOk, h2]))
    go_enter Try.func24, Try.ntmps24
    go_wp2_with fail
    refine (l05Can_is _ _ _ _ _ _ _ _ _ _ HR.out HZ.out HRB.out HF.out hk HFS.out hday h1).mono ?_
    rintro e w1 ⟨rfl, hb1⟩
    go_wp2_with (go_at_call 35; refine (l05Word_is h2 _).mono ?_; rintro e w' ⟨rfl, rfl⟩)
    go_ret2
    exact ⟨by rw [hfin.out.1, hfin.out.2]; rfl, hb1⟩
  have H1 := Lib.hid h1
  have H2 := Lib.hid h2
  have HML := Lib.hid hml
  have HPL := Lib.hid hpl
  clear h1 h2 hml hpl
  go_enter Try.func24, Try.ntmps24
  go_wp2_with fail
  refine (l05Can_is _ _ _ _ _ _ _ _ _ _ HR.out HZ.out HRB.out HF.out hk HFS.out hday H1.out).mono ?_
  rintro e w1 ⟨rfl, hb1⟩
  have HB1 := Lib.hid hb1
  clear hb1
  go_wp2_with (go_at_call 35; refine (l05Word_is H2.out _).mono ?_; rintro e w' ⟨rfl, rfl⟩)
  go_loopw [10, 11, 12, 30] (fun _ _ _ i wr => ∃ j : Nat, j ≤ q ∧ i = .int .i64 j ∧ allIn (ps.take j) 0 ((m : Int) - 1) = true ∧ Below w.heap.size w wr) (fun _ _ _ i _ => q - (intOf i).toNat)
  case atStart => exact ⟨0, by omega, rfl, rfl, HB1.out⟩
  case round =>
    clear HB1
    obtain ⟨j, hj, rfl, hal, hbr⟩ := hrel
    have HBR := Lib.hid hbr
    have HAL := Lib.hid hal
    by_cases hlt : j < q
    · obtain ⟨ap, rfl, hcp⟩ := (HP.out.below hbr).int hlt
      obtain ⟨z, hz⟩ : ∃ z, z = ps[j]?.getD 0 := ⟨_, rfl⟩
      rw [← hz] at hcp
      have HZZ := Lib.hid hz
      have i1 : (0 : Int) ≤ j := by omega
      have i2 : (j : Int) < q := by omega
      clear hbr hal hz
      cases hin : inB z 0 ((m : Int) - 1)
      · have hbad := allIn_not (zs := ps) (lo := 0) (hi := (m : Int) - 1) (k := j) (by have := HPL.out; omega) (by rw [← HZZ.out]; exact hin)
        have hfin := Lib.hid (ip_no (ds := ds) (fs := fs) (day := day) (ps := ps) (x := x) (by unfold ipOk; rw [HML.out, hbad]; simp))
        have HIN := Lib.hid hin
        clear hin hbad
        go_wp2_with (go_at_call 56; refine (l00In_is HIN.out _).mono ?_; rintro e w' ⟨rfl, rfl⟩)
        go_ret2
        exact ⟨by rw [hfin.out.1, hfin.out.2]; rfl, HBR.out⟩
      · have hnx := Lib.hid (allIn_snoc HAL.out (by have := HPL.out; omega) (by rw [← HZZ.out]; exact hin))
        have HIN := Lib.hid hin
        clear hin
        go_wp2_with (go_at_call 56; refine (l00In_is HIN.out _).mono ?_; rintro e w' ⟨rfl, rfl⟩)
        go_roundw
        case rel => exact ⟨j + 1, by omega, by go_num, hnx.out, HBR.out⟩
        case measure => simp [intOf]; omega
    · obtain rfl : q = j := by omega
      rw [List.take_of_length_le (by have := HPL.out; omega)] at hal
      have HIN := Lib.hid (show allIn ps 0 ((ds.length : Int) - 1) = true by rw [HML.out]; exact hal)
      have HOK := Lib.hid (ipOk_iff.2 ⟨H1.out, H2.out, HIN.out⟩)
      clear hal hbr HAL
      go_wp2_with fail
      refine (l05Of_any _ _ _ ds day _ (HR.out.on HBR.out) hmz).mono ?_
      rintro e w2 ⟨A2, n2, c2, rfl, hrd, hb2⟩
      rw [HACT.out] at hrd
      have HB2 := Lib.hid (below_step HBR.out hb2)
      have HR2 := Lib.hid hrd
      clear hrd hb2
      go_wp2_with fail
      refine (answer_rs _ _ _ ds _ _ _ fs day _ HR2.out (actF_small (courtOk_iff.1 H1.out).1) HRB.out (HF.out.on HB2.out) hk H1.out).mono ?_
      rintro e w3 ⟨sb, rfl, hsb, hS, hb3⟩
      have HB3 := Lib.hid (below_step HB2.out hb3)
      have HS := Lib.hid hS
      have hlt3 := hS.lt
      have HLT := Lib.hid hlt3
      clear hb3 hS hlt3
      rcases Nat.eq_zero_or_pos q with hq0 | hq0
      · subst hq0
        have hfin := Lib.hid (ip_none HOK.out HPL.out)
        have s1 := HS.out.fact x H2.out
        have p1 : (placeOf x : Int) < 32 := by have := place_lt H2.out; omega
        have p2 : (0 : Int) ≤ placeOf x := by omega
        go_wp2_with fail
        go_quiet (first | (go_at_call 53; exact quietL (l05Place_is x _ H2.out)))
        go_wp2_with fail
        go_ret2
        exact ⟨by rw [hfin.out.1, hfin.out.2]; rfl, below_drewN HB3.out _⟩
      have hq9 : ((q : Int) == 0) = false := by simp; omega
      have HRG := Lib.hid (fact_range HS.out)
      have HKA := Lib.hid (KA.new w3 69 fs)
      have HTH := Lib.hid (fls_there2 w3 69 fs)
      go_wp2_with (first
        | (refine wpList_load_mid rfl 69 (.tmp 60) rfl sb 64 rfl (factL fs) _ HRG.out Try.underlying69 rfl (fact_info fs) ?_)
        | (refine wpList_run rfl (.pointer (some ⟨w3.heap.size, 0, none⟩)) (alloc_run _ rfl _ _) ?_)
        | (refine wpList_store_mid rfl 69 (.tmp 14) (.tmp 61) rfl w3.heap.size 0 (factL fs).toArray rfl rfl HTH.out (fact_info fs) (fact_one fs) ?_))
      clear hq9
      generalize ((w3.alloc (.cells fls 69)).setCells w3.heap.size 0 (factL fs).toArray.toList) = wO at HKA ⊢
      obtain ⟨g, hg⟩ : ∃ g, g = w3.heap.size := ⟨_, rfl⟩
      rw [← hg] at HKA ⊢
      clear hg
      obtain ⟨rs, hrr, hdat⟩ := HR.out
      have HRR := Lib.hid hrr
      have HD := Lib.hid hdat
      have HRN := Lib.hid (ruN_of hrr.nlen (by rw [hdat]; exact HZ.out) (by rw [hdat]; exact HRB.out))
      clear hrr hdat
      have hpr : ipRun ds fs day ps 0 = true := rfl
      have HPR := Lib.hid hpr
      rw [← skn_zero ds fs ps] at HKA
      clear hpr
      go_loopw [10, 11, 15, 16, 17, 64] (fun _ _ _ _ _ i wr => ∃ j : Nat, j ≤ q ∧ i = .int .i64 j ∧ ipRun ds fs day ps j = true ∧ KA w3 wr g (skn ds fs ps j)) (fun _ _ _ _ _ i _ => q - (intOf i).toNat)
      case atStart => exact ⟨0, by omega, rfl, HPR.out, HKA.out⟩
      case round =>
        clear HKA HPR
        obtain ⟨j, hj, rfl, hrun, hK⟩ := hrel
        have HRUN := Lib.hid hrun
        clear hrun
        have hbw := below_step HB3.out hK.be
        have HBW := Lib.hid hbw
        by_cases hlt : j < q
        · obtain ⟨ap, hap, hcp⟩ := (HP.out.below hbw).int hlt
          first | (cases hap) | (subst hap)
          have hpm : ps[j]?.getD 0 ∈ ps := getD_mem (by have := HPL.out; omega)
          obtain ⟨t, ht, htm⟩ := in_range HIN.out hpm
          have htm2 : t < m := by have := HML.out; omega
          rw [ht] at hcp
          obtain ⟨ad, r, had, hrk, ha, hri⟩ := (HRR.out.below hbw).at htm2
          subst had
          have hdk : psD ds ps j = r.dat := by
            unfold psD ruD
            rw [ht, ← HD.out]
            exact dat_at hrk
          have hvi := valid_ifs (courtOk_iff.1 H1.out).1 (d := r.dat) (by rw [← HD.out]; exact List.mem_map_of_mem (List.mem_of_getElem? hrk))
          have hrn := (HRN.out r (List.mem_of_getElem? hrk)).1
          have hwd : wordB r.hd = true := hvi.2
          have HLI := Lib.hid hri.ilen
          obtain ⟨hd, fr, tt, rk, Ai, ni, ci, ifs⟩ := r
          simp only at hrn hwd
          have HA := Lib.hid ha
          obtain ⟨c0, c1', c2, c3, c4⟩ := ha
          simp only at c0 c1' c2 c3 c4
          have s1 := (hK.be.cell (p := ⟨sb, placeOf hd, none⟩) HLT.out).trans (HS.out.yes hd hwd)
          have kf := hK.fz (placeOf hd) (place_lt hwd)
          have kc := hK.c hd hwd
          have p1 : (placeOf hd : Int) < 32 := by have := place_lt hwd; omega
          have p2 : (0 : Int) ≤ placeOf hd := by omega
          have HRK := Lib.hid hrk
          have HDK := Lib.hid hdk
          have HWD := Lib.hid hwd
          have HVI := Lib.hid hvi.1
          have HTM := Lib.hid htm2
          have HK := Lib.hid hK
          have i1 : (0 : Int) ≤ j := by omega
          have i2 : (j : Int) < q := by omega
          have i3 : (0 : Int) ≤ t := by omega
          have i4 : (t : Int) < m := by omega
          clear hbw hpm ht htm htm2 hri hrk hdk hvi hwd hK kc kf
          cases hon : onB ⟨hd, ifs, fr, tt, rk⟩ day
          · have HON := Lib.hid hon
            have hfin := Lib.hid (ip_bad HOK.out (by have := HPL.out; omega) (show ipStep ds fs day ps j = false by unfold ipStep; rw [HDK.out]; show (onB ⟨hd, ifs, fr, tt, rk⟩ day && _) = false; rw [HON.out]; rfl))
            clear hon
            go_wp2_with fail
            go_quiet (first | (go_at_call 37; exact quietL (l05On_is (ad.add (t * 5)) ⟨hd, fr, tt, rk, Ai, ni, ci, ifs⟩ day _ (HA.out.drewN _) HON.out)) | (go_at_call 53; exact quietL (l05Place_is hd _ HWD.out)))
            go_wp2_with fail
            go_ret2
            exact ⟨by rw [hfin.out.1, hfin.out.2]; rfl, below_drewN HBW.out _⟩
          have HON := Lib.hid hon
          clear hon
          rcases Bool.eq_false_or_eq_true (yesB ds fs day hd) with hyb | hyb
          case inr =>
            have hfin := Lib.hid (ip_bad HOK.out (by have := HPL.out; omega) (show ipStep ds fs day ps j = false by unfold ipStep; rw [HDK.out]; show (onB ⟨hd, ifs, fr, tt, rk⟩ day && (yesB ds fs day hd && _)) = false; rw [hyb]; simp))
            rw [hyb] at s1
            clear hyb
            go_wp2_with fail
            go_quiet (first | (go_at_call 37; exact quietL (l05On_is (ad.add (t * 5)) ⟨hd, fr, tt, rk, Ai, ni, ci, ifs⟩ day _ (HA.out.drewN _) HON.out)) | (go_at_call 53; exact quietL (l05Place_is hd _ HWD.out)))
            go_wp2_with fail
            go_ret2
            exact ⟨by rw [hfin.out.1, hfin.out.2]; rfl, below_drewN HBW.out _⟩
          case inl =>
          have HYB := Lib.hid hyb
          rw [hyb] at s1
          clear hyb
          go_wp2_with fail
          go_quiet (first | (go_at_call 37; exact quietL (l05On_is (ad.add (t * 5)) ⟨hd, fr, tt, rk, Ai, ni, ci, ifs⟩ day _ (HA.out.drewN _) HON.out)) | (go_at_call 53; exact quietL (l05Place_is hd _ HWD.out)))
          have HKN := Lib.hid (HK.out.drewN nq)
          have d1 : (World.drewN wr nq).cell? { block := (ad.add (t * 5)).block, off := (ad.add (t * 5)).off + 1 } = some (.slice Ai ni ci) := c1'
          clear HK HA HBW c0 c1' c2 c3 c4 s1 hcp
          generalize World.drewN wr nq = wn at HKN d1 ⊢
          go_wp2_with fail
          clear d1
          go_loopw [10, 11, 17, 95] (fun _ _ _ i wx => ∃ u : Nat, u ≤ ni ∧ i = .int .i64 u ∧ (ifs.take u).all (skn ds fs ps j) = true ∧ KA w3 wx g (skn ds fs ps j)) (fun _ _ _ i _ => ni - (intOf i).toNat)
          case atStart => exact ⟨0, by omega, rfl, rfl, HKN.out⟩
          case round =>
            clear HKN
            obtain ⟨u, hu, rfl, hall, hK⟩ := hrel
            have hbw := below_step HB3.out hK.be
            have HBW := Lib.hid hbw
            have HALL := Lib.hid hall
            obtain ⟨ad2, r2, hE, hrk2, ha, hri⟩ := (HRR.out.below hbw).at HTM.out
            cases hE
            obtain rfl : (⟨hd, fr, tt, rk, Ai, ni, ci, ifs⟩ : Ru) = r2 := by
              have h := HRK.out
              rw [hrk2] at h
              injection h with h; exact h.symm
            obtain ⟨c0, c1', _⟩ := ha
            simp only at c0 c1'
            by_cases htl : u < ni
            · obtain ⟨ai, hAi, hcz⟩ := hri.int htl
              simp only at hAi
              subst hAi
              obtain ⟨z, hz⟩ : ∃ z, z = ifs[u]?.getD 0 := ⟨_, rfl⟩
              rw [← hz] at hcz
              have htl2 : u < ifs.length := by have := HLI.out; omega
              have hzm : z ∈ ifs := by rw [hz]; exact getD_mem htl2
              have hwz : wordB z = true := HVI.out z hzm
              have kz := hK.c z hwz
              have HWZ := Lib.hid hwz
              have HTL := Lib.hid htl
              have HZ9 := Lib.hid (And.intro htl2 hz)
              have HK := Lib.hid hK
              have q1 : (placeOf z : Int) < 32 := by have := place_lt hwz; omega
              have q2 : (0 : Int) ≤ placeOf z := by omega
              have i5 : (0 : Int) ≤ u := by omega
              have i6 : (u : Int) < ni := by omega
              clear hri hrk2 hz hzm hwz htl htl2 hbw hall hK
              rcases Bool.eq_false_or_eq_true (skn ds fs ps j z) with tk | tk
              · have hnx := Lib.hid (all_take_more (p := skn ds fs ps j) HZ9.out.1 HALL.out (by rw [← HZ9.out.2]; exact tk))
                rw [tk] at kz
                clear tk
                go_wp2_with (go_at_call 53; refine (l05Place_is z _ HWZ.out).mono ?_; rintro e w' ⟨rfl, rfl⟩)
                go_roundw
                case rel => exact ⟨u + 1, by have := HTL.out; omega, by go_num, hnx.out, HK.out⟩
                case measure => simp [intOf]; have := HTL.out; omega
              · have hbad := Lib.hid (all_take_bad (p := skn ds fs ps j) HZ9.out.1 (by rw [← HZ9.out.2]; exact tk))
                have hfin := Lib.hid (ip_bad HOK.out (by have := HPL.out; omega) (show ipStep ds fs day ps j = false by unfold ipStep; rw [HDK.out]; show (_ && (_ && ifs.all (skn ds fs ps j))) = false; rw [hbad.out]; simp))
                rw [tk] at kz
                clear tk
                go_wp2_with (go_at_call 53; refine (l05Place_is z _ HWZ.out).mono ?_; rintro e w' ⟨rfl, rfl⟩)
                go_ret2
                exact ⟨by rw [hfin.out.1, hfin.out.2]; rfl, HBW.out⟩
            · obtain rfl : u = ni := by omega
              have hnx := Lib.hid (show ipRun ds fs day ps (j + 1) = true by
                rw [ipRun_succ, HRUN.out]
                unfold ipStep; rw [HDK.out]
                show (true && (onB ⟨hd, ifs, fr, tt, rk⟩ day && (yesB ds fs day hd && ifs.all (skn ds fs ps j)))) = true
                rw [HON.out, HYB.out, show ifs.all (skn ds fs ps j) = true by have h := HALL.out; rwa [List.take_of_length_le (by have := HLI.out; omega)] at h]; rfl)
              have hsk := Lib.hid (show skn ds fs ps (j + 1) = putB (skn ds fs ps j) hd by rw [skn_succ, HDK.out]; rfl)
              have kf := hK.fz (placeOf hd) (place_lt HWD.out)
              have kc := hK.c hd HWD.out
              have HKP := Lib.hid (hK.put HWD.out)
              clear hri hrk2 hbw hall hK HALL
              go_wp2_with (go_at_call 53; refine (l05Place_is hd _ HWD.out).mono ?_; rintro e w' ⟨rfl, rfl⟩)
              go_roundw
              case rel => exact ⟨j + 1, by omega, by go_num, hnx.out, by rw [hsk.out]; exact HKP.out⟩
              case measure => simp [intOf]; omega
        · obtain rfl : j = q := by omega
          obtain ⟨j', rfl⟩ : ∃ j', j = j' + 1 := ⟨j - 1, by omega⟩
          have hfin := Lib.hid (ip_end (k := j') HOK.out HPL.out.symm (by rw [HPL.out]; exact HRUN.out))
          obtain ⟨ap, hap, hcp⟩ := (HP.out.below hbw).int (show j' < j' + 1 by omega)
          first | (cases hap) | (subst hap)
          have hpm : ps[j']?.getD 0 ∈ ps := getD_mem (by have := HPL.out; omega)
          obtain ⟨t, ht, htm⟩ := in_range HIN.out hpm
          have htm2 : t < m := by have := HML.out; omega
          rw [ht] at hcp
          obtain ⟨ad, r, had, hrk, ha, hri⟩ := (HRR.out.below hbw).at htm2
          subst had
          have hdk : psD ds ps j' = r.dat := by
            unfold psD ruD
            rw [ht, ← HD.out]
            exact dat_at hrk
          have HDK := Lib.hid hdk
          obtain ⟨c0, _⟩ := ha
          have i3 : (0 : Int) ≤ t := by omega
          have i4 : (t : Int) < m := by omega
          have i5 : ((j' + 1 : Nat) : Int) - 1 = (j' : Int) := by omega
          have i6 : (0 : Int) ≤ (j' : Int) := by omega
          have i7 : (j' : Int) < ((j' + 1 : Nat) : Int) := by omega
          clear hbw hpm ht htm htm2 hri hrk hdk hK
          go_wp2_with fail
          go_ret2
          exact ⟨by rw [hfin.out.1, hfin.out.2, HDK.out]; rfl, HBW.out⟩
end Go.Proofs.Ytinocfehjdlohaa
