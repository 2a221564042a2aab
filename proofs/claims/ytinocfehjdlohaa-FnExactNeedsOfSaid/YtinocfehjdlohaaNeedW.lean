/-
  NeedsOf: what the program's and the reference's functions return.
-/
import Derived.Test.YtinocfehjdlohaaAnsC
import Derived.Test.YtinocfehjdlohaaNeedP
import Derived.Test.YtinocfehjdlohaaChgI
namespace Go.Proofs.Ytinocfehjdlohaa
open Go.ChangeShapes Go.WideShapes Go.ChangeAt Go.RowKit
set_option linter.unusedVariables false
set_option linter.unusedSimpArgs false

def nOk (ds : List Rl) (day x : Int) : Bool := rulesB ds && (inB day 0 100000 && wordB x)
noncomputable def NeedsOf_r0 (ds : List Rl) (day x : Int) : List Int := if nOk ds day x then needL ds day x else []
def NeedsOf_r1 (ds : List Rl) (day x : Int) : Bool := nOk ds day x
theorem ne_no {ds : List Rl} {day x : Int} (h : nOk ds day x = false) : NeedsOf_r0 ds day x = [] ∧ NeedsOf_r1 ds day x = false := by simp [NeedsOf_r0, NeedsOf_r1, h]
theorem ne_yes {ds : List Rl} {day x : Int} (h : nOk ds day x = true) : NeedsOf_r0 ds day x = needL ds day x ∧ NeedsOf_r1 ds day x = true := by simp [NeedsOf_r0, NeedsOf_r1, h]
theorem needL_len (ds : List Rl) (day x : Int) : (needL ds day x).length ≤ 17 := by
  unfold needL
  exact Nat.le_trans (List.length_filter_le _ _) (by simp)
theorem NeedsOf_len (ds : List Rl) (day x : Int) : (NeedsOf_r0 ds day x).length ≤ 17 := by
  unfold NeedsOf_r0; split
  · exact needL_len _ _ _
  · simp
theorem nOk_iff {ds : List Rl} {day x : Int} : nOk ds day x = true ↔ rulesB ds = true ∧ inB day 0 100000 = true ∧ wordB x = true := by simp [nOk, and_assoc]
theorem atom_word {z : Int} (h : wordB z = true) : 1 ≤ atomI z ∧ atomI z ≤ 16 := by
  have := wordB_iff.1 h; unfold atomI; omega
/-- seventeen marks in a block -/
structure NB (W w : World) (g : Nat) (S : Int → Bool) : Prop where
  lt : g < w.heap.size
  c : ∀ i : Nat, i < 17 → w.cell? ⟨g, i, none⟩ = some (.bool (S i))
  fz : ∀ i : Nat, i < 17 → w.frozen? ⟨g, i, none⟩ = false
  hg : W.heap.size ≤ g
  be : Below W.heap.size W w
theorem NB.drewN {W w : World} {g : Nat} {S : Int → Bool} (h : NB W w g S) (j : Nat) : NB W (w.drewN j) g S := ⟨h.lt, h.c, h.fz, h.hg, below_drewN h.be j⟩
theorem NB.put {W w : World} {g : Nat} {S : Int → Bool} {a : Nat} (h : NB W w g S) (ha : a < 17) : NB W (w.setCell ⟨g, a, none⟩ (.bool true)) g (putB S a) :=
  ⟨by simpa [World.setCell] using h.lt, fun i hi => by
    by_cases e : a = i
    · subst e; rw [World.cell?_setCell_same _ _ _ (h.c a ha)]; simp [putB]
    · rw [set_other _ _ _ _ _ e, h.c i hi]
      have : ((i : Int) == (a : Int)) = false := by simp; omega
      unfold putB; rw [this, Bool.or_false], fun i hi => by rw [set_frozen]; exact h.fz i hi, h.hg, below_setFar h.be (p := ⟨g, a, none⟩) _ h.hg⟩
theorem info_bool : (Try.prog.info? tB).map (fun i => (i.zero, i.size, i.bytes)) = some (some (.bool false), 1, 1) := by kernel_rfl
def natom (z : Int) : Nat := (atomI z).toNat
theorem natom_eq {z : Int} (h : wordB z = true) : (natom z : Int) = atomI z ∧ natom z < 17 := by
  have := atom_word h; unfold natom; omega
def marks : List Int := (List.range 17).map Int.ofNat
def cntN (S : Int → Bool) : Nat := (marks.filter S).length
def outN (S : Int → Bool) (k : Nat) : List Int := ((List.range k).map Int.ofNat).filter S
theorem outN_succ (S : Int → Bool) (k : Nat) : outN S (k + 1) = outN S k ++ if S k then [(k : Int)] else [] := by
  unfold outN
  rw [List.range_succ, List.map_append, List.filter_append]
  show _ ++ List.filter S [(k : Int)] = _
  rw [List.filter_cons, List.filter_nil]
theorem outN_len (S : Int → Bool) (k : Nat) : (outN S k).length ≤ k := Nat.le_trans (List.length_filter_le _ _) (by simp)
theorem cntN_le (S : Int → Bool) : cntN S ≤ 17 := Nat.le_trans (List.length_filter_le _ _) (by simp [marks])
theorem cntN_put {S : Int → Bool} {z : Int} (hw : wordB z = true) (h : S (atomI z) = false) : cntN S < cntN (putB S (atomI z)) := by
  refine filter_put S (atomI z) marks ?_ h
  have := natom_eq hw
  unfold marks
  rw [List.mem_map]
  exact ⟨natom z, List.mem_range.2 this.2, this.1⟩
structure NP (ds : List Rl) (day x : Int) (S0 : Int → Bool) (b : Bool) (k : Nat) (S : Int → Bool) : Prop where
  so : ∀ a, S a = true → needB ds day x a = true
  st : S (atomI x) = true
  f : b = false → S = S0 ∧ ∀ d ∈ ds.take k, onB d day = true → S0 (atomI d.hd) = true → ∀ z ∈ d.ifs, S0 (atomI z) = true
  t : b = true → cntN S0 < cntN S
section
variable {ds : List Rl} {day x : Int} {S0 S : Int → Bool} {b : Bool} {k : Nat} {d : Rl} {z : Int}
theorem NP.ge (h : NP ds day x S0 b k S) : cntN S0 ≤ cntN S := by
  cases b
  · rw [(h.f rfl).1]; exact Nat.le_refl _
  · exact Nat.le_of_lt (h.t rfl)
theorem NP.skip (h : NP ds day x S0 b k S) (hd : ds[k]? = some d) (hs : onB d day = false ∨ S (atomI d.hd) = false) : NP ds day x S0 b (k + 1) S := by
  refine ⟨h.so, h.st, fun hb => ?_, h.t⟩
  obtain ⟨e, hf⟩ := h.f hb
  refine ⟨e, fun y hy h1 h2 => ?_⟩
  rw [List.take_add_one, hd] at hy
  rcases List.mem_append.1 hy with hy | hy
  · exact hf y hy h1 h2
  · simp at hy; subst hy
    rcases hs with hs | hs
    · rw [hs] at h1; cases h1
    · rw [e, h2] at hs; cases hs
theorem NP.done (h : NP ds day x S0 b k S) (hd : ds[k]? = some d) (h3 : b = false → ∀ z ∈ d.ifs, S0 (atomI z) = true) : NP ds day x S0 b (k + 1) S := by
  refine ⟨h.so, h.st, fun hb => ?_, h.t⟩
  obtain ⟨e, hf⟩ := h.f hb
  refine ⟨e, fun y hy h1 h2 => ?_⟩
  rw [List.take_add_one, hd] at hy
  rcases List.mem_append.1 hy with hy | hy
  · exact hf y hy h1 h2
  · simp at hy; subst hy; exact h3 hb
theorem NP.put (h : NP ds day x S0 b k S) (hd : ds[k]? = some d) (ho : onB d day = true) (hS : S (atomI d.hd) = true) (hz : z ∈ d.ifs) (hw : wordB z = true) (hf : S (atomI z) = false) : NP ds day x S0 true k (putB S (atomI z)) :=
  ⟨fun a ha => by
    unfold putB at ha
    simp only [Bool.or_eq_true, beq_iff_eq] at ha
    rcases ha with ha | rfl
    · exact h.so a ha
    · exact need_step (List.mem_of_getElem? hd) ho (h.so _ hS) hz, le_put _ _ _ h.st, fun hb => (by cases hb), fun _ => by have := h.ge; have := cntN_put hw hf; omega⟩
theorem NP.closed (h : NP ds day x S0 false ds.length S) : NClosed ds day x (fun a => S a = true) := by
  obtain ⟨e, hf⟩ := h.f rfl
  subst e
  exact ⟨h.st, fun d hd h1 h2 z hz => hf d (by rw [List.take_length]; exact hd) h1 h2 z hz⟩
end
theorem marks_need {ds : List Rl} {day x : Int} {S : Int → Bool} (hs : ∀ a, S a = true → needB ds day x a = true) (hc : NClosed ds day x (fun a => S a = true)) : marks.filter S = needL ds day x := by
  unfold needL marks
  refine List.filter_congr fun a _ => ?_
  rw [Bool.eq_iff_iff]
  exact ⟨hs a, fun h => need_least hc h⟩
theorem nb_new {w1 w2 : World} (hown : w2.ownsRow w1.heap.size tB 1 (.slice (some ⟨w1.heap.size, 0, none⟩) 17 17) 17 (madeCells (Value.bool false).cells (17 * 1)).toList) (hg : w1.grownBy w2 none) : NB w1 w2 w1.heap.size (fun _ => false) :=
  ⟨(hown.lt _ rfl).2, fun i hi => by
    rw [hown.cellAt i (by omega), show (Value.bool false).cells = #[.bool false] from rfl, toList_madeCells_one, List.getElem?_replicate, if_pos (by omega)], fun i _ => hown.frozenAt i, Nat.le_refl _, (Below.refl _ _).grown hg (Nat.le_refl _) (fun k hk => (by cases hk))⟩
theorem l05Atom_is {z : Int} (w : World) (h : wordB z = true) : Calls Try.prog 36 #[.int .i64 z] w fun e w' => e = .returned (.int .i64 (natom z : Int)) ∧ w = w' := by
  have := wordB_iff.1 h; rw [(natom_eq h).1]; exact l05Atom_any z w (by omega)
set_option maxRecDepth 100000 in
set_option maxHeartbeats 3200000 in
theorem spec_NeedsOf (A : Option Addr) (m c : Nat) (ds : List Rl) (day x : Int) (w : World) (hr : RsRd w w.heap.size A m ds) (hz : szD ds ≤ 1048576) (hb : ∀ d ∈ ds, RlB d)
    (hday : -9223372036854775808 ≤ day ∧ day ≤ 9223372036854775807) (hx : -9223372036854775808 ≤ x ∧ x ≤ 9223372036854775807) :
    Calls Try.prog 11 #[.slice A m c, .int .i64 day, .int .i64 x] w (SlEnds w (NeedsOf_r0 ds day x) (NeedsOf_r1 ds day x)) := by
  have HR := Lib.hid hr
  have HZ := Lib.hid hz
  have HRB := Lib.hid hb
  clear hr hz hb
  cases h1 : rulesB ds
  case false =>
    have hfin := Lib.hid (ne_no (ds := ds) (day := day) (x := x) (by simp [nOk, h1]))
    go_enter Try.func11, Try.ntmps11
    go_wp2_with fail
    refine (l05Rules_is _ _ _ _ HR.out HZ.out HRB.out h1).mono ?_
    rintro e w1 ⟨rfl, j, rfl⟩
    go_wp2_with fail
    go_ret2
    rw [hfin.out.1, hfin.out.2]
    exact sl_no (below_drewN (Below.refl _ _) j)
  cases h2 : inB day 0 100000
  case false =>
    have hfin := Lib.hid (ne_no (ds := ds) (day := day) (x := x) (by simp [nOk, h2]))
    go_enter Try.func11, Try.ntmps11
    go_wp2_with fail
    refine (l05Rules_is _ _ _ _ HR.out HZ.out HRB.out h1).mono ?_
    rintro e w1 ⟨rfl, j, rfl⟩
    go_wp2_with (go_at_call 34; refine (l05Day_is h2 _).mono ?_; rintro e w' ⟨rfl, rfl⟩)
    go_ret2
    rw [hfin.out.1, hfin.out.2]
    exact sl_no (below_drewN (Below.refl _ _) j)
  cases h3 : wordB x
  case false =>
    have hfin := Lib.hid (ne_no (ds := ds) (day := day) (x := x) (by simp [nOk, h3]))
    go_enter Try.func11, Try.ntmps11
    go_wp2_with fail
    refine (l05Rules_is _ _ _ _ HR.out HZ.out HRB.out h1).mono ?_
    rintro e w1 ⟨rfl, j, rfl⟩
    go_wp2_with (first | (go_at_call 34; refine (l05Day_is h2 _).mono ?_; rintro e w' ⟨rfl, rfl⟩) | (go_at_call 35; refine (l05Word_is h3 _).mono ?_; rintro e w' ⟨rfl, rfl⟩))
    go_ret2
    rw [hfin.out.1, hfin.out.2]
    exact sl_no (below_drewN (Below.refl _ _) j)
  have hfin := Lib.hid (ne_yes (nOk_iff.2 ⟨h1, h2, h3⟩))
  have H1 := Lib.hid h1
  have H3 := Lib.hid h3
  have hnx := natom_eq h3
  have ax1 : (natom x : Int) < 17 := by omega
  have ax2 : (0 : Int) ≤ natom x := by omega
  have HNX := Lib.hid hnx
  obtain ⟨i0, hi, hz0, hz1, hz2⟩ := info_parts info_bool
  have HI := Lib.hid (And.intro hi (And.intro hz0 (And.intro hz1 hz2)))
  clear hnx hi hz0 hz1 hz2
  go_enter Try.func11, Try.ntmps11
  go_wp2_with fail
  refine (l05Rules_is _ _ _ _ HR.out HZ.out HRB.out h1).mono ?_
  rintro e w1 ⟨rfl, j0, rfl⟩
  have HB1 := Lib.hid (below_drewN (Below.refl w.heap.size w) j0)
  generalize w.drewN j0 = w1 at HB1 ⊢
  clear h1
  go_wp2_with (first | (go_at_call 34; refine (l05Day_is h2 _).mono ?_; rintro e w' ⟨rfl, rfl⟩) | (go_at_call 35; refine (l05Word_is H3.out _).mono ?_; rintro e w' ⟨rfl, rfl⟩) | (at_make; refine wpList_make_full _ rfl (.const (.int .i64 17)) (.const (.int .i64 17)) 54 rfl w1.heap.size tB i0 (.bool false) 1 Try.underlying54 HI.out.1 HI.out.2.1 HI.out.2.2.1 .i64 .i64 _ _ 17 rfl rfl rfl rfl (by rw [HI.out.2.2.2]; omega) (by unfold maxLen; omega) (Nat.le_refl _) ?_; intro w2 hown hg))
  have HN0 := Lib.hid (nb_new hown hg)
  clear hown hg HI
  go_wp2_with fail
  have hc0 := HN0.out.c (natom x) HNX.out.2
  have hf0 := HN0.out.fz (natom x) HNX.out.2
  refine (l05Atom_is _ H3.out).mono ?_
  rintro e w' ⟨rfl, rfl⟩
  have HN1 := Lib.hid (HN0.out.put HNX.out.2)
  have HP1 := Lib.hid (show (∀ a, putB (fun _ => false) (natom x : Int) a = true → needB ds day x a = true) ∧ putB (fun _ => false) (natom x : Int) (atomI x) = true from
    ⟨fun a ha => by
      unfold putB at ha
      simp at ha
      rw [ha, HNX.out.1]; exact need_start ds day x, by unfold putB; rw [HNX.out.1]; simp⟩)
  go_wp2_with fail
  generalize w2.setCell ⟨w1.heap.size, natom x, none⟩ (.bool true) = w3 at HN1 ⊢
  obtain ⟨rs, hrr, hdat⟩ := HR.out
  have hml := hrr.len
  have HRR := Lib.hid hrr
  have HD := Lib.hid hdat
  have HRN := Lib.hid (ruN_of hrr.nlen (by rw [hdat]; exact HZ.out) (by rw [hdat]; exact HRB.out))
  have HML := Lib.hid (show ds.length = m by rw [← hdat, List.length_map]; exact hml)
  have hm24 : m ≤ 24 := by have := rules_len H1.out; have := HML.out; omega
  clear hrr hdat hml hc0 hf0 HN0
  obtain ⟨g, hgg⟩ : ∃ g, g = w1.heap.size := ⟨_, rfl⟩
  rw [← hgg] at HN1 ⊢
  clear hgg
  go_loopg [9, 10, 11, 12] 37 (fun gk v9 _ _ _ wx => ∃ (b : Bool) (S : Int → Bool), 2 * (17 - cntN S) + b.toNat ≤ gk ∧ v9 = .bool b ∧ NB w1 wx g S ∧ (∀ a, S a = true → needB ds day x a = true) ∧ S (atomI x) = true ∧ (b = false → NClosed ds day x (fun a => S a = true)))
  case atStart => exact ⟨true, _, by have := cntN_le (putB (fun _ => false) (natom x : Int)); simp; omega, rfl, HN1.out, HP1.out.1, HP1.out.2, fun h => (by cases h)⟩
  case round =>
    clear HN1 HP1
    obtain ⟨b, S0, hgk, rfl, hN, hso, hst, hcl⟩ := hrel
    cases b
    case false =>
      have HF := Lib.hid (marks_need hso (hcl rfl))
      have HN := Lib.hid hN
      clear hN hso hst hcl hgk
      go_wp2_with fail
      have hbw := below_step HB1.out HN.out.be
      have HBW := Lib.hid hbw
      clear hbw
      obtain ⟨wf, hwf⟩ : ∃ wf, wf = wr := ⟨_, rfl⟩
      go_loopw [13, 14, 88] (fun v _ i wx => ∃ k : Nat, k ≤ 17 ∧ i = .int .i64 k ∧ wx.ownsRow wf.heap.size tI 1 v (outN S0 k).length (ints (outN S0 k)) ∧ Below wf.heap.size wf wx) (fun _ _ i _ => 17 - (intOf i).toNat)
      case atStart => exact ⟨0, by omega, rfl, by rw [hwf]; exact own_empty _ _, by rw [hwf]; exact bl_a _⟩
      case round =>
        obtain ⟨k, hk, rfl, ho, hb⟩ := hrel
        rw [← hwf] at HN HBW
        clear hwf
        have HB := Lib.hid hb
        by_cases hlt : k < 17
        · have hcn := (hb.cell (p := ⟨g, k, none⟩) HN.out.lt).trans (HN.out.c k hlt)
          have hst := Lib.hid (outN_succ S0 k)
          have hl := outN_len S0 k
          have i1 : (0 : Int) ≤ k := by omega
          have i2 : (k : Int) < 17 := by omega
          obtain ⟨ls, hls⟩ : ∃ ls, ls = outN S0 k := ⟨_, rfl⟩
          rw [← hls] at hst hl ho
          have HO := Lib.hid ho
          clear ho hb hls
          cases tS : S0 (k : Int)
          · rw [tS] at hcn
            have hv := Lib.hid (show outN S0 (k + 1) = ls by rw [hst.out, tS]; simp)
            clear tS
            go_wp2_with fail
            go_roundw
            case rel => exact ⟨k + 1, by omega, by go_num, by rw [hv.out]; exact HO.out, HB.out⟩
            case measure => simp [intOf]; omega
          · rw [tS] at hcn
            have hv := Lib.hid (show outN S0 (k + 1) = ls ++ [(k : Int)] by rw [hst.out, tS]; simp)
            clear tS
            go_wp2_with (at_builtin; refine append_int rfl (.tmp 95) (.tmp 97) rfl wf _ _ _ rfl (World.ownsRow.alloc HO.out _) (Below.alloc HB.out (Below.size HB.out) _) _ _ (k : Int) rfl (cell_new _ _ _) (by omega) ?_; intro v' w' ho2 hb2)
            go_roundw
            case rel => exact ⟨k + 1, by omega, by go_num, by rw [hv.out]; simpa using ho2, hb2⟩
            case measure => simp [intOf]; omega
        · obtain rfl : k = 17 := by omega
          rw [show outN S0 17 = needL ds day x from HF.out] at ho
          have HO := Lib.hid ho
          clear ho hb
          go_wp2_with fail
          go_ret2
          rw [hfin.out.1, hfin.out.2]
          exact sl_yes rfl (own_base HO.out HBW.out.size) (below_step HBW.out HB.out)
    have HGK := Lib.hid hgk
    have HN := Lib.hid hN
    have HP0 := Lib.hid (show NP ds day x S0 false 0 S0 from ⟨hso, hst, fun _ => ⟨rfl, fun d hd => by simp at hd⟩, fun hb => (by cases hb)⟩)
    clear hN hso hst hcl hgk
    go_wp2_with fail
    go_loopw [9, 10, 11, 12, 36] (fun v9 _ _ _ i wx => ∃ (k : Nat) (b : Bool) (S : Int → Bool), k ≤ m ∧ i = .int .i64 k ∧ v9 = .bool b ∧ NB w1 wx g S ∧ NP ds day x S0 b k S) (fun _ _ _ _ i _ => m - (intOf i).toNat)
    case atStart => exact ⟨0, false, S0, by omega, rfl, rfl, HN.out, HP0.out⟩
    case round =>
      clear HN HP0
      obtain ⟨k, b, S, hk, rfl, rfl, hN, hP⟩ := hrel
      have HN := Lib.hid hN
      have HP := Lib.hid hP
      by_cases hlt : k < m
      · have hbw := below_step HB1.out hN.be
        obtain ⟨ad, r, rfl, hrk, ha, hri⟩ := (HRR.out.below hbw).at hlt
        have hdk : ds[k]? = some r.dat := by rw [← HD.out, List.getElem?_map, hrk]; rfl
        have hvi := valid_ifs H1.out (List.mem_of_getElem? hdk)
        have hrn := (HRN.out r (List.mem_of_getElem? hrk)).1
        have hwd : wordB r.hd = true := hvi.2
        have hnh := natom_eq hwd
        have HNH := Lib.hid hnh
        have a1 : (natom r.hd : Int) < 17 := by omega
        have a2 : (0 : Int) ≤ natom r.hd := by omega
        have HRK := Lib.hid hrk
        have HLI := Lib.hid hri.ilen
        have HDK := Lib.hid hdk
        have HVI := Lib.hid hvi
        have hcn := hN.c (natom r.hd) hnh.2
        have HA := Lib.hid ha
        obtain ⟨c0, c1, c2, c3, c4⟩ := ha
        have i1 : (0 : Int) ≤ k := by omega
        have i2 : (k : Int) < m := by omega
        have HWD := Lib.hid hwd
        clear hN hP hri hdk hvi hnh hrk hwd
        cases ho : onB r.dat day
        · have HO := Lib.hid ho
          clear ho
          go_wp2_with (go_at_call 37; refine (l05On_is _ r day _ HA.out HO.out).mono ?_; rintro e w' ⟨rfl, rfl⟩)
          go_roundw
          case rel => exact ⟨k + 1, b, S, by omega, by go_num, rfl, HN.out, HP.out.skip HDK.out (.inl HO.out)⟩
          case measure => simp [intOf]; omega
        have HO := Lib.hid ho
        clear ho
        rcases Bool.eq_false_or_eq_true (S (natom r.hd)) with tS | tS
        case inr =>
          have HTS := Lib.hid (show S (atomI r.dat.hd) = false by show S (atomI r.hd) = false; rw [← HNH.out.1]; exact tS)
          rw [tS] at hcn
          clear tS
          go_wp2_with (first | (go_at_call 37; refine (l05On_is _ r day _ HA.out HO.out).mono ?_; rintro e w' ⟨rfl, rfl⟩) | (go_at_call 36; refine (l05Atom_is _ HWD.out).mono ?_; rintro e w' ⟨rfl, rfl⟩))
          go_roundw
          case rel => exact ⟨k + 1, b, S, by omega, by go_num, rfl, HN.out, HP.out.skip HDK.out (.inr HTS.out)⟩
          case measure => simp [intOf]; omega
        case inl =>
        have HTS := Lib.hid (show S (atomI r.dat.hd) = true by show S (atomI r.hd) = true; rw [← HNH.out.1]; exact tS)
        rw [tS] at hcn
        clear tS
        go_wp2_with (first | (go_at_call 37; refine (l05On_is _ r day _ HA.out HO.out).mono ?_; rintro e w' ⟨rfl, rfl⟩) | (go_at_call 36; refine (l05Atom_is _ HWD.out).mono ?_; rintro e w' ⟨rfl, rfl⟩))
        clear c0 c1 c2 c3 c4 hcn HA
        go_loopw [9, 11, 12, 63] (fun v9 _ _ i wx => ∃ (t : Nat) (b : Bool) (S : Int → Bool), t ≤ r.n ∧ i = .int .i64 t ∧ v9 = .bool b ∧ NB w1 wx g S ∧ NP ds day x S0 b k S ∧ S (atomI r.dat.hd) = true ∧ (b = false → ∀ z ∈ r.ifs.take t, S0 (atomI z) = true)) (fun _ _ _ i _ => r.n - (intOf i).toNat)
        case atStart => exact ⟨0, b, S, by omega, rfl, rfl, HN.out, HP.out, HTS.out, fun _ z hz => by simp at hz⟩
        case round =>
          clear HN HP HTS
          obtain ⟨t, b, S, ht, rfl, rfl, hN, hP, hTS, hf3⟩ := hrel
          have HN := Lib.hid hN
          have HP := Lib.hid (And.intro hP (And.intro hTS hf3))
          have hbw := below_step HB1.out hN.be
          obtain ⟨ad2, r2, hE, hrk2, ha, hri⟩ := (HRR.out.below hbw).at hlt
          cases hE
          obtain rfl : r = r2 := by
            have h := HRK.out
            rw [hrk2] at h
            injection h with h; exact h.symm
          obtain ⟨c0, c1, c2, c3, c4⟩ := ha
          by_cases htl : t < r.n
          · obtain ⟨ai, hAi, hcz⟩ := hri.int htl
            obtain ⟨z, hz⟩ : ∃ z, z = r.ifs[t]?.getD 0 := ⟨_, rfl⟩
            rw [← hz] at hcz
            rw [hAi] at c1
            have htl2 : t < r.ifs.length := by have := HLI.out; omega
            have hzm : z ∈ r.ifs := by rw [hz]; exact getD_mem htl2
            have htk := Lib.hid (show r.ifs.take (t + 1) = r.ifs.take t ++ [z] by rw [hz]; exact take_snoc _ _ 0 htl2)
            have hwz : wordB z = true := HVI.out.1 z hzm
            have hnz := natom_eq hwz
            have hcn := hN.c (natom z) hnz.2
            have hfn := hN.fz (natom z) hnz.2
            have b1 : (natom z : Int) < 17 := by omega
            have b2 : (0 : Int) ≤ natom z := by omega
            have i3 : (0 : Int) ≤ t := by omega
            have i4 : (t : Int) < r.n := by omega
            have HNZ := Lib.hid hnz
            have HWZ := Lib.hid hwz
            have HZM := Lib.hid hzm
            have HTL := Lib.hid htl
            clear hN hP hTS hf3 hri hrk2 hAi hz hzm hwz hnz htl htl2
            rcases Bool.eq_false_or_eq_true (S (natom z)) with tS | tS
            · have HTZ := Lib.hid (show S (atomI z) = true by rw [← HNZ.out.1]; exact tS)
              rw [tS] at hcn
              clear tS
              go_wp2_with (go_at_call 36; refine (l05Atom_is _ HWZ.out).mono ?_; rintro e w' ⟨rfl, rfl⟩)
              go_roundw
              case rel => exact ⟨t + 1, b, S, by have := HTL.out; omega, by go_num, rfl, HN.out, HP.out.1, HP.out.2.1, fun hb y hy => by
                rw [htk.out, List.mem_append, List.mem_singleton] at hy
                rcases hy with hy | rfl
                · exact HP.out.2.2 hb y hy
                · rw [← (HP.out.1.f hb).1]; exact HTZ.out⟩
              case measure => simp [intOf]; have := HTL.out; omega
            · have HTZ := Lib.hid (show S (atomI z) = false by rw [← HNZ.out.1]; exact tS)
              rw [tS] at hcn
              clear tS
              go_wp2_with (go_at_call 36; refine (l05Atom_is _ HWZ.out).mono ?_; rintro e w' ⟨rfl, rfl⟩)
              go_roundw
              case rel => exact ⟨t + 1, true, putB S (natom z), by have := HTL.out; omega, by go_num, rfl, HN.out.put HNZ.out.2, by rw [HNZ.out.1]; exact HP.out.1.put HDK.out HO.out HP.out.2.1 HZM.out HWZ.out HTZ.out, by rw [HNZ.out.1]; exact le_put _ _ _ HP.out.2.1, fun hb => by cases hb⟩
              case measure => simp [intOf]; have := HTL.out; omega
          · obtain rfl : t = r.n := by omega
            clear hN hP hTS hf3 hri hrk2
            go_wp2_with fail
            go_roundw
            case rel => exact ⟨k + 1, b, S, by omega, by go_num, rfl, HN.out, HP.out.1.done HDK.out fun hb z hz => HP.out.2.2 hb z (by rw [List.take_of_length_le (by have := HLI.out; omega)]; exact hz)⟩
            case measure => simp [intOf]; omega
      · obtain rfl : k = m := by omega
        clear hN hP
        go_wp2_with fail
        go_roundg (2 * (17 - cntN S) + b.toNat)
        case rel => exact ⟨b, S, Nat.le_refl _, rfl, HN.out, HP.out.so, HP.out.st, fun hb => by subst hb; have h := HP.out; rw [← HML.out] at h; exact h.closed⟩
        case measure =>
          have h1 := HGK.out
          have h2 := cntN_le S
          cases b
          · have e := (HP.out.f rfl).1
            subst e
            simp at h1 ⊢; omega
          · have := HP.out.t rfl
            simp at h1 ⊢; omega
end Go.Proofs.Ytinocfehjdlohaa
