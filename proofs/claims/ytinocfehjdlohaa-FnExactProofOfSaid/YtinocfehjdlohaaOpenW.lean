/-
  OpenOf: what the program's and the reference's functions return.
-/
import Derived.Test.YtinocfehjdlohaaOpen
import Derived.Deep.MidRow
namespace Go.Proofs.Ytinocfehjdlohaa
open Go.ChangeShapes Go.WideShapes Go.ChangeAt Go.RowKit
set_option linter.unusedVariables false
set_option linter.unusedSimpArgs false

noncomputable def openB (ds : List Rl) (fs : List Int) (day : Int) (z : Int) : Bool := !saidB (yesB ds fs day) (noB ds fs day) z
noncomputable def OpenOf_r0 (ds : List Rl) (fs : List Int) (day : Int) : List Int := if courtOk ds fs day then wordList.filter (openB ds fs day) else []
def OpenOf_r1 (ds : List Rl) (fs : List Int) (day : Int) : Bool := courtOk ds fs day
theorem op_no {ds : List Rl} {fs : List Int} {day : Int} (h : courtOk ds fs day = false) : OpenOf_r0 ds fs day = [] ∧ OpenOf_r1 ds fs day = false := by simp [OpenOf_r0, OpenOf_r1, h]
theorem op_yes {ds : List Rl} {fs : List Int} {day : Int} (h : courtOk ds fs day = true) : OpenOf_r0 ds fs day = wordList.filter (openB ds fs day) ∧ OpenOf_r1 ds fs day = true := by simp [OpenOf_r0, OpenOf_r1, h]
theorem OpenOf_len (ds : List Rl) (fs : List Int) (day : Int) : (OpenOf_r0 ds fs day).length ≤ 32 := by
  unfold OpenOf_r0; split
  · exact filter_len _
  · simp
theorem words_i64 : I64s wordList := fun z hz => by
  have := wordB_iff.1 (wordList_mem.1 hz); omega
set_option maxRecDepth 100000 in
set_option maxHeartbeats 1600000 in
theorem impl_OpenOf (A : Option Addr) (m c : Nat) (ds : List Rl) (B : Option Addr) (k d : Nat) (fs : List Int) (day : Int) (w : World) (hr : RsRd w w.heap.size A m ds) (hz : szD ds ≤ 1048576) (hb : ∀ d ∈ ds, RlB d) (hf : Rd w w.heap.size 1 B k (ints fs)) (hk : k ≤ 1048576) (hfs : I64s fs)
    (hday : -9223372036854775808 ≤ day ∧ day ≤ 9223372036854775807) :
    Calls Try.prog 29 #[.slice A m c, .slice B k d, .int .i64 day] w (SlEnds w (OpenOf_r0 ds fs day) (OpenOf_r1 ds fs day)) := by
  have HR := Lib.hid hr
  have HZ := Lib.hid hz
  have HRB := Lib.hid hb
  have HF := Lib.hid hf
  have HFS := Lib.hid hfs
  clear hr hz hb hf hfs
  cases hok : courtOk ds fs day
  case false =>
    have hfin := Lib.hid (op_no hok)
    go_enter Try.func29, Try.ntmps29
    go_wp2_with fail
    refine (areFacts_is _ _ _ _ _ _ _ _ _ _ HR.out HZ.out HRB.out HF.out hk HFS.out hday hok).mono ?_
    rintro e w1 ⟨rfl, hb1⟩
    go_wp2_with fail
    go_ret2
    rw [hfin.out.1, hfin.out.2]
    exact sl_no hb1
  have hfin := Lib.hid (op_yes hok)
  have HOK := Lib.hid hok
  clear hok
  have hmf := run_makeFn
  go_enter Try.func29, Try.ntmps29
  go_wp2_with fail
  refine (areFacts_is _ _ _ _ _ _ _ _ _ _ HR.out HZ.out HRB.out HF.out hk HFS.out hday HOK.out).mono ?_
  rintro e w1 ⟨rfl, hb1⟩
  have HB1 := Lib.hid hb1
  clear hb1
  go_wp2_with fail
  refine (judged_rs _ _ _ ds _ _ _ fs day _ (HR.out.on HB1.out) HZ.out HRB.out (HF.out.on HB1.out) hk HOK.out).mono ?_
  rintro e WJ ⟨cb, A9, m9, c9, bp, bn, rs9, I9, ci9, rfl, hC, _, hcb, hb2, _, _⟩
  have HBJ := Lib.hid (below_step HB1.out hb2)
  have HC := Lib.hid (hC.on (bl_a (.cells #[.pointer (some ⟨cb, 0, none⟩)] 75)))
  have HG := Lib.hid (show (WJ.alloc (.cells #[.pointer (some ⟨cb, 0, none⟩)] 75)).cell? ⟨WJ.heap.size, 0, none⟩ = some (.pointer (some ⟨cb, 0, none⟩)) by go_simp)
  have HBA := Lib.hid (bl_a (w := WJ) (.cells #[.pointer (some ⟨cb, 0, none⟩)] 75))
  have HGL := Lib.hid (show WJ.heap.size < (WJ.alloc (.cells #[.pointer (some ⟨cb, 0, none⟩)] 75)).heap.size by simp)
  clear hC hb2 hcb
  go_wp2_with fail
  generalize WJ.alloc (.cells #[.pointer (some ⟨cb, 0, none⟩)] 75) = W0 at HC HG HBA HGL ⊢
  refine (words_is _).mono ?_
  rintro e w5 ⟨vD, rfl, hod, hb5⟩
  obtain ⟨gb, cD, rfl, _⟩ := hod.form (by omega)
  have HO := Lib.hid hod
  have HB5 := Lib.hid hb5
  clear hod hb5
  go_wp2_with fail
  refine (delete_is W0.heap.size gb cD wordList WJ.heap.size W0 _ HO.out words_i64 HC.out HG.out HGL.out HB5.out (Nat.le_refl _)).mono ?_
  rintro e w6 ⟨q, rfl, ho6, hb6⟩
  have HO6 := Lib.hid ho6
  have HB6 := Lib.hid hb6
  clear ho6 hb6
  go_wp2_with fail
  go_ret2
  rw [hfin.out.1, hfin.out.2]
  have hq : (wordList.filter (openB ds fs day)).length = q := by
    have := own_len HO6.out
    show (wordList.filter fun z => !saidB (yesB ds fs day) (noB ds fs day) z).length = q
    simpa [ints] using this
  exact sl_yes hq (own_base HO6.out (Nat.le_trans HBJ.out.size HBA.out.size)) (below_step (below_step HBJ.out HBA.out) HB6.out)
/-! ### the reference -/
structure OA (W w : World) (g : Nat) (p : Int → Bool) (k : Nat) : Prop where
  lt : g < w.heap.size
  c : ∀ i, i < 32 → w.cell? ⟨g, i, none⟩ = some (.bool (decide (i < k) && p (wordAt i)))
  fz : ∀ i, i < 32 → w.frozen? ⟨g, i, none⟩ = false
  hg : W.heap.size ≤ g
  be : Below W.heap.size W w
theorem OA.step {W w : World} {g : Nat} {p : Int → Bool} {k : Nat} (h : OA W w g p k) (hk : k < 32) : OA W (w.setCell ⟨g, k, none⟩ (.bool (p (wordAt k)))) g p (k + 1) :=
  ⟨by simpa [World.setCell] using h.lt, fun i hi => by
    by_cases e : k = i
    · subst e; rw [World.cell?_setCell_same _ _ _ (h.c k hk)]; simp
    · rw [set_other _ _ _ _ _ e, h.c i hi]
      congr 2
      have : decide (i < k + 1) = decide (i < k) := decide_eq_decide.2 (by omega)
      rw [this], fun i hi => by rw [set_frozen]; exact h.fz i hi, h.hg, below_setFar h.be (p := ⟨g, k, none⟩) _ h.hg⟩
theorem OA.all {W w : World} {g : Nat} {p : Int → Bool} (h : OA W w g p 32) : ∀ x, wordB x = true → w.cell? ⟨g, 0 + placeOf x, none⟩ = some (.bool (p x)) := fun x hx => by
  have := h.c (placeOf x) (place_lt hx)
  rw [(word_place hx).2] at this
  rw [Nat.zero_add, this]
  have h2 := place_lt hx
  simp [h2]
def fls : Array Value := #[.bool false, .bool false, .bool false, .bool false, .bool false, .bool false, .bool false, .bool false, .bool false, .bool false, .bool false, .bool false, .bool false, .bool false, .bool false, .bool false, .bool false, .bool false, .bool false, .bool false, .bool false, .bool false, .bool false, .bool false, .bool false, .bool false, .bool false, .bool false, .bool false, .bool false, .bool false, .bool false]
theorem fls_eq : fls = Array.replicate 32 (.bool false) := rfl
theorem fls_size : fls.size = 32 := rfl
theorem fls_info : (Try.prog.info? 69).map (·.size) = some fls.size := by kernel_rfl
theorem fls_one : fls.all (·.oneCell') = true := by kernel_rfl
theorem build_run (o : Oper) (ho : o.op = .build 69 #[]) (ρ : Operand → Value) (w : World) : (execOp ρ o).run Try.prog w = .ok (.value (.agg fls)) w := by
  unfold execOp; rw [ho]; kernel_rfl
theorem alloc_run (o : Oper) (ho : o.op = .alloc 69) (ρ : Operand → Value) (w : World) : (execOp ρ o).run Try.prog w = .ok (.value (.pointer (some ⟨w.heap.size, 0, none⟩))) (w.alloc (.cells fls 69)) := by
  unfold execOp; rw [ho]; kernel_rfl
attribute [irreducible] fls
theorem wpList_run {P : Program} {ops : Array Oper} {rest : List Oper} {o : Oper} {a : Act} {w w' : World} {Q : Exit → Act → World → Prop} (hgd : o.guard = none) (v : Value) (hr : (execOp a.eval o).run P w = .ok (.value v) w') (h : wpList P ops Q rest (a.put o.dst v) w') : wpList P ops Q (o :: rest) a w :=
  wpList_plain hgd fun K hK => by unfold Oper.wp; rw [hr]; exact hK _ _ h
theorem fls_there (w : World) (t : TypeId) : (w.alloc (.cells fls t)).there w.heap.size 0 fls.size := fun j hj => by
  have hj' : j < 32 := by rw [fls_size] at hj; exact hj
  refine ⟨?_, by go_simp⟩
  rw [fls_eq, World.cell?_alloc_at _ _ _ _ rfl]; simp [hj']
theorem rep_at (i : Nat) (hi : i < 32) : (Array.replicate 32 (Value.bool false)).toList[i]? = some (.bool false) := by
  rw [Array.toList_replicate, List.getElem?_replicate, if_pos hi]
theorem OA.new (w : World) (t : TypeId) (p : Int → Bool) : OA w ((w.alloc (.cells fls t)).setCells w.heap.size 0 fls.toList) w.heap.size p 0 := by
  rw [fls_eq]
  have hc : ∀ i, i < 32 → ((w.alloc (.cells (Array.replicate 32 (.bool false)) t)).setCells w.heap.size 0 (Array.replicate 32 (.bool false)).toList).cell? ⟨w.heap.size, i, none⟩ = some (.bool false) := fun i hi => by
    have := World.cell?_setCells_in w.heap.size (Array.replicate 32 (Value.bool false)).toList 0 (w.alloc (.cells (Array.replicate 32 (.bool false)) t)) (fun j hj => by
      rw [World.cell?_alloc_at _ _ _ _ rfl]; simp at hj; simp [hj]) i (by simpa using hi)
    rw [Nat.zero_add] at this
    rw [this, ← rep_at i hi]
    exact (List.getElem?_eq_getElem _).symm
  have hg : Below w.heap.size w ((w.alloc (.cells (Array.replicate 32 (.bool false)) t)).setCells w.heap.size 0 (Array.replicate 32 (.bool false)).toList) ∧ w.heap.size < ((w.alloc (.cells (Array.replicate 32 (.bool false)) t)).setCells w.heap.size 0 (Array.replicate 32 (.bool false)).toList).heap.size := by
    have h : ∀ (us : List Value) (o : Nat) (a : World), Below w.heap.size w a → w.heap.size < a.heap.size → Below w.heap.size w (a.setCells w.heap.size o us) ∧ w.heap.size < (a.setCells w.heap.size o us).heap.size := by
      intro us
      induction us with
      | nil => exact fun o a h1 h2 => ⟨h1, h2⟩
      | cons u us ih => exact fun o a h1 h2 => ih (o + 1) _ (below_setFar h1 (p := ⟨w.heap.size, o, none⟩) u (Nat.le_refl _)) (by simpa [World.setCell] using h2)
    exact h _ _ _ (bl_a _) (by simp)
  exact ⟨hg.2, fun i hi => by rw [hc i hi]; simp, fun i hi => by rw [World.frozen?_setCells]; go_simp, Nat.le_refl _, hg.1⟩
theorem St.at {w : World} {sb : Nat} {y n f : Int → Bool} (h : St w sb y n f) {i : Nat} (hi : i < 32) : w.cell? ⟨sb, i, none⟩ = some (.bool (y (wordAt i))) ∧ w.cell? ⟨sb, 32 + i, none⟩ = some (.bool (n (wordAt i))) := by
  obtain ⟨h1, h2⟩ := place_word hi
  have a := h.yes _ h1
  have b := h.no _ h1
  rw [h2] at a b
  exact ⟨a, b⟩
set_option maxRecDepth 100000 in
set_option maxHeartbeats 3200000 in
theorem spec_OpenOf (A : Option Addr) (m c : Nat) (ds : List Rl) (B : Option Addr) (k d : Nat) (fs : List Int) (day : Int) (w : World) (hr : RsRd w w.heap.size A m ds) (hz : szD ds ≤ 1048576) (hb : ∀ d ∈ ds, RlB d) (hf : Rd w w.heap.size 1 B k (ints fs)) (hk : k ≤ 1048576) (hfs : I64s fs)
    (hday : -9223372036854775808 ≤ day ∧ day ≤ 9223372036854775807) :
    Calls Try.prog 28 #[.slice A m c, .slice B k d, .int .i64 day] w (SlEnds w (OpenOf_r0 ds fs day) (OpenOf_r1 ds fs day)) := by
  have HR := Lib.hid hr
  have HZ := Lib.hid hz
  have HRB := Lib.hid hb
  have HF := Lib.hid hf
  have HFS := Lib.hid hfs
  have hm := sz_len hz hr.len
  have HACT := Lib.hid (szD_act (day := day) hr.len)
  clear hr hz hb hf hfs
  cases hok : courtOk ds fs day
  case false =>
    have hfin := Lib.hid (op_no hok)
    go_enter Try.func28, Try.ntmps28
    go_wp2_with fail
    refine (l05Can_is _ _ _ _ _ _ _ _ _ _ HR.out HZ.out HRB.out HF.out hk HFS.out hday hok).mono ?_
    rintro e w1 ⟨rfl, hb1⟩
    go_wp2_with fail
    go_ret2
    rw [hfin.out.1, hfin.out.2]
    exact sl_no hb1
  have hfin := Lib.hid (op_yes hok)
  have HOK := Lib.hid hok
  clear hok
  go_enter Try.func28, Try.ntmps28
  go_wp2_with fail
  refine (l05Can_is _ _ _ _ _ _ _ _ _ _ HR.out HZ.out HRB.out HF.out hk HFS.out hday HOK.out).mono ?_
  rintro e w1 ⟨rfl, hb1⟩
  have HB1 := Lib.hid hb1
  clear hb1
  go_wp2_with fail
  refine (l05Of_any _ _ _ ds day _ (HR.out.on HB1.out) hm).mono ?_
  rintro e w2 ⟨A2, n2, c2, rfl, hrd, hb2⟩
  rw [HACT.out] at hrd
  have HB2 := Lib.hid (below_step HB1.out hb2)
  have HR2 := Lib.hid hrd
  clear hrd hb2
  go_wp2_with fail
  refine (answer_rs _ _ _ ds _ _ _ fs day _ HR2.out (actF_small (courtOk_iff.1 HOK.out).1) HRB.out (HF.out.on HB2.out) hk HOK.out).mono ?_
  rintro e w3 ⟨sb, rfl, hsb, hS, hb3⟩
  have HB3 := Lib.hid (below_step HB2.out hb3)
  have HS := Lib.hid hS
  have hlt := hS.lt
  clear hb3 hS
  have HOA := Lib.hid (OA.new w3 69 (openB ds fs day))
  have HTH := Lib.hid (fls_there w3 69)
  go_wp2_with (first
    | (refine wpList_run rfl (.agg fls) (build_run _ rfl _ _) ?_)
    | (refine wpList_run rfl (.pointer (some ⟨w3.heap.size, 0, none⟩)) (alloc_run _ rfl _ _) ?_)
    | (refine wpList_store_mid rfl 69 (.tmp 9) (.tmp 21) rfl w3.heap.size 0 fls rfl rfl HTH.out fls_info fls_one ?_))
  generalize ((w3.alloc (.cells fls 69)).setCells w3.heap.size 0 fls.toList) = wO at HOA ⊢
  go_loopw [10, 22] (fun _ i wr => ∃ q : Nat, q ≤ 32 ∧ i = .int .i64 q ∧ OA w3 wr w3.heap.size (openB ds fs day) q) (fun _ i _ => 32 - (intOf i).toNat)
  case atStart => exact ⟨0, by omega, rfl, HOA.out⟩
  case round =>
    clear HOA
    obtain ⟨q, hq, rfl, hO⟩ := hrel
    by_cases hlq : q < 32
    · have hs1 := HS.out.at hlq
      have s1 := (hO.be.cell (p := ⟨sb, q, none⟩) hlt).trans hs1.1
      have s2 := (hO.be.cell (p := ⟨sb, 32 + q, none⟩) hlt).trans hs1.2
      have o1 := hO.c q hlq
      have o2 := hO.fz q hlq
      have HO := Lib.hid hO
      have i1 : (0 : Int) ≤ q := by omega
      have i2 : (q : Int) < 32 := by omega
      have HST := Lib.hid (hO.step hlq)
      clear hO hs1
      rcases Bool.eq_false_or_eq_true (yesB ds fs day (wordAt q)) with ty | ty
      · have hv := Lib.hid (show openB ds fs day (wordAt q) = false by unfold openB saidB; rw [ty]; rfl)
        rw [ty] at s1
        clear ty
        go_wp2_with fail
        go_roundw
        case rel => exact ⟨q + 1, by omega, by go_num, by have h := HST.out; rw [hv.out] at h; exact h⟩
        case measure => simp [intOf]; omega
      · rcases Bool.eq_false_or_eq_true (noB ds fs day (wordAt q)) with tn | tn
        · have hv := Lib.hid (show openB ds fs day (wordAt q) = false by unfold openB saidB; rw [ty, tn]; rfl)
          rw [ty] at s1
          rw [tn] at s2
          clear ty tn
          go_wp2_with fail
          go_roundw
          case rel => exact ⟨q + 1, by omega, by go_num, by have h := HST.out; rw [hv.out] at h; exact h⟩
          case measure => simp [intOf]; omega
        · have hv := Lib.hid (show openB ds fs day (wordAt q) = true by unfold openB saidB; rw [ty, tn]; rfl)
          rw [ty] at s1
          rw [tn] at s2
          clear ty tn
          go_wp2_with fail
          go_roundw
          case rel => exact ⟨q + 1, by omega, by go_num, by have h := HST.out; rw [hv.out] at h; exact h⟩
          case measure => simp [intOf]; omega
    · obtain rfl : q = 32 := by omega
      have HO := Lib.hid hO
      clear hO
      go_wp2_with fail
      refine (l05List_is w3.heap.size 0 (openB ds fs day) _ HO.out.lt HO.out.all).mono ?_
      rintro e w4 ⟨v, rfl, ho4, hb4⟩
      have HO4 := Lib.hid ho4
      have HB4 := Lib.hid hb4
      clear ho4 hb4
      go_wp2_with fail
      go_ret2
      rw [hfin.out.1, hfin.out.2]
      have hbw := below_step HB3.out HO.out.be
      exact sl_yes rfl (own_base HO4.out hbw.size) (below_step hbw HB4.out)
end Go.Proofs.Ytinocfehjdlohaa
