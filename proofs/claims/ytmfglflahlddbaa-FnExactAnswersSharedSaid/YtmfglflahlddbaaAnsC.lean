/-
  AnswersOf: what the program's and the reference's functions return.
-/
import Derived.Test.YtmfglflahlddbaaAnsB
namespace Go.Proofs.Ytmfglflahlddbaa
open Go.ChangeShapes Go.WideShapes Go.ChangeAt Go.RowKit
set_option linter.unusedVariables false
set_option linter.unusedSimpArgs false

theorem actF_small {ds : List Rl} {day : Int} (h : rulesB ds = true) : szD (actF ds day) ≤ 1048576 := by
  have hl : (actF ds day).length ≤ 24 := Nat.le_trans (List.length_filter_le _ _) (rules_len h)
  have hs : ∀ es : List Rl, (∀ d ∈ es, d.ifs.length ≤ 6) → sumD es ≤ 6 * es.length := by
    intro es
    induction es with
    | nil => intro _; simp [sumD]
    | cons e es ih =>
      intro h
      have h1 := ih fun d hd => h d (List.mem_cons_of_mem _ hd)
      have h2 := h e (by simp)
      simp only [sumD, List.map_cons, List.sum_cons, List.length_cons] at h1 ⊢
      omega
  have := hs (actF ds day) fun d hd => by
    unfold rulesB at h
    simp only [Bool.and_eq_true, List.all_eq_true] at h
    have := h.2 d (actF_mem hd)
    unfold validB at this
    simp only [Bool.and_eq_true, decide_eq_true_eq] at this
    omega
  unfold szD
  omega
/-- the reference: the active rules, all words told -/
theorem szD_act {ds : List Rl} {day : Int} {m : Nat} (hl : ds.length = m) : actD ds day m = actF ds day := by subst hl; exact actD_all ds day
set_option maxHeartbeats 1600000 in
theorem spec_AnswersOf (A : Option Addr) (m c : Nat) (ds : List Rl) (B : Option Addr) (k d : Nat) (fs : List Int) (day : Int) (w : World) (hr : RsRd w w.heap.size A m ds) (hz : szD ds ≤ 1048576) (hb : ∀ d ∈ ds, RlB d) (hf : Rd w w.heap.size 1 B k (ints fs)) (hk : k ≤ 1048576) (hfs : I64s fs)
    (hday : -9223372036854775808 ≤ day ∧ day ≤ 9223372036854775807) :
    Calls Try.prog 22 #[.slice A m c, .slice B k d, .int .i64 day] w (SlEnds2 w (AnswersOf_r0 ds fs day) (AnswersOf_r1 ds fs day) (AnswersOf_r2 ds fs day)) := by
  have HR := Lib.hid hr
  have HZ := Lib.hid hz
  have HRB := Lib.hid hb
  have HF := Lib.hid hf
  have HFS := Lib.hid hfs
  have hm := sz_len hz hr.len
  have HACT := Lib.hid (szD_act (day := day) hr.len)
  clear hr hz hb hf hfs
  cases hok : courtOk ds fs day
  case false =>
    have hfin := Lib.hid (an_no hok)
    go_enter Try.func22, Try.ntmps22
    go_wp2_with fail
    refine (l05Can_is _ _ _ _ _ _ _ _ _ _ HR.out HZ.out HRB.out HF.out hk HFS.out hday hok).mono ?_
    rintro e w1 ⟨rfl, hb1⟩
    go_wp2_with fail
    go_ret3
    rw [hfin.out.1, hfin.out.2.1, hfin.out.2.2]
    exact sl2_no hb1
  have hfin := Lib.hid (an_yes hok)
  have HOK := Lib.hid hok
  clear hok
  go_enter Try.func22, Try.ntmps22
  go_wp2_with fail
  refine (l05Can_is _ _ _ _ _ _ _ _ _ _ HR.out HZ.out HRB.out HF.out hk HFS.out hday HOK.out).mono ?_
  rintro e w1 ⟨rfl, hb1⟩
  have HB1 := Lib.hid hb1
  clear hb1
  go_wp2_with fail
  refine (l05Of_any _ _ _ ds day _ (HR.out.on HB1.out) hm).mono ?_
  rintro e w2 ⟨A2, n2, c2, rfl, hrd, hb2⟩
  rw [HACT.out] at hrd
  have HB2 := Lib.hid (below_step HB1.out hb2)
  have HR2 := Lib.hid hrd
  clear hrd hb2
  go_wp2_with fail
  refine (answer_rs _ _ _ ds _ _ _ fs day _ HR2.out (actF_small (courtOk_iff.1 HOK.out).1) HRB.out (HF.out.on HB2.out) hk HOK.out).mono ?_
  rintro e w3 ⟨sb, rfl, hsb, hS, hb3⟩
  have HB3 := Lib.hid (below_step HB2.out hb3)
  have HS := Lib.hid hS
  clear hb3 hS
  have hlt := HS.out.lt
  go_wp2_with fail
  go_region_with (first
    | (go_at_call_of 39 (Value.pointer (some { block := sb, off := 0, spot := none }))
       refine (l05List_is sb 0 (yesB ds fs day) w3.drew hlt (fun x hx => by rw [Nat.zero_add]; exact HS.out.yes x hx)).mono ?_
       rintro e w4 ⟨v1, rfl, ho1, hb4⟩
       have HO1 := Lib.hid ho1
       have HB4 := Lib.hid (show Below w3.heap.size w3 w4 from (Below.refl w3.heap.size w3).drew.trans hb4)
       have hlt4 := Nat.lt_of_lt_of_le hlt hb4.size
       clear ho1 hb4)
    | (go_at_call 39
       refine (l05List_is sb 32 (noB ds fs day) _ hlt4 (fun x hx => (HB4.out.cell (p := ⟨sb, 32 + placeOf x, none⟩) hlt).trans (HS.out.no x hx))).mono ?_
       rintro e w5 ⟨v2, rfl, ho2, hb5⟩
       have HO2 := Lib.hid ho2
       have HB5 := Lib.hid hb5
       clear ho2 hb5))
  all_goals go_wp2_with fail
  all_goals go_ret3
  all_goals rw [hfin.out.1, hfin.out.2.1, hfin.out.2.2]
  all_goals exact sl2_yes (B := w3.heap.size) (own_on HO1.out HB5.out) (own_base HO2.out HB4.out.size) (fun g hg he => by have h1 := (HO1.out.lt _ hg).2; have h2 := (HO2.out.lt _ he).1; omega) HB3.out.size (Nat.le_trans HB4.out.size HB5.out.size) (below_step (below_step HB3.out HB4.out) HB5.out)
end Go.Proofs.Ytmfglflahlddbaa

