/-
  AnswersOf: what the program's and the reference's functions return.
-/
import Derived.Test.YtinocfehjdlohaaAnsB
namespace Go.Proofs.Ytinocfehjdlohaa
open Go.ChangeShapes Go.WideShapes Go.ChangeAt Go.RowKit
set_option linter.unusedVariables false
set_option linter.unusedSimpArgs false

theorem actF_small {ds : List Rl} {day : Int} (h : rulesB ds = true) : szD (actF ds day) ≤ 1048576 := by
  have hl : (actF ds day).length ≤ 24 := Nat.le_trans (List.length_filter_le _ _) (rules_len h)
  have hs : ∀ es : List Rl, (∀ d ∈ es, d.ifs.length ≤ 6) → sumD es ≤ 6 * es.length := by
    intro es
    induction es with
    | nil => intro _; simp [sumD]
    | cons e es ih =>
      intro h
      have h1 := ih fun d hd => h d (List.mem_cons_of_mem _ hd)
      have h2 := h e (by simp)
      simp only [sumD, List.map_cons, List.sum_cons, List.length_cons] at h1 ⊢
      omega
  have := hs (actF ds day) fun d hd => by
    unfold rulesB at h
    simp only [Bool.and_eq_true, List.all_eq_true] at h
    have := h.2 d (actF_mem hd)
    unfold validB at this
    simp only [Bool.and_eq_true, decide_eq_true_eq] at this
    omega
  unfold szD
  omega
/-- the reference: the active rules, all words told -/
theorem szD_act {ds : List Rl} {day : Int} {m : Nat} (hl : ds.length = m) : actD ds day m = actF ds day := by subst hl; exact actD_all ds day
set_option maxHeartbeats 1600000 in
theorem spec_AnswersOf (A : Option Addr) (m c : Nat) (ds : List Rl) (B : Option Addr) (k d : Nat) (fs : List Int) (day : Int) (w : World) (hr : RsRd w w.heap.size A m ds) (hz : szD ds ≤ 1048576) (hb : ∀ d ∈ ds, RlB d) (hf : Rd w w.heap.size 1 B k (ints fs)) (hk : k ≤ 1048576) (hfs : I64s fs)
    (hday : -9223372036854775808 ≤ day ∧ day ≤ 9223372036854775807) :
    Calls Try.prog 26 #[.slice A m c, .slice B k d, .int .i64 day] w (SlEnds2 w (AnswersOf_r0 ds fs day) (AnswersOf_r1 ds fs day) (AnswersOf_r2 ds fs day)) := by
  have HR := Lib.hid hr
  have HZ := Lib.hid hz
  have HRB := Lib.hid hb
  have HF := Lib.hid hf
  have HFS := Lib.hid hfs
  have hm := sz_len hz hr.len
  have HACT := Lib.hid (szD_act (day := day) hr.len)
  clear hr hz hb hf hfs
  cases hok : courtOk ds fs day
  case false =>
    have hfin := Lib.hid (an_no hok)
    go_enter Try.func26, Try.ntmps26
    go_wp2_with fail
    refine (l05Can_is _ _ _ _ _ _ _ _ _ _ HR.out HZ.out HRB.out HF.out hk HFS.out hday hok).mono ?_
    rintro e w1 ⟨rfl, hb1⟩
    go_wp2_with fail
    go_ret3
    rw [hfin.out.1, hfin.out.2.1, hfin.out.2.2]
    exact sl2_no hb1
  have hfin := Lib.hid (an_yes hok)
  have HOK := Lib.hid hok
  clear hok
  go_enter Try.func26, Try.ntmps26
  go_wp2_with fail
  refine (l05Can_is _ _ _ _ _ _ _ _ _ _ HR.out HZ.out HRB.out HF.out hk HFS.out hday HOK.out).mono ?_
  rintro e w1 ⟨rfl, hb1⟩
  have HB1 := Lib.hid hb1
  clear hb1
  go_wp2_with fail
  refine (l05Of_any _ _ _ ds day _ (HR.out.on HB1.out) hm).mono ?_
  rintro e w2 ⟨A2, n2, c2, rfl, hrd, hb2⟩
  rw [HACT.out] at hrd
  have HB2 := Lib.hid (below_step HB1.out hb2)
  have HR2 := Lib.hid hrd
  clear hrd hb2
  go_wp2_with fail
  refine (answer_rs _ _ _ ds _ _ _ fs day _ HR2.out (actF_small (courtOk_iff.1 HOK.out).1) HRB.out (HF.out.on HB2.out) hk HOK.out).mono ?_
  rintro e w3 ⟨sb, rfl, hsb, hS, hb3⟩
  have HB3 := Lib.hid (below_step HB2.out hb3)
  have HS := Lib.hid hS
  clear hb3 hS
  have hlt := HS.out.lt
  go_wp2_with fail
  go_region_with (first
    | (go_at_call_of 61 (Value.pointer (some { block := sb, off := 0, spot := none }))
       refine (l05List_is sb 0 (yesB ds fs day) w3.drew hlt (fun x hx => by rw [Nat.zero_add]; exact HS.out.yes x hx)).mono ?_
       rintro e w4 ⟨v1, rfl, ho1, hb4⟩
       have HO1 := Lib.hid ho1
       have HB4 := Lib.hid (show Below w3.heap.size w3 w4 from (Below.refl w3.heap.size w3).drew.trans hb4)
       have hlt4 := Nat.lt_of_lt_of_le hlt hb4.size
       clear ho1 hb4)
    | (go_at_call 61
       refine (l05List_is sb 32 (noB ds fs day) _ hlt4 (fun x hx => (HB4.out.cell (p := ⟨sb, 32 + placeOf x, none⟩) hlt).trans (HS.out.no x hx))).mono ?_
       rintro e w5 ⟨v2, rfl, ho2, hb5⟩
       have HO2 := Lib.hid ho2
       have HB5 := Lib.hid hb5
       clear ho2 hb5))
  all_goals go_wp2_with fail
  all_goals go_ret3
  all_goals rw [hfin.out.1, hfin.out.2.1, hfin.out.2.2]
  all_goals exact sl2_yes (B := w3.heap.size) (own_on HO1.out HB5.out) (own_base HO2.out HB4.out.size) (fun g hg he => by have h1 := (HO1.out.lt _ hg).2; have h2 := (HO2.out.lt _ he).1; omega) HB3.out.size (Nat.le_trans HB4.out.size HB5.out.size) (below_step (below_step HB3.out HB4.out) HB5.out)
/-! ### the program -/
/-- two slices and the row of all words, apart -/
structure A2 (W w : World) (D : Option Addr) (cD : Nat) (u v : Value) (l1 l2 : List Int) : Prop where
  o1 : w.ownsRow W.heap.size tI 1 u l1.length (ints l1)
  o2 : w.ownsRow W.heap.size tI 1 v l2.length (ints l2)
  od : w.ownsRow W.heap.size tI 1 (.slice D 32 cD) 32 (ints wordList)
  n12 : ∀ g, u.ownBlock = some g → v.ownBlock ≠ some g
  n1d : ∀ g, u.ownBlock = some g → (Value.slice D 32 cD).ownBlock ≠ some g
  n2d : ∀ g, v.ownBlock = some g → (Value.slice D 32 cD).ownBlock ≠ some g
  be : Below W.heap.size W w
section
variable {W w w' : World} {D : Option Addr} {cD : Nat} {u v v' : Value} {l1 l2 l' : List Int}
theorem A2.alloc (h : A2 W w D cD u v l1 l2) (o : Go.Obj) : A2 W (w.alloc o) D cD u v l1 l2 := ⟨h.o1.alloc o, h.o2.alloc o, h.od.alloc o, h.n12, h.n1d, h.n2d, h.be.alloc h.be.size o⟩
theorem ne_of_ap {a b : Value} (h : ∀ g, a.ownBlock = some g → b.ownBlock ≠ some g) : b.ownBlock = none ∨ b.ownBlock ≠ a.ownBlock := by
  cases e : b.ownBlock with
  | none => exact .inl rfl
  | some g => exact .inr fun h2 => h g h2.symm e
theorem A2.app1 (h : A2 W w D cD u v l1 l2) (ho : w'.ownsRow W.heap.size tI 1 v' l'.length (ints l')) (hb : Below W.heap.size W w') (hn : v'.ownBlock = u.ownBlock ∨ v'.ownBlock = some w.heap.size) (hg : w.grownBy w' u.ownBlock) : A2 W w' D cD v' v l' l2 := by
  refine ⟨ho, World.ownsRow.kept h.o2 hg (ne_of_ap h.n12), World.ownsRow.kept h.od hg (ne_of_ap h.n1d), fun g hg' => ?_, fun g hg' => ?_, h.n2d, hb⟩
  · rcases hn with e | e
    · exact h.n12 g (e ▸ hg')
    · intro h2; have := (h.o2.lt _ h2).2; rw [hg'] at e; injection e with e; omega
  · rcases hn with e | e
    · exact h.n1d g (e ▸ hg')
    · intro h2; have := (h.od.lt _ h2).2; rw [hg'] at e; injection e with e; omega
theorem A2.app2 (h : A2 W w D cD u v l1 l2) (ho : w'.ownsRow W.heap.size tI 1 v' l'.length (ints l')) (hb : Below W.heap.size W w') (hn : v'.ownBlock = v.ownBlock ∨ v'.ownBlock = some w.heap.size) (hg : w.grownBy w' v.ownBlock) : A2 W w' D cD u v' l1 l' := by
  refine ⟨World.ownsRow.kept h.o1 hg (ne_of_ap fun g h1 h2 => h.n12 g h2 h1), ho, World.ownsRow.kept h.od hg (ne_of_ap h.n2d), fun g h1 h2 => ?_, h.n1d, fun g hg' => ?_, hb⟩
  · rcases hn with e | e
    · exact h.n12 g h1 (e ▸ h2)
    · have := (h.o1.lt _ h1).2; rw [h2] at e; injection e with e; omega
  · rcases hn with e | e
    · exact h.n2d g (e ▸ hg')
    · intro h2; have := (h.od.lt _ h2).2; rw [hg'] at e; injection e with e; omega
end
theorem two_empty (w : World) : ((w.alloc (.cells #[] tI)).alloc (.cells #[] tI)).ownsRow w.heap.size tI 1 (.slice (some ⟨w.heap.size, 0, none⟩) 0 0) 0 [] ∧ ((w.alloc (.cells #[] tI)).alloc (.cells #[] tI)).ownsRow w.heap.size tI 1 (.slice (some ⟨w.heap.size + 1, 0, none⟩) 0 0) 0 [] := by
  have h1 := (own_empty w tI).alloc (.cells #[] tI)
  have h2 := own_empty (w.alloc (.cells #[] tI)) tI
  rw [show (w.alloc (.cells #[] tI)).heap.size = w.heap.size + 1 by simp] at h2
  exact ⟨h1, own_base h2 (by omega)⟩
theorem one_rd (w : World) (x : Int) (t : TypeId) : Rd (w.alloc (.cells #[.int .i64 x] t)) (w.heap.size + 1) 1 (some ⟨w.heap.size, 0, none⟩) 1 (ints [x]) := by
  refine ⟨rfl, fun _ => ⟨_, rfl, by simp, fun j u hu => ?_⟩⟩
  have hj : j < 1 := by
    have := (List.getElem?_eq_some_iff.1 hu).1
    simpa [ints] using this
  obtain rfl : j = 0 := by omega
  rw [add_zero_, World.cell?_alloc_at _ _ _ _ rfl]
  exact hu
theorem take_fl (s : Int → Bool) {p : Nat} {x : Int} (h : wordList[p]? = some x) : (wordList.take (p + 1)).filter s = (wordList.take p).filter s ++ (if s x then [x] else []) := by
  rw [List.take_add_one, h, List.filter_append]
  cases h1 : s x <;> simp [h1]
set_option maxRecDepth 100000 in
set_option maxHeartbeats 3200000 in
theorem impl_AnswersOf (A : Option Addr) (m c : Nat) (ds : List Rl) (B : Option Addr) (k d : Nat) (fs : List Int) (day : Int) (w : World) (hr : RsRd w w.heap.size A m ds) (hz : szD ds ≤ 1048576) (hb : ∀ d ∈ ds, RlB d) (hf : Rd w w.heap.size 1 B k (ints fs)) (hk : k ≤ 1048576) (hfs : I64s fs)
    (hday : -9223372036854775808 ≤ day ∧ day ≤ 9223372036854775807) :
    Calls Try.prog 27 #[.slice A m c, .slice B k d, .int .i64 day] w (SlEnds2 w (AnswersOf_r0 ds fs day) (AnswersOf_r1 ds fs day) (AnswersOf_r2 ds fs day)) := by
  have HR := Lib.hid hr
  have HZ := Lib.hid hz
  have HRB := Lib.hid hb
  have HF := Lib.hid hf
  have HFS := Lib.hid hfs
  clear hr hz hb hf hfs
  cases hok : courtOk ds fs day
  case false =>
    have hfin := Lib.hid (an_no hok)
    go_enter Try.func27, Try.ntmps27
    go_wp2_with fail
    refine (areFacts_is _ _ _ _ _ _ _ _ _ _ HR.out HZ.out HRB.out HF.out hk HFS.out hday hok).mono ?_
    rintro e w1 ⟨rfl, hb1⟩
    go_wp2_with fail
    go_ret3
    rw [hfin.out.1, hfin.out.2.1, hfin.out.2.2]
    exact sl2_no hb1
  have hfin := Lib.hid (an_yes hok)
  have HOK := Lib.hid hok
  clear hok
  go_enter Try.func27, Try.ntmps27
  go_wp2_with fail
  refine (areFacts_is _ _ _ _ _ _ _ _ _ _ HR.out HZ.out HRB.out HF.out hk HFS.out hday HOK.out).mono ?_
  rintro e w1 ⟨rfl, hb1⟩
  have HB1 := Lib.hid hb1
  clear hb1
  go_wp2_with fail
  refine (judged_rs _ _ _ ds _ _ _ fs day _ (HR.out.on HB1.out) HZ.out HRB.out (HF.out.on HB1.out) hk HOK.out).mono ?_
  rintro e WJ ⟨cb, A9, m9, c9, bp, bn, rs9, I9, ci9, rfl, hC, _, hcb, hb2, _, _⟩
  have HBJ := Lib.hid (below_step HB1.out hb2)
  have HC := Lib.hid hC
  clear hC hb2 hcb
  have HE := Lib.hid (two_empty WJ)
  go_wp2_with fail
  refine (words_is _).mono ?_
  rintro e w5 ⟨vD, rfl, hod, hb5⟩
  obtain ⟨D, cD, rfl, _⟩ := own_form hod
  have HB5 := Lib.hid hb5
  have HA0 := Lib.hid (show A2 WJ w5 D cD (.slice (some ⟨WJ.heap.size, 0, none⟩) 0 0) (.slice (some ⟨WJ.heap.size + 1, 0, none⟩) 0 0) [] [] from
    ⟨own_on HE.out.1 hb5, own_on HE.out.2 hb5, own_base hod (by simp; omega), fun g h1 h2 => by simp [Value.ownBlock] at h1 h2; omega,
      fun g h1 h2 => by have := (hod.lt _ h2).1; simp [Value.ownBlock] at h1 this; omega, fun g h1 h2 => by have := (hod.lt _ h2).1; simp [Value.ownBlock] at h1 this; omega,
      (((Below.refl _ _).alloc (Nat.le_refl _) _).alloc (by simp) _).trans (hb5.mono (by simp; omega))⟩)
  clear hod hb5 HE HB5
  go_wp2_with fail
  go_loopw [10, 11, 13, 27] (fun u v _ i wr => ∃ p : Nat, p ≤ 32 ∧ i = .int .i64 p ∧ A2 WJ wr D cD u v ((wordList.take p).filter (yesB ds fs day)) ((wordList.take p).filter (noB ds fs day))) (fun _ _ _ i _ => 32 - (intOf i).toNat)
  case atStart => exact ⟨0, by omega, rfl, HA0.out⟩
  case round =>
    clear HA0
    obtain ⟨p, hp, rfl, hA⟩ := hrel
    by_cases hlp : p < 32
    · obtain ⟨x, hxp, hwx⟩ := wordList_at hlp
      obtain ⟨ad, hD, hc⟩ := (Rd.of_own hA.od).int hlp
      subst hD
      rw [hxp] at hc
      simp only [Option.getD_some] at hc
      have hxb := wordB_iff.1 hwx
      have HX6 := Lib.hid (show I64b x from ⟨by omega, by omega⟩)
      have i1 : (0 : Int) ≤ p := by omega
      have i2 : (p : Int) < 32 := by omega
      have HS1 := Lib.hid (take_fl (yesB ds fs day) hxp)
      have HS2 := Lib.hid (take_fl (noB ds fs day) hxp)
      have q1 := fl_len (yesB ds fs day) p
      have q2 := fl_len (noB ds fs day) p
      obtain ⟨l1, hl1⟩ : ∃ l1, l1 = (wordList.take p).filter (yesB ds fs day) := ⟨_, rfl⟩
      obtain ⟨l2, hl2⟩ : ∃ l2, l2 = (wordList.take p).filter (noB ds fs day) := ⟨_, rfl⟩
      rw [← hl1] at hA HS1 q1
      rw [← hl2] at hA HS2 q2
      have HA := Lib.hid hA
      clear hA hl1 hl2 hxp hwx
      have c3 := (HC.out.on HA.out.be).c3
      have ly := (HC.out.on HA.out.be).my.look HX6.out
      have c4 := (HC.out.on HA.out.be).c4
      have ln := (HC.out.on HA.out.be).mn.look HX6.out
      rcases Bool.eq_false_or_eq_true (yesB ds fs day x) with ty | ty
      · have HS1' := Lib.hid (show (wordList.take (p + 1)).filter (yesB ds fs day) = l1 ++ [x] by rw [HS1.out, ty]; simp)
        rw [ty] at ly
        clear ty HS1
        rcases Bool.eq_false_or_eq_true (noB ds fs day x) with tn | tn
        · have HS2' := Lib.hid (show (wordList.take (p + 1)).filter (noB ds fs day) = l2 ++ [x] by rw [HS2.out, tn]; simp)
          have HTN := Lib.hid tn
          clear tn HS2
          go_wp2_with (at_builtin; refine append_ints_g rfl (.tmp 37) (.tmp 39) rfl WJ _ _ _ rfl (World.ownsRow.alloc HA.out.o1 _) (Below.alloc HA.out.be (Below.size HA.out.be) _) _ 1 1 [x] rfl (one_rd _ _ _) (by omega) ?_; intro v' w' ho2 hb2 hn2 hg2; have HA1 := Lib.hid ((HA.out.alloc (.cells #[.int .i64 x] tI)).app1 (l' := l1 ++ [x]) (by simpa using ho2) hb2 hn2 hg2); have d4 := (HC.out.on HA1.out.be).c4; have lm := (HC.out.on HA1.out.be).mn.look HX6.out; rw [HTN.out] at lm; clear ho2 hb2 hn2 hg2 HA c3 ly c4 ln; have HA := HA1; clear HA1; go_wp2_with (at_builtin; refine append_ints_g rfl (.tmp 47) (.tmp 49) rfl WJ _ _ _ rfl (World.ownsRow.alloc HA.out.o2 _) (Below.alloc HA.out.be (Below.size HA.out.be) _) _ 1 1 [x] rfl (one_rd _ _ _) (by omega) ?_; intro v' w' ho2 hb2 hn2 hg2))
          have HA2 := Lib.hid ((HA.out.alloc (.cells #[.int .i64 x] tI)).app2 (l' := l2 ++ [x]) (by simpa using ho2) hb2 hn2 hg2)
          clear ho2 hb2 hn2 hg2
          go_roundw
          case rel => exact ⟨p + 1, by omega, by go_num, by rw [HS1'.out, HS2'.out]; exact HA2.out⟩
          case measure => simp [intOf]; omega
        · have HS2' := Lib.hid (show (wordList.take (p + 1)).filter (noB ds fs day) = l2 by rw [HS2.out, tn]; simp)
          have HTN := Lib.hid tn
          clear tn HS2
          go_wp2_with (at_builtin; refine append_ints_g rfl (.tmp 37) (.tmp 39) rfl WJ _ _ _ rfl (World.ownsRow.alloc HA.out.o1 _) (Below.alloc HA.out.be (Below.size HA.out.be) _) _ 1 1 [x] rfl (one_rd _ _ _) (by omega) ?_; intro v' w' ho2 hb2 hn2 hg2; have HA1 := Lib.hid ((HA.out.alloc (.cells #[.int .i64 x] tI)).app1 (l' := l1 ++ [x]) (by simpa using ho2) hb2 hn2 hg2); have d4 := (HC.out.on HA1.out.be).c4; have lm := (HC.out.on HA1.out.be).mn.look HX6.out; rw [HTN.out] at lm; clear ho2 hb2 hn2 hg2 HA c3 ly c4 ln; have HA := HA1; clear HA1; go_wp2_with fail)
          go_roundw
          case rel => exact ⟨p + 1, by omega, by go_num, by rw [HS1'.out, HS2'.out]; exact HA.out⟩
          case measure => simp [intOf]; omega
      · have HS1' := Lib.hid (show (wordList.take (p + 1)).filter (yesB ds fs day) = l1 by rw [HS1.out, ty]; simp)
        rw [ty] at ly
        clear ty HS1
        rcases Bool.eq_false_or_eq_true (noB ds fs day x) with tn | tn
        · have HS2' := Lib.hid (show (wordList.take (p + 1)).filter (noB ds fs day) = l2 ++ [x] by rw [HS2.out, tn]; simp)
          rw [tn] at ln
          clear tn HS2
          go_wp2_with (at_builtin; refine append_ints_g rfl (.tmp 47) (.tmp 49) rfl WJ _ _ _ rfl (World.ownsRow.alloc HA.out.o2 _) (Below.alloc HA.out.be (Below.size HA.out.be) _) _ 1 1 [x] rfl (one_rd _ _ _) (by omega) ?_; intro v' w' ho2 hb2 hn2 hg2)
          have HA2 := Lib.hid ((HA.out.alloc (.cells #[.int .i64 x] tI)).app2 (l' := l2 ++ [x]) (by simpa using ho2) hb2 hn2 hg2)
          clear ho2 hb2 hn2 hg2
          go_roundw
          case rel => exact ⟨p + 1, by omega, by go_num, by rw [HS1'.out, HS2'.out]; exact HA2.out⟩
          case measure => simp [intOf]; omega
        · have HS2' := Lib.hid (show (wordList.take (p + 1)).filter (noB ds fs day) = l2 by rw [HS2.out, tn]; simp)
          rw [tn] at ln
          clear tn HS2
          go_wp2_with fail
          go_roundw
          case rel => exact ⟨p + 1, by omega, by go_num, by rw [HS1'.out, HS2'.out]; exact HA.out⟩
          case measure => simp [intOf]; omega
    · obtain rfl : p = 32 := by omega
      have HA := Lib.hid hA
      have HT := Lib.hid (show wordList.take 32 = wordList from List.take_of_length_le (by decide))
      clear hA
      go_wp2_with fail
      go_ret3
      rw [hfin.out.1, hfin.out.2.1, hfin.out.2.2]
      have h := HA.out
      rw [HT.out] at h
      exact sl2_yes h.o1 h.o2 h.n12 HBJ.out.size h.be.size (below_step HBJ.out h.be)
end Go.Proofs.Ytinocfehjdlohaa
