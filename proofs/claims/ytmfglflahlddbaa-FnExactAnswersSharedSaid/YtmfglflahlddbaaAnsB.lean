/-
  AnswersOf: what the program's and the reference's functions return.
-/
import Derived.Test.YtmfglflahlddbaaAnsA
namespace Go.Proofs.Ytmfglflahlddbaa
open Go.ChangeShapes Go.WideShapes Go.ChangeAt Go.RowKit
set_option linter.unusedVariables false
set_option linter.unusedSimpArgs false

theorem actF_mem {ds : List Rl} {day : Int} {d : Rl} (h : d ∈ actF ds day) : d ∈ ds := (List.mem_filter.1 h).1
theorem judged_rs (A : Option Addr) (m c : Nat) (ds : List Rl) (B : Option Addr) (k d : Nat) (fs : List Int) (day : Int) (w : World) (hr : RsRd w w.heap.size A m ds) (hz : szD ds ≤ 1048576) (hb : ∀ d ∈ ds, RlB d) (hf : Rd w w.heap.size 1 B k (ints fs)) (hk : k ≤ 1048576) (hok : courtOk ds fs day = true) :
    Calls Try.prog 33 #[.slice A m c, .slice B k d, .int .i64 day] w fun e w' => ∃ (cb : Nat) (A2 : Option Addr) (m2 c2 bp bn : Nat) (rs2 : List Ru) (I : Option Addr) (ci : Nat), e = .returned (.pointer (some ⟨cb, 0, none⟩)) ∧ Court w' cb A2 m2 c2 B k d bp bn rs2 fs (yesB ds fs day) (noB ds fs day) ∧ rs2.map Ru.dat = actF ds day ∧ w.heap.size ≤ cb ∧ Below w.heap.size w w' ∧
      w'.cell? ⟨cb, 1, none⟩ = some (.slice I m2 ci) ∧ Rd w' w'.heap.size 1 I m2 (ints (actTo ds day m)) := by
  have hl := hr.len
  have h24 := rulesB_len (courtOk_iff.1 hok).1
  obtain ⟨rs, hr, rfl⟩ := hr
  refine (judged_is A m c rs B k d fs day w hr (by omega) (ruN_of hr.nlen hz hb) hf hk).mono ?_
  rintro e w' ⟨cb, A2, m2, c2, bp, bn, rs2, I, ci, rfl, hC, hd, h1, h2, h3, h4⟩
  rw [hd] at hC
  exact ⟨cb, A2, m2, c2, bp, bn, rs2, I, ci, rfl, hC, hd, h1, h2, h3, h4⟩
theorem answer_rs (A : Option Addr) (m c : Nat) (ds : List Rl) (B : Option Addr) (k d : Nat) (fs : List Int) (day : Int) (w : World) (hr : RsRd w w.heap.size A m (actF ds day)) (hs : szD (actF ds day) ≤ 1048576) (hb : ∀ d ∈ ds, RlB d) (hf : Rd w w.heap.size 1 B k (ints fs)) (hk : k ≤ 1048576) (hok : courtOk ds fs day = true) :
    Calls Try.prog 37 #[.slice A m c, .slice B k d] w fun e w' => ∃ sb, e = .returned (.pointer (some ⟨sb, 0, none⟩)) ∧ w.heap.size ≤ sb ∧ St w' sb (yesB ds fs day) (noB ds fs day) (facB fs) ∧ Below w.heap.size w w' := by
  have hl := hr.len
  obtain ⟨h1, h2, _⟩ := courtOk_iff.1 hok
  obtain ⟨rs, hr, he⟩ := hr
  have hrn : RuN rs := ruN_of hr.nlen (by rw [he]; exact hs) (by rw [he]; exact fun d hd => hb d (actF_mem hd))
  have := l05Answer_is A m c rs B k d fs w ⟨hr, fun r h => ⟨(hrn r h).1, valid_ifs h1 (actF_mem (by rw [← he]; exact List.mem_map_of_mem h))⟩⟩ (by have := sz_len hs hl; omega) hf hk h2
  rw [he] at this
  exact this
/-- two slices of the call's own, apart, and a bool -/
def SlEnds2 (W : World) (us vs : List Int) (ok : Bool) (E : Ending) (w' : World) : Prop :=
  ∃ (u v : Value) (l1 h1 l2 h2 : Nat), E = .returned (.tuple #[u, v, .bool ok]) ∧ ObjI w' l1 h1 u us.length us ∧ ObjI w' l2 h2 v vs.length vs ∧ (W.heap.size ≤ l1 ∧ l1 ≤ h1 ∧ h1 ≤ w'.heap.size ∧ W.heap.size ≤ l2 ∧ l2 ≤ h2 ∧ h2 ≤ w'.heap.size ∧ (h1 ≤ l2 ∨ h2 ≤ l1)) ∧ Below W.heap.size W w'
theorem sl2_no {W w' : World} (hb : Below W.heap.size W w') : SlEnds2 W [] [] false (.returned (.tuple #[.slice none 0 0, .slice none 0 0, .bool false])) w' :=
  ⟨_, _, W.heap.size, W.heap.size, W.heap.size, W.heap.size, rfl, ⟨World.ownsRow_nil _ _ _ _, fun g h => (by cases h)⟩, ⟨World.ownsRow_nil _ _ _ _, fun g h => (by cases h)⟩, ⟨Nat.le_refl _, Nat.le_refl _, hb.size, Nat.le_refl _, Nat.le_refl _, hb.size, .inl (Nat.le_refl _)⟩, hb⟩
theorem own_at {w : World} {B n : Nat} {v : Value} {zs : List Int} (h : w.ownsRow B tI 1 v n (ints zs)) : ∃ l hh, ObjI w l hh v n zs ∧ B ≤ l ∧ l ≤ hh ∧ hh ≤ max B w.heap.size ∧ (v.ownBlock = some l ∧ hh = l + 1 ∨ v.ownBlock = none ∧ hh = l) := by
  rcases h.2 with ⟨rfl, hn⟩ | ⟨g, cap, cur, rfl, hb, h1, h2, h3, h4, h5⟩
  · exact ⟨B, B, ⟨⟨h.1, .inl ⟨rfl, hn⟩⟩, fun g hg => (by cases hg)⟩, Nat.le_refl _, Nat.le_refl _, by omega, .inr ⟨rfl, rfl⟩⟩
  · have hg : g < w.heap.size := (Array.getElem?_eq_some_iff.1 h1).1
    exact ⟨g, g + 1, ⟨⟨h.1, .inr ⟨g, cap, cur, rfl, Nat.le_refl _, h1, h2, h3, h4, h5⟩⟩, fun q hq => by simp [Value.ownBlock] at hq; omega⟩, hb, by omega, by omega, .inl ⟨rfl, rfl⟩⟩
theorem sl2_yes {W w' : World} {B : Nat} {us vs : List Int} {u v : Value} (hu : w'.ownsRow B tI 1 u us.length (ints us)) (hv : w'.ownsRow B tI 1 v vs.length (ints vs)) (ha : ∀ g, u.ownBlock = some g → v.ownBlock ≠ some g) (hB : W.heap.size ≤ B) (hB2 : B ≤ w'.heap.size) (hb : Below W.heap.size W w') : SlEnds2 W us vs true (.returned (.tuple #[u, v, .bool true])) w' := by
  obtain ⟨l1, h1, o1, b1, c1, d1, e1⟩ := own_at hu
  obtain ⟨l2, h2, o2, b2, c2, d2, e2⟩ := own_at hv
  by_cases hd : h1 ≤ l2 ∨ h2 ≤ l1
  · exact ⟨u, v, l1, h1, l2, h2, rfl, o1, o2, ⟨by omega, c1, by omega, by omega, c2, by omega, hd⟩, hb⟩
  · exfalso
    rcases e1 with ⟨e1, f1⟩ | ⟨e1, f1⟩ <;> rcases e2 with ⟨e2, f2⟩ | ⟨e2, f2⟩
    · have : l1 = l2 := by omega
      subst this
      exact ha l1 e1 e2
    · omega
    · omega
    · omega
noncomputable def AnswersOf_r0 (ds : List Rl) (fs : List Int) (day : Int) : List Int := if courtOk ds fs day then wordList.filter (yesB ds fs day) else []
noncomputable def AnswersOf_r1 (ds : List Rl) (fs : List Int) (day : Int) : List Int := if courtOk ds fs day then wordList.filter (noB ds fs day) else []
def AnswersOf_r2 (ds : List Rl) (fs : List Int) (day : Int) : Bool := courtOk ds fs day
theorem an_no {ds : List Rl} {fs : List Int} {day : Int} (h : courtOk ds fs day = false) : AnswersOf_r0 ds fs day = [] ∧ AnswersOf_r1 ds fs day = [] ∧ AnswersOf_r2 ds fs day = false := by simp [AnswersOf_r0, AnswersOf_r1, AnswersOf_r2, h]
theorem an_yes {ds : List Rl} {fs : List Int} {day : Int} (h : courtOk ds fs day = true) : AnswersOf_r0 ds fs day = wordList.filter (yesB ds fs day) ∧ AnswersOf_r1 ds fs day = wordList.filter (noB ds fs day) ∧ AnswersOf_r2 ds fs day = true := by simp [AnswersOf_r0, AnswersOf_r1, AnswersOf_r2, h]
theorem filter_len (s : Int → Bool) : (wordList.filter s).length ≤ 32 := Nat.le_trans (List.length_filter_le _ _) (by decide)
theorem AnswersOf_len0 (ds : List Rl) (fs : List Int) (day : Int) : (AnswersOf_r0 ds fs day).length ≤ 32 := by
  unfold AnswersOf_r0; split
  · exact filter_len _
  · simp
theorem AnswersOf_len1 (ds : List Rl) (fs : List Int) (day : Int) : (AnswersOf_r1 ds fs day).length ≤ 32 := by
  unfold AnswersOf_r1; split
  · exact filter_len _
  · simp
/-! ### the reference: l05List -/
theorem fl_more (s : Int → Bool) (a : Nat) (h : a < 16) : (wordList.take (2 * (a + 1))).filter s = ((wordList.take (2 * a)).filter s ++ (if s ((a + 1 : Nat) : Int) then [((a + 1 : Nat) : Int)] else [])) ++ (if s (-((a + 1 : Nat) : Int)) then [-((a + 1 : Nat) : Int)] else []) := by
  rw [words_take a h, List.filter_append, List.append_assoc]
  congr 1
  cases h1 : s ((a + 1 : Nat) : Int) <;> cases h2 : s (-((a + 1 : Nat) : Int)) <;> simp only [List.filter_cons, List.filter_nil, h1, h2] <;> rfl
theorem fl_len (s : Int → Bool) (k : Nat) : ((wordList.take k).filter s).length ≤ 32 := Nat.le_trans (List.length_filter_le _ _) (by rw [List.length_take]; exact Nat.le_trans (Nat.min_le_right _ _) (by decide))
structure LS (W w : World) (v : Value) (ls : List Int) : Prop where
  own : w.ownsRow W.heap.size tI 1 v ls.length (ints ls)
  be : Below W.heap.size W w
theorem LS.drewN {W w : World} {v : Value} {ls : List Int} (h : LS W w v ls) (j : Nat) : LS W (w.drewN j) v ls := ⟨own_on h.own (below_drewN (Below.refl _ _) j), below_drewN h.be j⟩
set_option maxHeartbeats 1600000 in
theorem l05List_is (bk off : Nat) (s : Int → Bool) (w : World) (hl : bk < w.heap.size) (hs : ∀ x, wordB x = true → w.cell? ⟨bk, off + placeOf x, none⟩ = some (.bool (s x))) :
    Calls Try.prog 39 #[.pointer (some ⟨bk, off, none⟩)] w fun e w' => ∃ v, e = .returned v ∧ w'.ownsRow w.heap.size tI 1 v (wordList.filter s).length (ints (wordList.filter s)) ∧ Below w.heap.size w w' := by
  have HS := Lib.hid hs
  clear hs
  go_enter Try.func39, Try.ntmps39
  go_wp2_with fail
  go_loopw [3, 4] (fun v i wr => ∃ a : Nat, a ≤ 16 ∧ i = .int .i64 ((a : Int) + 1) ∧ LS w wr v ((wordList.take (2 * a)).filter s)) (fun _ i _ => 17 - (intOf i).toNat)
  case atStart => exact ⟨0, by omega, rfl, ⟨own_empty _ _, bl_a _⟩⟩
  case round =>
    obtain ⟨a, ha, rfl, hL⟩ := hrel
    by_cases hla : a < 16
    · obtain ⟨x, hx⟩ : ∃ x : Int, x = ((a + 1 : Nat) : Int) := ⟨_, rfl⟩
      have hxa : (a : Int) + 1 = x := by omega
      have HX := Lib.hid hx
      have hwx : wordB x = true := wordB_iff.2 (by omega)
      have hwn : wordB (-x) = true := wordB_iff.2 (by omega)
      have x1 : x ≤ 16 := by omega
      have x2 : 1 ≤ x := by omega
      have p1 : (placeOf x : Int) < 32 := by have := place_lt hwx; omega
      have p2 : (0 : Int) ≤ placeOf x := by omega
      have p3 : (placeOf (-x) : Int) < 32 := by have := place_lt hwn; omega
      have p4 : (0 : Int) ≤ placeOf (-x) := by omega
      have HWX := Lib.hid hwx
      have HWN := Lib.hid hwn
      rw [hxa]
      have HXA := Lib.hid hxa
      have hfl := fl_len s (2 * a)
      obtain ⟨ls, hls⟩ : ∃ ls, ls = (wordList.take (2 * a)).filter s := ⟨_, rfl⟩
      have HLS := Lib.hid hls
      rw [← hls] at hL hfl
      have HB0 := Lib.hid hL
      have c1 := (hL.be.cell (p := ⟨bk, off + placeOf x, none⟩) hl).trans (HS.out x HWX.out)
      clear hx hwx hwn hL hls hxa
      rcases Bool.eq_false_or_eq_true (s x) with t1 | t1
      · have HT := Lib.hid t1
        rw [t1] at c1
        clear t1
        go_wp2_with fail
        go_quiet (first | (go_at_call 54; exact quietL (l05Place_is x _ HWX.out)))
        have HB2 := Lib.hid (HB0.out.drewN nq)
        clear c1 HB0
        generalize (World.drewN _ nq) = w3 at HB2 ⊢
        go_wp2_with (at_builtin; refine append_int rfl (.tmp 16) (.tmp 18) rfl w _ _ _ rfl (World.ownsRow.alloc HB2.out.own _) (Below.alloc HB2.out.be (Below.size HB2.out.be) _) _ _ x rfl (cell_new _ _ _) (by omega) ?_; intro v' w' ho2 hb2)
        have HB := Lib.hid (show LS w w' v' (ls ++ [x]) from ⟨by simpa using ho2, hb2⟩)
        clear ho2 hb2 HB2
        have c2 := (HB.out.be.cell (p := ⟨bk, off + placeOf (-x), none⟩) hl).trans (HS.out (-x) HWN.out)
        rcases Bool.eq_false_or_eq_true (s (-x)) with t2 | t2
        · have hs := Lib.hid (show (wordList.take (2 * (a + 1))).filter s = (ls ++ [x]) ++ [-x] by rw [fl_more s a hla, ← HX.out, ← HLS.out, HT.out, t2]; simp)
          rw [t2] at c2
          clear t2
          go_wp2_with fail
          go_quiet (first | (go_at_call 54; exact quietL (l05Place_is (-x) _ HWN.out)))
          have HB2 := Lib.hid (HB.out.drewN nq)
          clear c2 HB
          generalize (World.drewN _ nq) = w4 at HB2 ⊢
          go_wp2_with (at_builtin; refine append_int rfl (.tmp 27) (.tmp 30) rfl w _ _ _ rfl (World.ownsRow.alloc HB2.out.own _) (Below.alloc HB2.out.be (Below.size HB2.out.be) _) _ _ (-x) rfl (cell_new _ _ _) (by simp; omega) ?_; intro v' w' ho2 hb2)
          go_roundw
          case rel => exact ⟨a + 1, by omega, by have := HXA.out; go_num, ⟨by rw [hs.out]; simpa using ho2, hb2⟩⟩
          case measure => simp [intOf]; omega
        · have hs := Lib.hid (show (wordList.take (2 * (a + 1))).filter s = ls ++ [x] by rw [fl_more s a hla, ← HX.out, ← HLS.out, HT.out, t2]; simp)
          rw [t2] at c2
          clear t2
          go_wp2_with fail
          go_quiet (first | (go_at_call 54; exact quietL (l05Place_is (-x) _ HWN.out)))
          have HB2 := Lib.hid (HB.out.drewN nq)
          clear c2 HB
          generalize (World.drewN _ nq) = w4 at HB2 ⊢
          go_wp2_with fail
          go_roundw
          case rel => exact ⟨a + 1, by omega, by have := HXA.out; go_num, by rw [hs.out]; exact HB2.out⟩
          case measure => simp [intOf]; omega
      · have HT := Lib.hid t1
        rw [t1] at c1
        clear t1
        go_wp2_with fail
        go_quiet (first | (go_at_call 54; exact quietL (l05Place_is x _ HWX.out)))
        have HB := Lib.hid (HB0.out.drewN nq)
        clear c1 HB0
        generalize (World.drewN _ nq) = w3 at HB ⊢
        go_wp2_with fail
        have c2 := (HB.out.be.cell (p := ⟨bk, off + placeOf (-x), none⟩) hl).trans (HS.out (-x) HWN.out)
        rcases Bool.eq_false_or_eq_true (s (-x)) with t2 | t2
        · have hs := Lib.hid (show (wordList.take (2 * (a + 1))).filter s = (ls) ++ [-x] by rw [fl_more s a hla, ← HX.out, ← HLS.out, HT.out, t2]; simp)
          rw [t2] at c2
          clear t2
          go_wp2_with fail
          go_quiet (first | (go_at_call 54; exact quietL (l05Place_is (-x) _ HWN.out)))
          have HB2 := Lib.hid (HB.out.drewN nq)
          clear c2 HB
          generalize (World.drewN _ nq) = w4 at HB2 ⊢
          go_wp2_with (at_builtin; refine append_int rfl (.tmp 27) (.tmp 30) rfl w _ _ _ rfl (World.ownsRow.alloc HB2.out.own _) (Below.alloc HB2.out.be (Below.size HB2.out.be) _) _ _ (-x) rfl (cell_new _ _ _) (by simp; omega) ?_; intro v' w' ho2 hb2)
          go_roundw
          case rel => exact ⟨a + 1, by omega, by have := HXA.out; go_num, ⟨by rw [hs.out]; simpa using ho2, hb2⟩⟩
          case measure => simp [intOf]; omega
        · have hs := Lib.hid (show (wordList.take (2 * (a + 1))).filter s = ls by rw [fl_more s a hla, ← HX.out, ← HLS.out, HT.out, t2]; simp)
          rw [t2] at c2
          clear t2
          go_wp2_with fail
          go_quiet (first | (go_at_call 54; exact quietL (l05Place_is (-x) _ HWN.out)))
          have HB2 := Lib.hid (HB.out.drewN nq)
          clear c2 HB
          generalize (World.drewN _ nq) = w4 at HB2 ⊢
          go_wp2_with fail
          go_roundw
          case rel => exact ⟨a + 1, by omega, by have := HXA.out; go_num, by rw [hs.out]; exact HB2.out⟩
          case measure => simp [intOf]; omega
    · obtain rfl : a = 16 := by omega
      have HF := Lib.hid (show (wordList.take (2 * 16)).filter s = wordList.filter s by rw [List.take_of_length_le (by decide)])
      rw [HF.out] at hL
      have HLL := Lib.hid hL
      clear hL
      go_wp2_with fail
      go_ret
      exact ⟨_, rfl, HLL.out.own, HLL.out.be⟩
end Go.Proofs.Ytmfglflahlddbaa

