/-
  AnswersOf: what the program's and the reference's functions return.
-/
import Derived.Test.YtmfglflahlddbaaCourtT
import Derived.Test.YtmfglflahlddbaaCourtL
import Derived.Test.YtmfglflahlddbaaSl
import Derived.Deep.RegionHeld3
namespace Go.Proofs.Ytmfglflahlddbaa
open Go.ChangeShapes Go.WideShapes Go.ChangeAt Go.RowKit
set_option linter.unusedVariables false
set_option linter.unusedSimpArgs false

theorem append_ints_g {ops : Array Oper} {rest : List Oper} {o : Oper} {a : Act} {Q : Exit → Act → World → Prop} {w1 : World} (hgd : o.guard = none) (s x : Operand)
    (ho : o.op = .call { callee := .builtin .append, args := #[s, x], argTypes := #[26, 26] }) (W : World) (v : Value) (n : Nat) (zs : List Int) (hs : a.eval s = v)
    (hown : w1.ownsRow W.heap.size 2 1 v n (ints zs)) (hb : Below W.heap.size W w1) (ad : Addr) (m c : Nat) (ys : List Int) (hx : a.eval x = .slice (some ad) m c) {B : Nat} (hr : Rd w1 B 1 (some ad) m (ints ys)) (hn : n + m ≤ 4194304)
    (h : ∀ v' w', w'.ownsRow W.heap.size 2 1 v' (n + m) (ints (zs ++ ys)) → Below W.heap.size W w' → (v'.ownBlock = v.ownBlock ∨ v'.ownBlock = some w1.heap.size) → w1.grownBy w' v.ownBlock → wpList Try.prog ops Q rest (a.put o.dst v') w') : wpList Try.prog ops Q (o :: rest) a w1 := by
  obtain ⟨i0, hi, hz0, hz1, hz2⟩ := info_parts info_int
  refine wpList_append_own_at w1 hgd s x 26 ho W.heap.size 2 i0 (.int .i64 0) 1 8 Try.underlying26 hi hz0 hz1 hz2 rfl (by decide) v n (ints zs) hs hown ad m c (ints ys) hx hr.1 ?_ (ints_cells ys) ?_ ?_ hb.size ?_
  · intro j u hj
    rcases Nat.eq_zero_or_pos m with h0 | h0
    · subst h0
      have := hr.1
      rw [List.getElem?_eq_none (by omega)] at hj
      cases hj
    · obtain ⟨ad', e, _, hc⟩ := hr.2 h0
      cases e
      exact hc j u hj
  · unfold maxLen; omega
  · omega
  · intro v' w' h1 h2 _ h3
    rw [← ints_append] at h1
    exact h v' w' h1 (hb.grown h2 hb.size fun k hk => (hown.lt k hk).1) h3 h2
theorem areRules_is (A : Option Addr) (m c : Nat) {ds : List Rl} {b : Bool} (w : World) (hr : RsRd w w.heap.size A m ds) (hz : szD ds ≤ 1048576) (hb : ∀ d ∈ ds, RlB d) (h : rulesB ds = b) :
    Calls Try.prog 25 #[.slice A m c] w fun e w' => e = .returned (.bool b) ∧ Below w.heap.size w w' := by
  subst h
  have hl := sz_len hz hr.len
  obtain ⟨rs, hr, rfl⟩ := hr
  exact areRules_any A m c rs w hr hl (ruN_of hr.nlen hz hb)
theorem isDate_is {z : Int} {b : Bool} (w : World) (h : inB z 0 100000 = b) : Calls Try.prog 26 #[.int .i64 z] w fun e w' => e = .returned (.bool b) ∧ w = w' := by
  subst h; exact isDate_any z w
theorem l05Rules_is (A : Option Addr) (m c : Nat) {ds : List Rl} {b : Bool} (w : World) (hr : RsRd w w.heap.size A m ds) (hz : szD ds ≤ 1048576) (hb : ∀ d ∈ ds, RlB d) (h : rulesB ds = b) :
    Calls Try.prog 19 #[.slice A m c] w fun e w' => e = .returned (.bool b) ∧ ∃ j, w' = w.drewN j := by
  subst h
  have hl := sz_len hz hr.len
  obtain ⟨rs, hr, rfl⟩ := hr
  exact l05Rules_any A m c rs w hr hl (ruN_of hr.nlen hz hb)
/-! ### rules, facts and a day -/
def courtOk (ds : List Rl) (fs : List Int) (day : Int) : Bool := rulesB ds && (wordsB fs && inB day 0 100000)
def actF (ds : List Rl) (day : Int) : List Rl := ds.filter fun d => onB d day
noncomputable def yesB (ds : List Rl) (fs : List Int) (day : Int) : Int → Bool := lfpY fs (actF ds day)
noncomputable def noB (ds : List Rl) (fs : List Int) (day : Int) : Int → Bool := lfpN fs (actF ds day)
theorem courtOk_iff {ds : List Rl} {fs : List Int} {day : Int} : courtOk ds fs day = true ↔ rulesB ds = true ∧ wordsB fs = true ∧ inB day 0 100000 = true := by simp [courtOk, and_assoc]
theorem valid_ifs {ds : List Rl} (h : rulesB ds = true) {d : Rl} (hd : d ∈ ds) : (∀ z ∈ d.ifs, wordB z = true) ∧ wordB d.hd = true := by
  unfold rulesB at h
  simp only [Bool.and_eq_true, List.all_eq_true] at h
  have := h.2 d hd
  unfold validB at this
  simp only [Bool.and_eq_true] at this
  exact ⟨fun z hz => words_at this.2.1.1 hz, this.1⟩
theorem rulesB_len {ds : List Rl} (h : rulesB ds = true) : ds.length ≤ 24 := rules_len h
theorem fac_small {fs : List Int} {n : Nat} (h : wordsB fs = true) (hl : fs.length = n) : (wordsB fs && decide ((n : Int) ≤ 16)) = true := by
  have := words_len16 h; rw [h]; simp; omega
theorem l05Can_is {b : Bool} (A : Option Addr) (m c : Nat) (ds : List Rl) (B : Option Addr) (k d : Nat) (fs : List Int) (day : Int) (w : World) (hr : RsRd w w.heap.size A m ds) (hz : szD ds ≤ 1048576) (hb : ∀ d ∈ ds, RlB d) (hf : Rd w w.heap.size 1 B k (ints fs)) (hk : k ≤ 1048576) (hfs : I64s fs)
    (hday : -9223372036854775808 ≤ day ∧ day ≤ 9223372036854775807) (h : courtOk ds fs day = b) :
    Calls Try.prog 36 #[.slice A m c, .slice B k d, .int .i64 day] w fun e w' => e = .returned (.bool b) ∧ Below w.heap.size w w' := by
  have HFL := Lib.hid hf.ilen
  have HZ := Lib.hid hz
  have HRB := Lib.hid hb
  have HF := Lib.hid hf
  have HFS := Lib.hid hfs
  clear hz hb hf hfs
  cases h1 : rulesB ds
  case false =>
    have hfin := Lib.hid (show false = b by rw [← h]; simp [courtOk, h1])
    go_enter Try.func36, Try.ntmps36
    go_wp2_with fail
    refine (l05Rules_is _ _ _ _ hr HZ.out HRB.out h1).mono ?_; rintro e w1 ⟨rfl, j1, rfl⟩; have HB1 := Lib.hid (below_drewN (Below.refl w.heap.size w) j1)
    go_wp2_with fail
    go_ret
    exact ⟨ret_bool hfin.out, HB1.out⟩
  cases h2 : wordsB fs
  case false =>
    have hfin := Lib.hid (show false = b by rw [← h]; simp [courtOk, h2])
    have h2' : (wordsB fs && decide ((k : Int) ≤ 16)) = false := by rw [h2]; rfl
    go_enter Try.func36, Try.ntmps36
    go_wp2_with fail
    refine (l05Rules_is _ _ _ _ hr HZ.out HRB.out h1).mono ?_; rintro e w1 ⟨rfl, j1, rfl⟩; have HB1 := Lib.hid (below_drewN (Below.refl w.heap.size w) j1)
    go_wp2_with fail
    refine (l05Words_is _ _ _ _ (HF.out.on HB1.out) hk HFS.out h2).mono ?_; rintro e w2 ⟨rfl, j2, rfl⟩; have HB2 := Lib.hid (below_drewN HB1.out j2)
    go_wp2_with fail
    go_ret
    exact ⟨ret_bool hfin.out, by first | exact HB2.out | (rw [← World.drewN_drewN]; exact HB2.out)⟩
  have h2' : (wordsB fs && decide ((k : Int) ≤ 16)) = true := fac_small h2 HFL.out
  have hfin := Lib.hid (show inB day 0 100000 = b by rw [← h]; simp [courtOk, h1, h2])
  clear h
  go_enter Try.func36, Try.ntmps36
  go_wp2_with fail
  refine (l05Rules_is _ _ _ _ hr HZ.out HRB.out h1).mono ?_; rintro e w1 ⟨rfl, j1, rfl⟩; have HB1 := Lib.hid (below_drewN (Below.refl w.heap.size w) j1)
  go_wp2_with fail
  refine (l05Words_is _ _ _ _ (HF.out.on HB1.out) hk HFS.out h2).mono ?_; rintro e w2 ⟨rfl, j2, rfl⟩; have HB2 := Lib.hid (below_drewN HB1.out j2)
  go_wp2_with fail
  refine (l05Day_is hfin.out _).mono ?_; rintro e w2 ⟨rfl, rfl⟩
  go_wp2_with fail
  go_ret
  exact ⟨rfl, by first | exact HB2.out | (rw [← World.drewN_drewN]; exact HB2.out)⟩
end Go.Proofs.Ytmfglflahlddbaa

