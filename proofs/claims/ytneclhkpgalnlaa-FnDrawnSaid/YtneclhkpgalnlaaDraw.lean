/-
  DrawDown, SafeDraw: what the program's and the reference's function return.
-/
import Derived.Test.YtneclhkpgalnlaaApp
namespace Go.Proofs.Ytneclhkpgalnlaa
open Go.ChangeShapes Go.WideShapes Go.ChangeAt Go.RowKit
set_option linter.unusedVariables false

/-- what is there after k years, and in how many of them the draw was taken whole -/
def dStep (d M r : Int) (p : Int × Int) : Int × Int := if d ≤ p.1 then (min ((p.1 - d) * (10000 + r) / 10000) M, p.2 + 1) else (0, p.2)
def drawAt (s : Int) (rs : List Int) (d M : Int) : Nat → Int × Int
  | 0 => (s, 0)
  | k + 1 => dStep d M (rs[k]?.getD 0) (drawAt s rs d M k)
def drawTo (s : Int) (rs : List Int) (d M : Int) (k : Nat) : List Int := (List.range k).map fun i => (drawAt s rs d M (i + 1)).1
theorem drawTo_succ (s : Int) (rs : List Int) (d M : Int) (k : Nat) : drawTo s rs d M (k + 1) = drawTo s rs d M k ++ [(drawAt s rs d M (k + 1)).1] := by simp [drawTo, List.range_succ]
theorem drawTo_length (s : Int) (rs : List Int) (d M : Int) (k : Nat) : (drawTo s rs d M k).length = k := by simp [drawTo]
/-- at one step: what is multiplied and what comes out is small -/
theorem dStep_bd {u d r : Int} (hu : 0 ≤ u ∧ u ≤ 1000000000001) (hd : 0 ≤ d) (hr : -9999 ≤ r ∧ r ≤ 10000) (h : d ≤ u) :
    0 ≤ (u - d) * (10000 + r) ∧ (u - d) * (10000 + r) ≤ 20000000000020000 := by
  have := mul_bd 1000000000001 20000 (a := u - d) (b := 10000 + r) (by omega) (by omega) (by omega) (by omega)
  omega
def DrawIs (W : World) (rs : List Int) (y : Int) (E : Ending) (w' : World) : Prop :=
  ∃ v, E = .returned (.tuple #[v, .int .i64 y]) ∧ w'.ownsRow W.heap.size 2 1 v rs.length (ints rs) ∧ Below W.heap.size W w'
def RateIs (rs : List Int) : Prop := ∀ k, k < rs.length → -9999 ≤ rs[k]?.getD 0 ∧ rs[k]?.getD 0 ≤ 10000
theorem rates_is {rs : List Int} {a b : Int} (h : cntIn rs a b (-9999) 10000 = true) : RateIs rs := fun k hk => allIn_at (cntIn_iff.1 h).2.2 _ (getD_mem hk)
set_option maxHeartbeats 1600000 in
theorem drawn_any (s : Int) (A : Option Addr) (n c : Nat) (rs : List Int) (d M : Int) (w : World) (h1 : 0 ≤ s ∧ s ≤ 1000000000001) (hr : Rd w w.heap.size 1 A n (ints rs)) (hn : n ≤ 60) (hz : RateIs rs) (h2 : 0 ≤ d ∧ d ≤ 1000000000001) (h3 : 0 ≤ M ∧ M ≤ 1000000000001) :
    Calls Try.prog 26 #[.int .i64 s, .slice A n c, .int .i64 d, .int .i64 M] w (DrawIs w (drawTo s rs d M rs.length) (drawAt s rs d M rs.length).2) := by
  have HL := Lib.hid hr.ilen
  have HZ := Lib.hid hz
  have hB : Below w.heap.size w w := Below.refl _ _
  clear hz
  go_enter Try.func26, Try.ntmps26
  go_wp2_with fail
  go_loopw [0, 10, 11, 13, 17] (fun s' v y _ i wr => ∃ (k : Nat) (p : Int × Int), k ≤ n ∧ i = .int .i64 k ∧ p = drawAt s rs d M k ∧ s' = .int .i64 p.1 ∧ y = .int .i64 p.2 ∧ (0 ≤ p.1 ∧ p.1 ≤ 1000000000001) ∧ (0 ≤ p.2 ∧ p.2 ≤ k) ∧ wr.ownsRow w.heap.size 2 1 v k (ints (drawTo s rs d M k)) ∧ Below w.heap.size w wr) (fun _ _ _ _ i _ => n - (intOf i).toNat)
  case atStart => exact ⟨0, (s, 0), Nat.zero_le _, rfl, rfl, rfl, rfl, h1, by simp, own_base (own_empty _ _) hB.size, hB.alloc hB.size _⟩
  case round =>
    obtain ⟨k, p, hk, rfl, hp, rfl, rfl, b1, b2, hown, hbw⟩ := hrel
    have HP := Lib.hid hp
    clear hp hB
    by_cases hlt : k < n
    · obtain ⟨ad, rfl, hc⟩ := (hr.below hbw).int hlt
      clear hr
      have by' := HZ.out k (by have := HL.out; omega)
      have hst := Lib.hid (drawTo_succ s rs d M k)
      have hv := Lib.hid (show drawAt s rs d M (k + 1) = dStep d M (rs[k]?.getD 0) (drawAt s rs d M k) from rfl)
      obtain ⟨y, hy⟩ : ∃ y, y = rs[k]?.getD 0 := ⟨_, rfl⟩
      rw [← hy] at hc by'
      have HY := Lib.hid hy
      clear hy
      obtain ⟨u, yr⟩ := p
      dsimp only at b1 b2 ⊢
      by_cases hd : d ≤ u
      · have pb := dStep_bd b1 h2.1 by' hd
        by_cases hM : M < (u - d) * (10000 + y) / 10000
        · have hv2 := Lib.hid (show drawAt s rs d M (k + 1) = (M, yr + 1) by
            rw [hv.out, ← HP.out, ← HY.out]; unfold dStep; rw [if_pos hd]; dsimp only; rw [show min ((u - d) * (10000 + y) / 10000) M = M by omega])
          have hzb : 0 ≤ M ∧ M ≤ 1000000000001 := by omega
          go_wp2_with (at_builtin; refine append_int rfl (.tmp 36) (.tmp 38) rfl w _ k (drawTo s rs d M k) rfl (hown.alloc _) (hbw.alloc hbw.size _) _ _ (M) rfl (cell_new _ _ _) (by omega) ?_; intro v' w' ho2 hb2)
          go_roundw
          case rel => exact ⟨k + 1, (M, yr + 1), by omega, by go_num, by rw [hv2.out], rfl, rfl, hzb, by constructor <;> simp <;> omega, by rw [hst.out, hv2.out]; exact ho2, hb2⟩
          case measure => simp [intOf]; omega
        · have hv2 := Lib.hid (show drawAt s rs d M (k + 1) = ((u - d) * (10000 + y) / 10000, yr + 1) by
            rw [hv.out, ← HP.out, ← HY.out]; unfold dStep; rw [if_pos hd]; dsimp only; rw [show min ((u - d) * (10000 + y) / 10000) M = (u - d) * (10000 + y) / 10000 by omega])
          have hzb : 0 ≤ (u - d) * (10000 + y) / 10000 ∧ (u - d) * (10000 + y) / 10000 ≤ 1000000000001 := by omega
          go_wp2_with (at_builtin; refine append_int rfl (.tmp 36) (.tmp 38) rfl w _ k (drawTo s rs d M k) rfl (hown.alloc _) (hbw.alloc hbw.size _) _ _ ((u - d) * (10000 + y) / 10000) rfl (cell_new _ _ _) (by omega) ?_; intro v' w' ho2 hb2)
          go_roundw
          case rel => exact ⟨k + 1, ((u - d) * (10000 + y) / 10000, yr + 1), by omega, by go_num, by rw [hv2.out], rfl, rfl, hzb, by constructor <;> simp <;> omega, by rw [hst.out, hv2.out]; exact ho2, hb2⟩
          case measure => simp [intOf]; omega
      · have hv2 := Lib.hid (show drawAt s rs d M (k + 1) = (0, yr) by rw [hv.out, ← HP.out]; unfold dStep; exact if_neg hd)
        have e0 : ¬ M < 0 := by omega
        go_wp2_with (at_builtin; refine append_int rfl (.tmp 36) (.tmp 38) rfl w _ k (drawTo s rs d M k) rfl (hown.alloc _) (hbw.alloc hbw.size _) _ _ 0 rfl (cell_new _ _ _) (by omega) ?_; intro v' w' ho2 hb2)
        go_roundw
        case rel => exact ⟨k + 1, (0, yr), by omega, by go_num, by rw [hv2.out], rfl, rfl, by simp, by constructor <;> simp <;> omega, by rw [hst.out, hv2.out]; exact ho2, hb2⟩
        case measure => simp [intOf]; omega
    · obtain rfl : n = k := by omega
      go_wp2_with fail
      go_ret2
      refine ⟨_, by rw [HL.out, ← HP.out]; rfl, ?_, hbw⟩
      rw [drawTo_length, HL.out]
      exact hown

/-! ### DrawDown -/
def downOk (s : Int) (rs : List Int) (d : Int) : Bool := inB s 0 1000000000000 && cntIn rs 1 60 (-9999) 10000 && inB d 0 1000000000000
def downFull (s : Int) (rs : List Int) (d : Int) : Bool := downOk s rs d && allIn (drawTo s rs d 1000000000001 rs.length) 0 1000000000000
def DrawDown_r0 (s : Int) (rs : List Int) (d : Int) : List Int := if downFull s rs d then drawTo s rs d 1000000000001 rs.length else []
def DrawDown_r1 (s : Int) (rs : List Int) (d : Int) : Int := if downFull s rs d then (drawAt s rs d 1000000000001 rs.length).2 else 0
def DrawDown_r2 (s : Int) (rs : List Int) (d : Int) : Bool := downFull s rs d
theorem DrawDown_len (s : Int) (rs : List Int) (d : Int) : (DrawDown_r0 s rs d).length ≤ 60 := by
  unfold DrawDown_r0
  split
  · rename_i h
    simp only [downFull, downOk, Bool.and_eq_true] at h
    rw [drawTo_length]
    have := (cntIn_iff.1 h.1.1.2).2.1
    omega
  · simp
def DownIs (W : World) (s : Int) (rs : List Int) (d : Int) (E : Ending) (w' : World) : Prop :=
  ∃ v, E = .returned (.tuple #[v, .int .i64 (DrawDown_r1 s rs d), .bool (DrawDown_r2 s rs d)]) ∧ w'.ownsRow W.heap.size 2 1 v (DrawDown_r0 s rs d).length (ints (DrawDown_r0 s rs d)) ∧ Below W.heap.size W w'
theorem down_no {W w' : World} {s : Int} {rs : List Int} {d : Int} (h : downFull s rs d = false) (hb : Below W.heap.size W w') : DownIs W s rs d (.returned (.tuple #[.slice none 0 0, .int .i64 0, .bool false])) w' := by
  unfold DownIs DrawDown_r0 DrawDown_r1 DrawDown_r2
  rw [h]
  exact ⟨_, rfl, World.ownsRow_nil _ _ _ _, hb⟩
theorem down_yes {W w' : World} {s : Int} {rs : List Int} {d : Int} {v : Value} (h : downFull s rs d = true)
    (ho : w'.ownsRow W.heap.size 2 1 v (drawTo s rs d 1000000000001 rs.length).length (ints (drawTo s rs d 1000000000001 rs.length))) (hb : Below W.heap.size W w') :
    DownIs W s rs d (.returned (.tuple #[v, .int .i64 (drawAt s rs d 1000000000001 rs.length).2, .bool true])) w' := by
  unfold DownIs DrawDown_r0 DrawDown_r1 DrawDown_r2
  rw [h]
  exact ⟨_, rfl, ho, hb⟩
theorem drawTo_at {s : Int} {rs : List Int} {d M : Int} {n : Nat} (h : allIn (drawTo s rs d M n) 0 1000000000000 = true) (k : Nat) (hk : k < n) : 0 ≤ (drawAt s rs d M (k + 1)).1 ∧ (drawAt s rs d M (k + 1)).1 ≤ 1000000000000 :=
  allIn_at h _ (List.mem_map.2 ⟨k, List.mem_range.2 hk, rfl⟩)
theorem down_stop {s : Int} {rs : List Int} {d : Int} {k : Nat} (hk : k < rs.length) (h : ¬ (0 ≤ (drawAt s rs d 1000000000001 (k + 1)).1 ∧ (drawAt s rs d 1000000000001 (k + 1)).1 ≤ 1000000000000)) : downFull s rs d = false := by
  cases hf : allIn (drawTo s rs d 1000000000001 rs.length) 0 1000000000000
  · simp [downFull, hf]
  · exact (h (drawTo_at hf k hk)).elim
set_option maxHeartbeats 1600000 in
theorem impl_DrawDown (s : Int) (A : Option Addr) (n c : Nat) (rs : List Int) (d : Int) (w : World) (b0 : -9223372036854775808 ≤ s ∧ s ≤ 9223372036854775807) (hr : Rd w w.heap.size 1 A n (ints rs)) (hn : n ≤ 1048576) (hz : I64s rs) (b1 : -9223372036854775808 ≤ d ∧ d ≤ 9223372036854775807) :
    Calls Try.prog 14 #[.int .i64 s, .slice A n c, .int .i64 d] w (DownIs w s rs d) := by
  have HL := Lib.hid hr.ilen
  have hB : Below w.heap.size w w := Below.refl _ _
  rcases Bool.eq_false_or_eq_true (inB s 0 1000000000000) with h1 | h1
  case inr =>
    have hno := Lib.hid (show downFull s rs d = false by simp [downFull, downOk, *])
    go_enter Try.func14, Try.ntmps14
    go_wp2_with (go_at_call 25; refine (isAmount_any _ _).mono ?_; rintro e w' ⟨rfl, rfl⟩)
    go_ret3
    exact down_no hno.out hB
  rcases Bool.eq_false_or_eq_true (cntIn rs 1 60 (-9999) 10000) with h2 | h2
  case inr =>
    have hno := Lib.hid (show downFull s rs d = false by simp [downFull, downOk, *])
    go_enter Try.func14, Try.ntmps14
    go_wp2_with (go_at_call 25; refine (isAmount_any _ _).mono ?_; rintro e w' ⟨rfl, rfl⟩)
    refine (areReturns_any _ _ _ rs _ ((hr.below hB).more hB.size) (by omega)).mono ?_
    rintro e w2 ⟨rfl, hb⟩
    replace hB := below_step hB hb
    clear hb
    go_wp2_with (go_at_call 25; refine (isAmount_any _ _).mono ?_; rintro e w' ⟨rfl, rfl⟩)
    go_ret3
    exact down_no hno.out hB
  rcases Bool.eq_false_or_eq_true (inB d 0 1000000000000) with h3 | h3
  case inr =>
    have hno := Lib.hid (show downFull s rs d = false by simp [downFull, downOk, *])
    go_enter Try.func14, Try.ntmps14
    go_wp2_with (go_at_call 25; refine (isAmount_any _ _).mono ?_; rintro e w' ⟨rfl, rfl⟩)
    refine (areReturns_any _ _ _ rs _ ((hr.below hB).more hB.size) (by omega)).mono ?_
    rintro e w2 ⟨rfl, hb⟩
    replace hB := below_step hB hb
    clear hb
    go_wp2_with (go_at_call 25; refine (isAmount_any _ _).mono ?_; rintro e w' ⟨rfl, rfl⟩)
    go_ret3
    exact down_no hno.out hB
  have hok := Lib.hid (show downOk s rs d = true by simp [downOk, *])
  have hrate := Lib.hid (rates_is h2)
  have hn60 : n ≤ 60 := by have := (cntIn_iff.1 h2).2.1; have := HL.out; omega
  have c0 := inB_iff.1 h1
  have c1 := inB_iff.1 h3
  clear b0 b1 hz hn
  go_enter Try.func14, Try.ntmps14
  go_wp2_with (go_at_call 25; refine (isAmount_any _ _).mono ?_; rintro e w' ⟨rfl, rfl⟩)
  refine (areReturns_any _ _ _ rs _ ((hr.below hB).more hB.size) (by omega)).mono ?_
  rintro e w2 ⟨rfl, hb⟩
  replace hB := below_step hB hb
  clear hb
  go_wp2_with (go_at_call 25; refine (isAmount_any _ _).mono ?_; rintro e w' ⟨rfl, rfl⟩)
  clear h1 h2 h3
  refine (drawn_any _ _ _ _ rs _ _ _ (by omega) ((hr.below hB).more hB.size) hn60 hrate.out (by omega) (by omega)).mono ?_
  rintro e w3 ⟨v, rfl, ho, hb⟩
  replace ho := own_base ho hB.size
  replace hB := below_step hB hb
  clear hb
  obtain ⟨a', cc, rfl, _⟩ := own_form ho
  have hlen := drawTo_length s rs d 1000000000001 rs.length
  have HL2 := HL.out
  have hsz : (drawTo s rs d 1000000000001 rs.length).length ≤ 60 := by omega
  obtain ⟨y, hy⟩ : ∃ y, y = (drawAt s rs d 1000000000001 rs.length).2 := ⟨_, rfl⟩
  rw [← hy]
  have HY := Lib.hid hy
  clear hy hlen HL2
  go_wp2_with fail
  refine (areWithin_any _ _ _ (drawTo s rs d 1000000000001 rs.length) _ _ _ (Rd.of_own ho) (by omega)).mono ?_
  rintro e w4 ⟨rfl, hb⟩
  replace ho := own_on ho hb
  replace hB := below_step hB hb
  clear hb
  rcases Bool.eq_false_or_eq_true (allIn (drawTo s rs d 1000000000001 rs.length) 0 1000000000000) with h | h
  · have hyes := Lib.hid (show downFull s rs d = true by simp [downFull, hok.out, h])
    rw [h]
    go_wp2_with fail
    go_ret3
    rw [HY.out]
    exact down_yes hyes.out ho hB
  · have hno := Lib.hid (show downFull s rs d = false by simp [downFull, h])
    rw [h]
    go_wp2_with fail
    go_ret3
    exact down_no hno.out hB
end Go.Proofs.Ytneclhkpgalnlaa
