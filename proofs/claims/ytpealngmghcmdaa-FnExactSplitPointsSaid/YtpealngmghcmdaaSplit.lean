/-
  SplitPoints: what the program's and the reference's function return.
-/
import Derived.Test.YtpealngmghcmdaaCopy
namespace Go.Proofs.Ytpealngmghcmdaa
open Go.ChangeShapes Go.WideShapes Go.ChangeAt Go.RowKit
set_option linter.unusedVariables false

def splitA (x y : Int) : Int := if y < x then x - (x - y) / 2 else x + (y - x) / 2
def splitB (x y : Int) : Int := if y < x then y + (x - y) / 2 else y - (y - x) / 2
/-- a list of which the places from 'fr' to below k are done -/
def splitTo (g : Int → Int → Int) (d zs ys : List Int) (fr k : Nat) : List Int := (List.range d.length).map fun j => if fr ≤ j ∧ j < k then g (zs[j]?.getD 0) (ys[j]?.getD 0) else d[j]?.getD 0
theorem splitTo_length (g : Int → Int → Int) (d zs ys : List Int) (fr k : Nat) : (splitTo g d zs ys fr k).length = d.length := by simp [splitTo]
theorem splitTo_at {g : Int → Int → Int} {d zs ys : List Int} {fr k : Nat} (hk : k < d.length) : (splitTo g d zs ys fr k)[k]?.getD 0 = d[k]?.getD 0 := by
  simp [splitTo, hk]
theorem splitTo_set {g : Int → Int → Int} {d zs ys : List Int} {fr k : Nat} (h1 : fr ≤ k) (hk : k < d.length) :
    (splitTo g d zs ys fr k).set k (g (zs[k]?.getD 0) (ys[k]?.getD 0)) = splitTo g d zs ys fr (k + 1) := by
  refine List.ext_getElem? fun j => ?_
  rw [List.getElem?_set]
  by_cases e : k = j
  · subst e
    simp [splitTo, hk, h1]
  · rw [if_neg e]
    unfold splitTo
    rw [List.getElem?_map, List.getElem?_map]
    by_cases hj : j < d.length
    · rw [List.getElem?_range hj]
      simp only [Option.map_some, Option.some.injEq]
      by_cases h2 : fr ≤ j ∧ j < k
      · rw [if_pos h2, if_pos (by omega)]
      · rw [if_neg h2, if_neg (by omega)]
    · rw [List.getElem?_eq_none (by simp; omega)]; rfl
theorem splitTo_start (g : Int → Int → Int) (d zs ys : List Int) (fr : Nat) : splitTo g d zs ys fr fr = d := by
  refine List.ext_getElem? fun j => ?_
  unfold splitTo
  rw [List.getElem?_map]
  by_cases hj : j < d.length
  · rw [List.getElem?_range hj]
    simp only [Option.map_some]
    rw [if_neg (by omega), List.getElem?_eq_getElem hj]; rfl
  · rw [List.getElem?_eq_none (by simp; omega), List.getElem?_eq_none (by omega)]; rfl
def splitOk (zs ys : List Int) (fr to : Int) : Bool := cntIn zs 1 60 0 1000000 && cntIn ys 1 60 0 1000000 && decide (zs.length = ys.length) && inB to 0 zs.length && inB fr 0 to
def SplitPoints_r0 (zs ys : List Int) (fr to : Int) : List Int := if splitOk zs ys fr to then splitTo splitA zs zs ys fr.toNat to.toNat else []
def SplitPoints_r1 (zs ys : List Int) (fr to : Int) : List Int := if splitOk zs ys fr to then splitTo splitB ys zs ys fr.toNat to.toNat else []
def SplitPoints_r2 (zs ys : List Int) (fr to : Int) : Bool := splitOk zs ys fr to
theorem SplitPoints_len0 (zs ys : List Int) (fr to : Int) : (SplitPoints_r0 zs ys fr to).length ≤ 60 := by
  unfold SplitPoints_r0
  split
  · rename_i h
    simp only [splitOk, Bool.and_eq_true] at h
    rw [splitTo_length]
    have := (cntIn_iff.1 h.1.1.1.1).2.1
    omega
  · simp
theorem SplitPoints_len1 (zs ys : List Int) (fr to : Int) : (SplitPoints_r1 zs ys fr to).length ≤ 60 := by
  unfold SplitPoints_r1
  split
  · rename_i h
    simp only [splitOk, Bool.and_eq_true] at h
    rw [splitTo_length]
    have := (cntIn_iff.1 h.1.1.1.2).2.1
    omega
  · simp
/-- the ending of a function that returns two slices and whether they are ones -/
def Sl2Ends (W : World) (rs ss : List Int) (ok : Bool) (E : Ending) (w' : World) : Prop :=
  ∃ v u, E = .returned (.tuple #[v, u, .bool ok]) ∧ w'.ownsRow W.heap.size 2 1 v rs.length (ints rs) ∧ w'.ownsRow W.heap.size 2 1 u ss.length (ints ss) ∧
    ((u.ownBlock = none ∨ u.ownBlock ≠ v.ownBlock) ∧ (v.ownBlock = none ∨ v.ownBlock ≠ u.ownBlock)) ∧ Below W.heap.size W w'
theorem sl2_no {W w' : World} (hb : Below W.heap.size W w') : Sl2Ends W [] [] false (.returned (.tuple #[.slice none 0 0, .slice none 0 0, .bool false])) w' :=
  ⟨_, _, rfl, World.ownsRow_nil _ _ _ _, World.ownsRow_nil _ _ _ _, ⟨.inl rfl, .inl rfl⟩, hb⟩
theorem split_no {zs ys : List Int} {fr to : Int} (h : splitOk zs ys fr to = false) : SplitPoints_r0 zs ys fr to = [] ∧ SplitPoints_r1 zs ys fr to = [] ∧ SplitPoints_r2 zs ys fr to = false := by
  unfold SplitPoints_r0 SplitPoints_r1 SplitPoints_r2; rw [h]; exact ⟨rfl, rfl, rfl⟩
theorem split_yes {zs ys : List Int} {fr to : Int} (h : splitOk zs ys fr to = true) : SplitPoints_r0 zs ys fr to = splitTo splitA zs zs ys fr.toNat to.toNat ∧ SplitPoints_r1 zs ys fr to = splitTo splitB ys zs ys fr.toNat to.toNat ∧ SplitPoints_r2 zs ys fr to = true := by
  unfold SplitPoints_r0 SplitPoints_r1 SplitPoints_r2; rw [h]; exact ⟨rfl, rfl, rfl⟩
theorem split_bd {x y : Int} (h1 : 0 ≤ x ∧ x ≤ 1000000) (h2 : 0 ≤ y ∧ y ≤ 1000000) : (0 ≤ splitA x y ∧ splitA x y ≤ 1000000) ∧ (0 ≤ splitB x y ∧ splitB x y ≤ 1000000) := by
  unfold splitA splitB; split <;> omega
/-- both rows behind a round -/
theorem split_round {W w : World} {e : TypeId} {n c d ga gb k : Nat} {l1 l2 : List Int} {x y : Int} (hg : ga ≠ gb) (ha : w.ownsRow W.heap.size e 1 (.slice (some ⟨ga, 0, none⟩) n c) n (ints l1)) (hb : w.ownsRow W.heap.size e 1 (.slice (some ⟨gb, 0, none⟩) n d) n (ints l2)) (hB : Below W.heap.size W w) :
    ((w.setCell ⟨ga, k, none⟩ (.int .i64 x)).setCell ⟨gb, k, none⟩ (.int .i64 y)).ownsRow W.heap.size e 1 (.slice (some ⟨ga, 0, none⟩) n c) n (ints (l1.set k x)) ∧
    ((w.setCell ⟨ga, k, none⟩ (.int .i64 x)).setCell ⟨gb, k, none⟩ (.int .i64 y)).ownsRow W.heap.size e 1 (.slice (some ⟨gb, 0, none⟩) n d) n (ints (l2.set k y)) ∧
    Below W.heap.size W ((w.setCell ⟨ga, k, none⟩ (.int .i64 x)).setCell ⟨gb, k, none⟩ (.int .i64 y)) := by
  have h1 := (ha.stored k (.int .i64 x)).1
  rw [ints_set] at h1
  have h2 := ownsRow_setCell_other hb (a := ⟨ga, k, none⟩) (by simp [Value.ownBlock]; omega) (.int .i64 x)
  have h3 := (h2.stored k (.int .i64 y)).1
  rw [ints_set] at h3
  have h4 := ownsRow_setCell_other h1 (a := ⟨gb, k, none⟩) (by simp [Value.ownBlock]; omega) (.int .i64 y)
  exact ⟨h4, h3, (hB.setCell (p := ⟨ga, k, none⟩) (ha.lt ga rfl).1 _).setCell (p := ⟨gb, k, none⟩) (hb.lt gb rfl).1 _⟩
theorem own_int {w : World} {base : Nat} {e : TypeId} {n cap g : Nat} {zs : List Int} (h : w.ownsRow base e 1 (.slice (some ⟨g, 0, none⟩) n cap) n (ints zs)) {k : Nat} (hk : k < n) : w.cell? ⟨g, k, none⟩ = some (.int .i64 (zs[k]?.getD 0)) := by
  have hl := own_len h
  rw [ints_length] at hl
  exact (h.cellAt k (by omega)).trans (ints_getD (by omega))
set_option maxRecDepth 100000 in
set_option maxHeartbeats 3200000 in
theorem impl_SplitPoints (A : Option Addr) (n c : Nat) (zs : List Int) (B : Option Addr) (m d : Nat) (ys : List Int) (fr to : Int) (w : World) (hr : Rd w w.heap.size 1 A n (ints zs)) (hn : n ≤ 1048576) (hz : I64s zs) (hs : Rd w w.heap.size 1 B m (ints ys)) (hm : m ≤ 1048576) (hy : I64s ys) (b1 : -9223372036854775808 ≤ fr ∧ fr ≤ 9223372036854775807) (b2 : -9223372036854775808 ≤ to ∧ to ≤ 9223372036854775807) :
    Calls Try.prog 28 #[.slice A n c, .slice B m d, .int .i64 fr, .int .i64 to] w (Sl2Ends w (SplitPoints_r0 zs ys fr to) (SplitPoints_r1 zs ys fr to) (SplitPoints_r2 zs ys fr to)) := by
  have HL := Lib.hid hr.ilen
  have HM := Lib.hid hs.ilen
  have hB : Below w.heap.size w w := Below.refl _ _
  rcases Bool.eq_false_or_eq_true (cntIn zs 1 60 0 1000000) with h1 | h1
  case inr =>
    have hno := Lib.hid (split_no (zs := zs) (ys := ys) (fr := fr) (to := to) (by have := HL.out; have := HM.out; simp [splitOk, *]))
    go_enter Try.func28, Try.ntmps28
    go_wp2_with (go_at_call 45; refine (within_any _ _ _ _).mono ?_; rintro e w' ⟨rfl, rfl⟩)
    refine (arePoints_any _ _ _ zs _ ((hr.below hB).more hB.size) (by omega)).mono ?_
    rintro e w1 ⟨rfl, hb⟩
    replace hB := below_step hB hb
    clear hb
    go_wp2_with (go_at_call 45; refine (within_any _ _ _ _).mono ?_; rintro e w' ⟨rfl, rfl⟩)
    go_ret3
    rw [hno.out.1, hno.out.2.1, hno.out.2.2]; exact sl2_no hB
  rcases Bool.eq_false_or_eq_true (cntIn ys 1 60 0 1000000) with h2 | h2
  case inr =>
    have hno := Lib.hid (split_no (zs := zs) (ys := ys) (fr := fr) (to := to) (by have := HL.out; have := HM.out; simp [splitOk, *]))
    go_enter Try.func28, Try.ntmps28
    go_wp2_with (go_at_call 45; refine (within_any _ _ _ _).mono ?_; rintro e w' ⟨rfl, rfl⟩)
    refine (arePoints_any _ _ _ zs _ ((hr.below hB).more hB.size) (by omega)).mono ?_
    rintro e w1 ⟨rfl, hb⟩
    replace hB := below_step hB hb
    clear hb
    go_wp2_with (go_at_call 45; refine (within_any _ _ _ _).mono ?_; rintro e w' ⟨rfl, rfl⟩)
    refine (arePoints_any _ _ _ ys _ ((hs.below hB).more hB.size) (by omega)).mono ?_
    rintro e w2 ⟨rfl, hb⟩
    replace hB := below_step hB hb
    clear hb
    go_wp2_with (go_at_call 45; refine (within_any _ _ _ _).mono ?_; rintro e w' ⟨rfl, rfl⟩)
    go_ret3
    rw [hno.out.1, hno.out.2.1, hno.out.2.2]; exact sl2_no hB
  by_cases h3 : n = m
  case neg =>
    have hno := Lib.hid (split_no (zs := zs) (ys := ys) (fr := fr) (to := to) (by have := HL.out; have := HM.out; simp [splitOk, *]))
    go_enter Try.func28, Try.ntmps28
    go_wp2_with (go_at_call 45; refine (within_any _ _ _ _).mono ?_; rintro e w' ⟨rfl, rfl⟩)
    refine (arePoints_any _ _ _ zs _ ((hr.below hB).more hB.size) (by omega)).mono ?_
    rintro e w1 ⟨rfl, hb⟩
    replace hB := below_step hB hb
    clear hb
    go_wp2_with (go_at_call 45; refine (within_any _ _ _ _).mono ?_; rintro e w' ⟨rfl, rfl⟩)
    refine (arePoints_any _ _ _ ys _ ((hs.below hB).more hB.size) (by omega)).mono ?_
    rintro e w2 ⟨rfl, hb⟩
    replace hB := below_step hB hb
    clear hb
    go_wp2_with (go_at_call 45; refine (within_any _ _ _ _).mono ?_; rintro e w' ⟨rfl, rfl⟩)
    go_ret3
    rw [hno.out.1, hno.out.2.1, hno.out.2.2]; exact sl2_no hB
  subst h3
  rcases Bool.eq_false_or_eq_true (inB to 0 n) with h4 | h4
  case inr =>
    have hno := Lib.hid (split_no (zs := zs) (ys := ys) (fr := fr) (to := to) (by have := HL.out; have := HM.out; simp [splitOk, *]))
    go_enter Try.func28, Try.ntmps28
    go_wp2_with (go_at_call 45; refine (within_any _ _ _ _).mono ?_; rintro e w' ⟨rfl, rfl⟩)
    refine (arePoints_any _ _ _ zs _ ((hr.below hB).more hB.size) (by omega)).mono ?_
    rintro e w1 ⟨rfl, hb⟩
    replace hB := below_step hB hb
    clear hb
    go_wp2_with (go_at_call 45; refine (within_any _ _ _ _).mono ?_; rintro e w' ⟨rfl, rfl⟩)
    refine (arePoints_any _ _ _ ys _ ((hs.below hB).more hB.size) (by omega)).mono ?_
    rintro e w2 ⟨rfl, hb⟩
    replace hB := below_step hB hb
    clear hb
    go_wp2_with (go_at_call 45; refine (within_any _ _ _ _).mono ?_; rintro e w' ⟨rfl, rfl⟩)
    go_ret3
    rw [hno.out.1, hno.out.2.1, hno.out.2.2]; exact sl2_no hB
  rcases Bool.eq_false_or_eq_true (inB fr 0 to) with h5 | h5
  case inr =>
    have hno := Lib.hid (split_no (zs := zs) (ys := ys) (fr := fr) (to := to) (by have := HL.out; have := HM.out; simp [splitOk, *]))
    go_enter Try.func28, Try.ntmps28
    go_wp2_with (go_at_call 45; refine (within_any _ _ _ _).mono ?_; rintro e w' ⟨rfl, rfl⟩)
    refine (arePoints_any _ _ _ zs _ ((hr.below hB).more hB.size) (by omega)).mono ?_
    rintro e w1 ⟨rfl, hb⟩
    replace hB := below_step hB hb
    clear hb
    go_wp2_with (go_at_call 45; refine (within_any _ _ _ _).mono ?_; rintro e w' ⟨rfl, rfl⟩)
    refine (arePoints_any _ _ _ ys _ ((hs.below hB).more hB.size) (by omega)).mono ?_
    rintro e w2 ⟨rfl, hb⟩
    replace hB := below_step hB hb
    clear hb
    go_wp2_with (go_at_call 45; refine (within_any _ _ _ _).mono ?_; rintro e w' ⟨rfl, rfl⟩)
    go_ret3
    rw [hno.out.1, hno.out.2.1, hno.out.2.2]; exact sl2_no hB
  have hok := Lib.hid (show splitOk zs ys fr to = true by have := HL.out; have := HM.out; simp [splitOk, *])
  obtain ⟨l0, l1, l2⟩ := cntIn_iff.1 h1
  obtain ⟨_, _, l3⟩ := cntIn_iff.1 h2
  have hn60 : 1 ≤ n ∧ n ≤ 60 := by have := HL.out; omega
  have H1 := Lib.hid l2
  have H2 := Lib.hid l3
  have c4 := inB_iff.1 h4
  have c5 := inB_iff.1 h5
  obtain ⟨t, rfl⟩ := Int.eq_ofNat_of_zero_le (by omega : 0 ≤ to)
  obtain ⟨f, rfl⟩ := Int.eq_ofNat_of_zero_le (by omega : 0 ≤ fr)
  have hft : f ≤ t ∧ t ≤ n := by omega
  clear l0 l1 l2 l3 hz hy hm b1 b2 c4 c5
  go_enter Try.func28, Try.ntmps28
  go_wp2_with (go_at_call 45; refine (within_any _ _ _ _).mono ?_; rintro e w' ⟨rfl, rfl⟩)
  refine (arePoints_any _ _ _ zs _ ((hr.below hB).more hB.size) (by omega)).mono ?_
  rintro e w1 ⟨rfl, hb⟩
  replace hB := below_step hB hb
  clear hb
  go_wp2_with (go_at_call 45; refine (within_any _ _ _ _).mono ?_; rintro e w' ⟨rfl, rfl⟩)
  refine (arePoints_any _ _ _ ys _ ((hs.below hB).more hB.size) (by omega)).mono ?_
  rintro e w2 ⟨rfl, hb⟩
  replace hB := below_step hB hb
  clear hb
  go_wp2_with (go_at_call 45; refine (within_any _ _ _ _).mono ?_; rintro e w' ⟨rfl, rfl⟩)
  have hS := hB.size
  refine (cloneI_any _ _ _ zs _ ((hr.below hB).more hB.size) (by omega) (by omega)).mono ?_
  rintro e w3 ⟨va, rfl, oa, hb⟩
  replace oa := own_base oa hS
  replace hB := below_step hB hb
  clear hb hS
  have hS := hB.size
  go_wp2_with fail
  refine (cloneI_any _ _ _ ys _ ((hs.below hB).more hB.size) (by omega) (by omega)).mono ?_
  rintro e w4 ⟨vb, rfl, ob, hb⟩
  have hap := own_apart oa ob
  replace ob := own_base ob hS
  replace oa := own_on oa hb
  replace hB := below_step hB hb
  clear hb hS
  obtain ⟨A1, c1, rfl, _⟩ := own_form oa
  obtain ⟨A2, c2, rfl, _⟩ := own_form ob
  obtain ⟨ga, rfl⟩ := own_head oa (by omega)
  obtain ⟨gb, rfl⟩ := own_head ob (by omega)
  have hg : ga ≠ gb := by simp [Value.ownBlock] at hap; omega
  have hg' : gb ≠ ga := by omega
  clear h1 h2 h4 h5 hr hs
  go_wp2_with fail
  go_loopw [13, 14] (fun i _ wr => ∃ k : Nat, f ≤ k ∧ k ≤ t ∧ i = .int .i64 k ∧ wr.ownsRow w.heap.size 2 1 (.slice (some ⟨ga, 0, none⟩) n c1) n (ints (splitTo splitA zs zs ys f k)) ∧ wr.ownsRow w.heap.size 2 1 (.slice (some ⟨gb, 0, none⟩) n c2) n (ints (splitTo splitB ys zs ys f k)) ∧ Below w.heap.size w wr) (fun i _ _ => t - (intOf i).toNat)
  case atStart => exact ⟨f, by omega, by omega, rfl, by rw [splitTo_start]; exact oa, by rw [splitTo_start]; exact ob, hB⟩
  case round =>
    obtain ⟨k, hk1, hk2, rfl, oa', ob', hbw⟩ := hrel
    clear hB oa ob
    by_cases hlt : k < t
    · have hx := own_int oa' (k := k) (by omega)
      have hy := own_int ob' (k := k) (by omega)
      rw [splitTo_at (by have := HL.out; omega)] at hx
      rw [splitTo_at (by have := HM.out; omega)] at hy
      have fx := oa'.frozenAt k
      have fy := ob'.frozenAt k
      have bx := allIn_at H1.out _ (getD_mem (zs := zs) (k := k) (by have := HL.out; omega))
      have bY := allIn_at H2.out _ (getD_mem (zs := ys) (k := k) (by have := HM.out; omega))
      have sa := Lib.hid (splitTo_set (g := splitA) (d := zs) (zs := zs) (ys := ys) (fr := f) (k := k) hk1 (by have := HL.out; omega))
      have sb := Lib.hid (splitTo_set (g := splitB) (d := ys) (zs := zs) (ys := ys) (fr := f) (k := k) hk1 (by have := HM.out; omega))
      obtain ⟨x, hx'⟩ : ∃ x, x = zs[k]?.getD 0 := ⟨_, rfl⟩
      obtain ⟨y, hy'⟩ : ∃ y, y = ys[k]?.getD 0 := ⟨_, rfl⟩
      rw [← hx', ← hy'] at sa sb
      rw [← hx'] at hx bx
      rw [← hy'] at hy bY
      clear hx' hy'
      have i1 : (0 : Int) ≤ k := by omega
      have i2 : (k : Int) < n := by omega
      have x1 : IntKind.i64.wrap (x - y) = x - y := IntWalk.i64_in _ (by omega)
      have x2 : IntKind.i64.wrap (y - x) = y - x := IntWalk.i64_in _ (by omega)
      have hd2 : (0 : Int) ≤ (x - y) / 2 ∨ (0 : Int) ≤ (y - x) / 2 := by omega
      by_cases hxy : y < x
      · have hab : splitA x y = x + -((x - y) / 2) ∧ splitB x y = y - -((x - y) / 2) := by unfold splitA splitB; rw [if_pos hxy, if_pos hxy]; omega
        have HAB := Lib.hid hab
        clear hab hd2
        go_wp2_with fail
        go_quiet (fail)
        clear x1 x2
        go_wp2_with fail
        go_quiet (fail)
        obtain ⟨h2, hh2⟩ : ∃ h2, h2 = (x - y) / 2 := ⟨_, rfl⟩
        rw [← hh2]
        have hh3 : 0 ≤ h2 ∧ h2 ≤ 1000000 := by omega
        rw [← hh2] at HAB
        clear hh2
        go_wp2_with fail
        go_roundw
        case rel =>
          refine ⟨k + 1, by omega, by omega, by go_num, ?_, ?_, ?_⟩
          · rw [← sa.out, show splitA x y = x + -h2 from by have := HAB.out; omega]; exact (split_round hg (own_drewN oa' _) (own_drewN ob' _) (below_drewN hbw _)).1
          · rw [← sb.out, show splitB x y = y + h2 from by have := HAB.out; omega]; exact (split_round hg (own_drewN oa' _) (own_drewN ob' _) (below_drewN hbw _)).2.1
          · exact (split_round hg (own_drewN oa' _) (own_drewN ob' _) (below_drewN hbw _)).2.2
        case measure => simp [intOf]; omega
      by_cases hyx : x < y
      · have hab : splitA x y = x + (y - x) / 2 ∧ splitB x y = y - (y - x) / 2 := by unfold splitA splitB; rw [if_neg hxy, if_neg hxy]; exact ⟨rfl, rfl⟩
        have HAB := Lib.hid hab
        clear hab hd2
        go_wp2_with fail
        go_quiet (fail)
        clear x1 x2
        go_wp2_with fail
        go_quiet (fail)
        obtain ⟨h2, hh2⟩ : ∃ h2, h2 = (y - x) / 2 := ⟨_, rfl⟩
        rw [← hh2]
        have hh3 : 0 ≤ h2 ∧ h2 ≤ 1000000 := by omega
        rw [← hh2] at HAB
        clear hh2
        go_wp2_with fail
        go_roundw
        case rel =>
          refine ⟨k + 1, by omega, by omega, by go_num, ?_, ?_, ?_⟩
          · rw [← sa.out, show splitA x y = x + h2 from by have := HAB.out; omega]; exact (split_round hg (own_drewN oa' _) (own_drewN ob' _) (below_drewN hbw _)).1
          · rw [← sb.out, show splitB x y = y - h2 from by have := HAB.out; omega]; exact (split_round hg (own_drewN oa' _) (own_drewN ob' _) (below_drewN hbw _)).2.1
          · exact (split_round hg (own_drewN oa' _) (own_drewN ob' _) (below_drewN hbw _)).2.2
        case measure => simp [intOf]; omega
      · obtain rfl : x = y := by omega
        have hab : splitA x x = x ∧ splitB x x = x := by unfold splitA splitB; rw [if_neg hxy, if_neg hxy]; omega
        have HAB := Lib.hid hab
        clear hab hd2 hxy hyx
        go_wp2_with fail
        go_quiet (fail)
        clear x1 x2
        go_wp2_with fail
        go_quiet (fail)
        go_wp2_with fail
        go_roundw
        case rel =>
          refine ⟨k + 1, by omega, by omega, by go_num, ?_, ?_, ?_⟩
          · rw [← sa.out, show splitA x x = x from by have := HAB.out; omega]; exact (split_round hg (own_drewN oa' _) (own_drewN ob' _) (below_drewN hbw _)).1
          · rw [← sb.out, show splitB x x = x from by have := HAB.out; omega]; exact (split_round hg (own_drewN oa' _) (own_drewN ob' _) (below_drewN hbw _)).2.1
          · exact (split_round hg (own_drewN oa' _) (own_drewN ob' _) (below_drewN hbw _)).2.2
        case measure => simp [intOf]; omega
    · obtain rfl : t = k := by omega
      have hyes := Lib.hid (split_yes hok.out)
      go_wp2_with fail
      go_ret3
      rw [hyes.out.1, hyes.out.2.1, hyes.out.2.2]
      have e1 : (splitTo splitA zs zs ys f t).length = n := by rw [splitTo_length]; exact HL.out
      have e2 : (splitTo splitB ys zs ys f t).length = n := by rw [splitTo_length]; exact HM.out
      refine ⟨_, _, rfl, ?_, ?_, hap, hbw⟩
      · simp only [Int.toNat_natCast]; rw [e1]; exact oa'
      · simp only [Int.toNat_natCast]; rw [e2]; exact ob'
set_option maxRecDepth 100000 in
set_option maxHeartbeats 3200000 in
theorem spec_SplitPoints (A : Option Addr) (n c : Nat) (zs : List Int) (B : Option Addr) (m d : Nat) (ys : List Int) (fr to : Int) (w : World) (hr : Rd w w.heap.size 1 A n (ints zs)) (hn : n ≤ 1048576) (hz : I64s zs) (hs : Rd w w.heap.size 1 B m (ints ys)) (hm : m ≤ 1048576) (hy : I64s ys) (b1 : -9223372036854775808 ≤ fr ∧ fr ≤ 9223372036854775807) (b2 : -9223372036854775808 ≤ to ∧ to ≤ 9223372036854775807) :
    Calls Try.prog 27 #[.slice A n c, .slice B m d, .int .i64 fr, .int .i64 to] w (Sl2Ends w (SplitPoints_r0 zs ys fr to) (SplitPoints_r1 zs ys fr to) (SplitPoints_r2 zs ys fr to)) := by
  have HL := Lib.hid hr.ilen
  have HM := Lib.hid hs.ilen
  have hB : Below w.heap.size w w := Below.refl _ _
  rcases Bool.eq_false_or_eq_true (cntIn zs 1 60 0 1000000) with h1 | h1
  case inr =>
    have hno := Lib.hid (split_no (zs := zs) (ys := ys) (fr := fr) (to := to) (by have := HL.out; have := HM.out; simp [splitOk, *]))
    go_enter Try.func27, Try.ntmps27
    go_wp2_with (go_at_call 43; refine (l00In_any _ _ _ _).mono ?_; rintro e w' ⟨rfl, rfl⟩)
    refine (l06Points_any _ _ _ zs _ hr (by omega)).mono ?_
    rintro e w1 ⟨rfl, rfl⟩
    go_wp2_with (go_at_call 43; refine (l00In_any _ _ _ _).mono ?_; rintro e w' ⟨rfl, rfl⟩)
    go_ret3
    rw [hno.out.1, hno.out.2.1, hno.out.2.2]; exact sl2_no hB
  rcases Bool.eq_false_or_eq_true (cntIn ys 1 60 0 1000000) with h2 | h2
  case inr =>
    have hno := Lib.hid (split_no (zs := zs) (ys := ys) (fr := fr) (to := to) (by have := HL.out; have := HM.out; simp [splitOk, *]))
    go_enter Try.func27, Try.ntmps27
    go_wp2_with (go_at_call 43; refine (l00In_any _ _ _ _).mono ?_; rintro e w' ⟨rfl, rfl⟩)
    refine (l06Points_any _ _ _ zs _ hr (by omega)).mono ?_
    rintro e w1 ⟨rfl, rfl⟩
    go_wp2_with (go_at_call 43; refine (l00In_any _ _ _ _).mono ?_; rintro e w' ⟨rfl, rfl⟩)
    refine (l06Points_any _ _ _ ys _ hs (by omega)).mono ?_
    rintro e w1 ⟨rfl, rfl⟩
    go_wp2_with (go_at_call 43; refine (l00In_any _ _ _ _).mono ?_; rintro e w' ⟨rfl, rfl⟩)
    go_ret3
    rw [hno.out.1, hno.out.2.1, hno.out.2.2]; exact sl2_no hB
  by_cases h3 : n = m
  case neg =>
    have hno := Lib.hid (split_no (zs := zs) (ys := ys) (fr := fr) (to := to) (by have := HL.out; have := HM.out; simp [splitOk, *]))
    go_enter Try.func27, Try.ntmps27
    go_wp2_with (go_at_call 43; refine (l00In_any _ _ _ _).mono ?_; rintro e w' ⟨rfl, rfl⟩)
    refine (l06Points_any _ _ _ zs _ hr (by omega)).mono ?_
    rintro e w1 ⟨rfl, rfl⟩
    go_wp2_with (go_at_call 43; refine (l00In_any _ _ _ _).mono ?_; rintro e w' ⟨rfl, rfl⟩)
    refine (l06Points_any _ _ _ ys _ hs (by omega)).mono ?_
    rintro e w1 ⟨rfl, rfl⟩
    go_wp2_with (go_at_call 43; refine (l00In_any _ _ _ _).mono ?_; rintro e w' ⟨rfl, rfl⟩)
    go_ret3
    rw [hno.out.1, hno.out.2.1, hno.out.2.2]; exact sl2_no hB
  subst h3
  rcases Bool.eq_false_or_eq_true (inB to 0 n) with h4 | h4
  case inr =>
    have hno := Lib.hid (split_no (zs := zs) (ys := ys) (fr := fr) (to := to) (by have := HL.out; have := HM.out; simp [splitOk, *]))
    go_enter Try.func27, Try.ntmps27
    go_wp2_with (go_at_call 43; refine (l00In_any _ _ _ _).mono ?_; rintro e w' ⟨rfl, rfl⟩)
    refine (l06Points_any _ _ _ zs _ hr (by omega)).mono ?_
    rintro e w1 ⟨rfl, rfl⟩
    go_wp2_with (go_at_call 43; refine (l00In_any _ _ _ _).mono ?_; rintro e w' ⟨rfl, rfl⟩)
    refine (l06Points_any _ _ _ ys _ hs (by omega)).mono ?_
    rintro e w1 ⟨rfl, rfl⟩
    go_wp2_with (go_at_call 43; refine (l00In_any _ _ _ _).mono ?_; rintro e w' ⟨rfl, rfl⟩)
    go_ret3
    rw [hno.out.1, hno.out.2.1, hno.out.2.2]; exact sl2_no hB
  rcases Bool.eq_false_or_eq_true (inB fr 0 to) with h5 | h5
  case inr =>
    have hno := Lib.hid (split_no (zs := zs) (ys := ys) (fr := fr) (to := to) (by have := HL.out; have := HM.out; simp [splitOk, *]))
    go_enter Try.func27, Try.ntmps27
    go_wp2_with (go_at_call 43; refine (l00In_any _ _ _ _).mono ?_; rintro e w' ⟨rfl, rfl⟩)
    refine (l06Points_any _ _ _ zs _ hr (by omega)).mono ?_
    rintro e w1 ⟨rfl, rfl⟩
    go_wp2_with (go_at_call 43; refine (l00In_any _ _ _ _).mono ?_; rintro e w' ⟨rfl, rfl⟩)
    refine (l06Points_any _ _ _ ys _ hs (by omega)).mono ?_
    rintro e w1 ⟨rfl, rfl⟩
    go_wp2_with (go_at_call 43; refine (l00In_any _ _ _ _).mono ?_; rintro e w' ⟨rfl, rfl⟩)
    go_ret3
    rw [hno.out.1, hno.out.2.1, hno.out.2.2]; exact sl2_no hB
  have hok := Lib.hid (show splitOk zs ys fr to = true by have := HL.out; have := HM.out; simp [splitOk, *])
  obtain ⟨l0, l1, l2⟩ := cntIn_iff.1 h1
  obtain ⟨_, _, l3⟩ := cntIn_iff.1 h2
  have hn60 : 1 ≤ n ∧ n ≤ 60 := by have := HL.out; omega
  have H1 := Lib.hid l2
  have H2 := Lib.hid l3
  have c4 := inB_iff.1 h4
  have c5 := inB_iff.1 h5
  obtain ⟨t, rfl⟩ := Int.eq_ofNat_of_zero_le (by omega : 0 ≤ to)
  obtain ⟨f, rfl⟩ := Int.eq_ofNat_of_zero_le (by omega : 0 ≤ fr)
  have hft : f ≤ t ∧ t ≤ n := by omega
  clear l0 l1 l2 l3 hz hy hm b1 b2 c4 c5
  obtain ⟨ad, _, rfl, _⟩ := hr.at_ (k := 0) (by omega)
  obtain ⟨ae, _, rfl, _⟩ := hs.at_ (k := 0) (by omega)
  go_enter Try.func27, Try.ntmps27
  go_wp2_with (go_at_call 43; refine (l00In_any _ _ _ _).mono ?_; rintro e w' ⟨rfl, rfl⟩)
  refine (l06Points_any _ _ _ zs _ hr (by omega)).mono ?_
  rintro e w1 ⟨rfl, rfl⟩
  go_wp2_with (go_at_call 43; refine (l00In_any _ _ _ _).mono ?_; rintro e w' ⟨rfl, rfl⟩)
  refine (l06Points_any _ _ _ ys _ hs (by omega)).mono ?_
  rintro e w1 ⟨rfl, rfl⟩
  go_wp2_with (first | (go_at_call 43; refine (l00In_any _ _ _ _).mono ?_; rintro e w' ⟨rfl, rfl⟩) | (at_builtin; refine append_ints rfl (.tmp 44) (.tmp 45) rfl w _ 0 [] rfl (own_empty _ _) (hB.alloc hB.size _) ad n c zs rfl (hr.alloc (Nat.le_refl _) _) (by omega) ?_; intro va w3 oa hb3 _; simp only [Nat.zero_add, List.nil_append] at oa) | (at_builtin; refine append_ints rfl (.tmp 47) (.tmp 48) rfl w3 _ 0 [] rfl (own_empty _ _) ((Below.refl _ _).alloc (Nat.le_refl _) _) ae n d ys rfl ((hs.below hb3).alloc hb3.size _) (by omega) ?_; intro vb w4 ob hb4 _; simp only [Nat.zero_add, List.nil_append] at ob))
  have hap := own_apart oa ob
  replace ob := own_base ob hb3.size
  replace oa := own_on oa hb4
  have hB' := below_step hb3 hb4
  clear hb3 hb4 hB
  have hB := hB'
  clear hB'
  obtain ⟨A1, c1, rfl, _⟩ := own_form oa
  obtain ⟨A2, c2, rfl, _⟩ := own_form ob
  obtain ⟨ga, rfl⟩ := own_head oa (by omega)
  obtain ⟨gb, rfl⟩ := own_head ob (by omega)
  have hg : ga ≠ gb := by simp [Value.ownBlock] at hap; omega
  have hg' : gb ≠ ga := by omega
  clear h1 h2 h4 h5 hr hs
  go_loopw [13, 14, 15] (fun i _ _ wr => ∃ k : Nat, f ≤ k ∧ k ≤ t ∧ i = .int .i64 k ∧ wr.ownsRow w.heap.size 2 1 (.slice (some ⟨ga, 0, none⟩) n c1) n (ints (splitTo splitA zs zs ys f k)) ∧ wr.ownsRow w.heap.size 2 1 (.slice (some ⟨gb, 0, none⟩) n c2) n (ints (splitTo splitB ys zs ys f k)) ∧ Below w.heap.size w wr) (fun i _ _ _ => t - (intOf i).toNat)
  case atStart => exact ⟨f, by omega, by omega, rfl, by rw [splitTo_start]; exact oa, by rw [splitTo_start]; exact ob, hB⟩
  case round =>
    obtain ⟨k, hk1, hk2, rfl, oa', ob', hbw⟩ := hrel
    clear hB oa ob
    by_cases hlt : k < t
    · have hx := own_int oa' (k := k) (by omega)
      have hy := own_int ob' (k := k) (by omega)
      rw [splitTo_at (by have := HL.out; omega)] at hx
      rw [splitTo_at (by have := HM.out; omega)] at hy
      have fx := oa'.frozenAt k
      have fy := ob'.frozenAt k
      have bx := allIn_at H1.out _ (getD_mem (zs := zs) (k := k) (by have := HL.out; omega))
      have bY := allIn_at H2.out _ (getD_mem (zs := ys) (k := k) (by have := HM.out; omega))
      have sa := Lib.hid (splitTo_set (g := splitA) (d := zs) (zs := zs) (ys := ys) (fr := f) (k := k) hk1 (by have := HL.out; omega))
      have sb := Lib.hid (splitTo_set (g := splitB) (d := ys) (zs := zs) (ys := ys) (fr := f) (k := k) hk1 (by have := HM.out; omega))
      obtain ⟨x, hx'⟩ : ∃ x, x = zs[k]?.getD 0 := ⟨_, rfl⟩
      obtain ⟨y, hy'⟩ : ∃ y, y = ys[k]?.getD 0 := ⟨_, rfl⟩
      rw [← hx', ← hy'] at sa sb
      rw [← hx'] at hx bx
      rw [← hy'] at hy bY
      clear hx' hy'
      have i1 : (0 : Int) ≤ k := by omega
      have i2 : (k : Int) < n := by omega
      have x1 : IntKind.i64.wrap (x - y) = x - y := IntWalk.i64_in _ (by omega)
      have x2 : IntKind.i64.wrap (y - x) = y - x := IntWalk.i64_in _ (by omega)
      have hd2 : (0 : Int) ≤ (x - y) / 2 ∨ (0 : Int) ≤ (y - x) / 2 := by omega
      by_cases hxy : y < x
      · have hab : splitA x y = x - (x - y) / 2 ∧ splitB x y = y + (x - y) / 2 := by unfold splitA splitB; rw [if_pos hxy, if_pos hxy]; exact ⟨rfl, rfl⟩
        have HAB := Lib.hid hab
        clear hab
        go_wp2_with fail
        go_quiet (fail)
        go_wp2_with fail
        go_quiet (fail)
        clear x1 x2
        have hh3 : 0 ≤ (x - y) / 2 ∧ (x - y) / 2 ≤ 1000000 := by omega
        go_wp2_with fail
        go_roundw
        case rel =>
          refine ⟨k + 1, by omega, by omega, by go_num, ?_, ?_, ?_⟩
          · rw [← sa.out, HAB.out.1]; exact (split_round hg (own_drewN oa' _) (own_drewN ob' _) (below_drewN hbw _)).1
          · rw [← sb.out, HAB.out.2]; exact (split_round hg (own_drewN oa' _) (own_drewN ob' _) (below_drewN hbw _)).2.1
          · exact (split_round hg (own_drewN oa' _) (own_drewN ob' _) (below_drewN hbw _)).2.2
        case measure => simp [intOf]; omega
      · have hab : splitA x y = x + (y - x) / 2 ∧ splitB x y = y - (y - x) / 2 := by unfold splitA splitB; rw [if_neg hxy, if_neg hxy]; exact ⟨rfl, rfl⟩
        have HAB := Lib.hid hab
        clear hab
        go_wp2_with fail
        go_quiet (fail)
        go_wp2_with fail
        go_quiet (fail)
        clear x1 x2
        have hh3 : 0 ≤ (y - x) / 2 ∧ (y - x) / 2 ≤ 1000000 := by omega
        go_wp2_with fail
        go_roundw
        case rel =>
          refine ⟨k + 1, by omega, by omega, by go_num, ?_, ?_, ?_⟩
          · rw [← sa.out, HAB.out.1]; exact (split_round hg' (own_drewN ob' _) (own_drewN oa' _) (below_drewN hbw _)).2.1
          · rw [← sb.out, HAB.out.2]; exact (split_round hg' (own_drewN ob' _) (own_drewN oa' _) (below_drewN hbw _)).1
          · exact (split_round hg' (own_drewN ob' _) (own_drewN oa' _) (below_drewN hbw _)).2.2
        case measure => simp [intOf]; omega
    · obtain rfl : t = k := by omega
      have hyes := Lib.hid (split_yes hok.out)
      go_wp2_with fail
      go_ret3
      rw [hyes.out.1, hyes.out.2.1, hyes.out.2.2]
      have e1 : (splitTo splitA zs zs ys f t).length = n := by rw [splitTo_length]; exact HL.out
      have e2 : (splitTo splitB ys zs ys f t).length = n := by rw [splitTo_length]; exact HM.out
      refine ⟨_, _, rfl, ?_, ?_, hap, hbw⟩
      · simp only [Int.toNat_natCast]; rw [e1]; exact oa'
      · simp only [Int.toNat_natCast]; rw [e2]; exact ob'
end Go.Proofs.Ytpealngmghcmdaa
