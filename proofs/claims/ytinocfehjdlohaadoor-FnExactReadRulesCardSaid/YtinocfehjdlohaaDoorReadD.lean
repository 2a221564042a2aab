/-
  READING NUMBERS: strings.Cut, strings.Split, strconv.ParseInt as the walks meet them; the program's ReadDecimal.
-/
import Derived.Test.YtinocfehjdlohaaDoorReadP
namespace Go.Proofs.YtinocfehjdlohaaDoor
open Go.ChangeShapes Go.WideShapes Go.ChangeAt Go.RowKit
set_option linter.unusedVariables false
set_option linter.unusedSimpArgs false

/-- what the walks of reading ask of the library's variables -/
structure RW (w : World) : Prop where
  tab : Tab w
  mx : ∃ m, w.cell? ⟨0, 0, none⟩ = some (.int .i64 m)
  es : ∃ tp p, w.var? Tryd.prog "strconv.ErrSyntax" = some #[.iface tp p]
  er : ∃ tp p, w.var? Tryd.prog "strconv.ErrRange" = some #[.iface tp p]
theorem RW.on {w w' : World} (h : RW w) (hb : Below w.heap.size w w') : RW w' := by
  obtain ⟨t, ⟨m, hm⟩, ⟨tp, p, e1⟩, ⟨tq, q, e2⟩⟩ := h
  refine ⟨t.on hb, ⟨m, (hb.cell (p := ⟨0, 0, none⟩) (block_lt_of_cell hm)).trans hm⟩, ⟨tp, p, ?_⟩, ⟨tq, q, ?_⟩⟩
  · exact Joins.var_stays (g := 1) (by kernel_rfl) e1 hb (Nat.le_refl _)
  · exact Joins.var_stays (g := 2) (by kernel_rfl) e2 hb (Nat.le_refl _)
theorem below_drew' {w w' : World} (h : ∃ n, w' = w.drewN n) : Below w.heap.size w w' := by
  obtain ⟨n, rfl⟩ := h
  exact below_drewN (Below.refl _ _) n
theorem cut_is (l : List UInt8) (sep : ByteArray) (t : List UInt8) (ht : sep.data.toList = t) (w : World) (hw : RW w) (hl : l.length ≤ 1048576) :
    Calls Tryd.prog 36 #[.string (txB l), .string sep] w fun e w' => e = .returned (.tuple #[.string (txB (Lib.cut l t).1), .string (txB (Lib.cut l t).2.1), .bool (Lib.cut l t).2.2]) ∧ Below w.heap.size w w' := by
  subst ht
  obtain ⟨m, hm⟩ := hw.mx
  have H := Any.strings_Cut { Tryd.laysM145 with } (txB l) sep m w (by rw [txB_size]; omega) hm
  rw [txB_data] at H
  exact H.mono fun e w' ⟨he, hx⟩ => ⟨he, below_drew' hx⟩
theorem trim_is (l : List UInt8) (sep : ByteArray) (t : List UInt8) (ht : sep.data.toList = t) (w : World) (hl : l.length ≤ 1048576) :
    Calls Tryd.prog 39 #[.string (txB l), .string sep] w fun e w' => e = .returned (.string (txB (Lib.trimSuffix l t))) ∧ w' = w := by
  subst ht
  have H := Tryd.strings_TrimSuffix (txB l) sep w (by rw [txB_size]; omega)
  rw [txB_data] at H
  exact H
theorem split_is (l : List UInt8) (sep : ByteArray) (t : List UInt8) (ht : sep.data.toList = t) (h1 : 1 ≤ sep.size) (w : World) (hw : RW w) (hl : l.length ≤ 1048576) :
    Calls Tryd.prog 38 #[.string (txB l), .string sep] w fun e w' => ∃ n, e = .returned (.slice (some ⟨w.heap.size, 0, none⟩) n n) ∧ n = (Lib.split l t).length ∧ w' = w.alloc (.cells (strs (Lib.split l t)).toArray 9) := by
  subst ht
  obtain ⟨m, hm⟩ := hw.mx
  have H := Any.strings_Split { Tryd.laysM146 with } Tryd.laysM146.i9 (txB l) sep m w (by rw [txB_size]; omega) hm h1
  have e1 : (Lib.splitB sep 0 (Lib.countB (txB l) sep) (txB l)).map (·.data.toList) = Lib.split l sep.data.toList := by
    rw [Lib.splitB_data, txB_data]
    show Lib.splitK _ _ (Lib.count (txB l).data.toList sep.data.toList) l = _
    rw [txB_data]; rfl
  have e2 : (Lib.splitB sep 0 (Lib.countB (txB l) sep) (txB l)).map Value.string = strs (Lib.split l sep.data.toList) := by
    rw [← e1]
    unfold strs
    rw [List.map_map]
    refine List.map_congr_left fun x _ => ?_
    show Value.string x = Value.string (txB x.data.toList)
    rw [txB_of]
  have e3 : Lib.countB (txB l) sep + 1 = (Lib.split l sep.data.toList).length := by
    rw [← e1, List.length_map, Lib.splitB_all sep h1 0 _ _ rfl]
  refine H.mono fun e w' ⟨he, hx⟩ => ⟨_, he, e3, ?_⟩
  rw [hx, e2]; rfl
def parsedIs (l : List UInt8) (v : Int) (ev : Value) : Prop := match Lib.parseIntB 64 l with
  | .ok u => v = u ∧ ev = .nilIface
  | _ => ∃ t p, ev = .iface t p
theorem parse_is (l : List UInt8) (w : World) (hw : RW w) (hl : l.length ≤ 1048576) :
    Calls Tryd.prog 58 #[.string (txB l), .int .i64 10, .int .i64 64] w fun e w' => ∃ v ev, e = .returned (.tuple #[.int .i64 v, ev]) ∧ parsedIs l v ev ∧ Below w.heap.size w w' := by
  obtain ⟨tp, p, e1⟩ := hw.es
  obtain ⟨tq, q, e2⟩ := hw.er
  have hd : (txB l).data.toList = l := txB_data l
  have hz : (txB l).size ≤ 1048576 := by rw [txB_size]; exact hl
  unfold parsedIs
  generalize hx : Lib.parseIntB 64 l = x
  rw [← hd] at hx
  rcases x with u | _ | _
  · refine (Tryd.strconv_ParseInt_10_at64_ok (txB l) (by omega) u hx w).mono fun e w' ⟨he, hb⟩ => ⟨_, _, he, ⟨rfl, rfl⟩, ?_⟩
    rcases hb with rfl | ⟨t, rfl⟩
    · exact Below.refl _ _
    · exact Lib.bytesWorld_below _ _ _
  · exact (Any.strconv_ParseInt_10_at64_syntax_var Tryd.laysC174 (txB l) (by omega) hx tp p w e1).mono fun e w' ⟨N, he, _, _, hb⟩ => ⟨_, _, he, ⟨_, _, rfl⟩, hb⟩
  · exact (Tryd.strconv_ParseInt_10_at64_range_var (txB l) (by omega) hx tq q w e2).mono fun e w' ⟨N, he, _, _, hb⟩ => ⟨_, _, he, ⟨_, _, rfl⟩, hb⟩
theorem within_is {z lo hi : Int} {b : Bool} (h : inB z lo hi = b) (w : World) : Calls Tryd.prog 50 #[.int .i64 z, .int .i64 lo, .int .i64 hi] w fun e w' => e = .returned (.bool b) ∧ w = w' := by
  subst h; exact within_any z lo hi w
theorem rd_ok {l : List UInt8} {v : Int} (h : Lib.parseIntB 64 l = .ok v) (h2 : readOk l v = true) : rd l = v ∧ (readDec l).isSome = true := by
  unfold rd readDec; rw [h]; simp [h2]
theorem rd_no {l : List UInt8} {v : Int} (h : Lib.parseIntB 64 l = .ok v) (h2 : readOk l v = false) : rd l = 0 ∧ (readDec l).isSome = false := by
  unfold rd readDec; rw [h]; simp [h2]
theorem rd_fail {l : List UInt8} (h : ∀ v, Lib.parseIntB 64 l ≠ .ok v) : rd l = 0 ∧ (readDec l).isSome = false := by
  unfold rd readDec
  split
  · rename_i v hv; exact absurd hv (h v)
  · exact ⟨rfl, rfl⟩
theorem tx_eq (a b : List UInt8) : ((txB a).toList == (txB b).toList) = (a == b) := by
  rw [Go.ByteArray.toList_eq, Go.ByteArray.toList_eq, txB_data, txB_data]
set_option maxHeartbeats 800000 in
theorem readDecimal_is (l : List UInt8) (w : World) (hw : RW w) (hl : l.length ≤ 1048576) :
    Calls Tryd.prog 37 #[.string (txB l)] w fun e w' => e = .returned (.tuple #[.int .i64 (rd l), .bool (readDec l).isSome]) ∧ Below w.heap.size w w' := by
  have HW := Lib.hid hw
  have HP := Lib.hid (parse_is l w hw hl)
  clear hw
  by_cases hex : ∃ v, Lib.parseIntB 64 l = .ok v
  · obtain ⟨v, hv⟩ := hex
    have hbd : -9223372036854775808 ≤ v ∧ v ≤ 9223372036854775807 := by
      have := Lib.parseIntB_bounds (B := 64) (l := l) hv
      simp at this
      omega
    cases h1 : inB v (-1000000000000000) 1000000000000000
    · have hfin := Lib.hid (rd_no hv (by unfold readOk; simp [inB] at h1; simp; intro a b; omega))
      go_enter Tryd.func37, Tryd.ntmps37
      go_wp2_with fail
      refine HP.out.mono ?_
      rintro e w1 ⟨v', ev, rfl, hpi, hb1⟩
      unfold parsedIs at hpi
      rw [hv] at hpi
      obtain ⟨rfl, rfl⟩ := hpi
      have HB1 := Lib.hid hb1
      clear hb1
      go_wp2_with (go_at_call 50; refine (within_is h1 _).mono ?_; rintro e w' ⟨rfl, rfl⟩)
      go_ret2
      exact ⟨by rw [hfin.out.1, hfin.out.2]; rfl, HB1.out⟩
    · have hr : readOk l v = (itoa v == l) := by unfold readOk; simp [inB] at h1; simp [h1]
      have hne := tx_eq (itoa v) l
      rw [← hr] at hne
      cases h2 : readOk l v
      · have hfin := Lib.hid (rd_no hv h2)
        rw [h2] at hne
        obtain ⟨sv, hsv⟩ : ∃ s, txB (itoa v) = s := ⟨_, rfl⟩
        obtain ⟨sl, hsl⟩ : ∃ s, txB l = s := ⟨_, rfl⟩
        have HD := Lib.hid (fun (w : World) (ht : Tab w) => decimal_is v hbd w ht)
        rw [hsv] at hne HD
        rw [hsl] at hne HP ⊢
        clear hsv hsl
        go_enter Tryd.func37, Tryd.ntmps37
        go_wp2_with fail
        refine HP.out.mono ?_
        rintro e w1 ⟨v', ev, rfl, hpi, hb1⟩
        unfold parsedIs at hpi
        rw [hv] at hpi
        obtain ⟨rfl, rfl⟩ := hpi
        have HB1 := Lib.hid hb1
        clear hb1
        go_wp2_with (first | (go_at_call 50; refine (within_is h1 _).mono ?_; rintro e w' ⟨rfl, rfl⟩) | (go_at_call 52; refine (HD.out _ (HW.out.on HB1.out).tab).mono ?_; rintro e w2 ⟨rfl, hb2⟩; have HB2 := Lib.hid (below_step HB1.out hb2); clear hb2))
        go_ret2
        exact ⟨by rw [hfin.out.1, hfin.out.2]; rfl, HB2.out⟩
      · have hfin := Lib.hid (rd_ok hv h2)
        rw [h2] at hne
        obtain ⟨sv, hsv⟩ : ∃ s, txB (itoa v) = s := ⟨_, rfl⟩
        obtain ⟨sl, hsl⟩ : ∃ s, txB l = s := ⟨_, rfl⟩
        have HD := Lib.hid (fun (w : World) (ht : Tab w) => decimal_is v hbd w ht)
        rw [hsv] at hne HD
        rw [hsl] at hne HP ⊢
        clear hsv hsl
        go_enter Tryd.func37, Tryd.ntmps37
        go_wp2_with fail
        refine HP.out.mono ?_
        rintro e w1 ⟨v', ev, rfl, hpi, hb1⟩
        unfold parsedIs at hpi
        rw [hv] at hpi
        obtain ⟨rfl, rfl⟩ := hpi
        have HB1 := Lib.hid hb1
        clear hb1
        go_wp2_with (first | (go_at_call 50; refine (within_is h1 _).mono ?_; rintro e w' ⟨rfl, rfl⟩) | (go_at_call 52; refine (HD.out _ (HW.out.on HB1.out).tab).mono ?_; rintro e w2 ⟨rfl, hb2⟩; have HB2 := Lib.hid (below_step HB1.out hb2); clear hb2))
        go_ret2
        exact ⟨by rw [hfin.out.1, hfin.out.2]; rfl, HB2.out⟩
  · have hfin := Lib.hid (rd_fail (l := l) fun v hv => hex ⟨v, hv⟩)
    go_enter Tryd.func37, Tryd.ntmps37
    go_wp2_with fail
    refine HP.out.mono ?_
    rintro e w1 ⟨v', ev, rfl, hpi, hb1⟩
    have hi : ∃ t p, ev = .iface t p := by
      unfold parsedIs at hpi
      split at hpi
      · rename_i v hv; exact absurd ⟨v, hv⟩ hex
      · exact hpi
    obtain ⟨t, p, rfl⟩ := hi
    have HB1 := Lib.hid hb1
    clear hb1 hpi hex
    go_wp2_with fail
    go_ret2
    exact ⟨by rw [hfin.out.1, hfin.out.2]; rfl, HB1.out⟩
end Go.Proofs.YtinocfehjdlohaaDoor
