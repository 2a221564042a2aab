/-
  ChangeDays: what the program's and the reference's functions return.
-/
import Derived.Test.YtinocfehjdlohaaChg
import Derived.Test.YtinocfehjdlohaaSortI
namespace Go.Proofs.Ytinocfehjdlohaa
open Go.ChangeShapes Go.WideShapes Go.ChangeAt Go.RowKit
set_option linter.unusedVariables false
set_option linter.unusedSimpArgs false

def inDay (x : Int) : Bool := inB x 1 100000
def dayIn (ds : List Rl) : List Int := (dayList ds).filter inDay
theorem chg_sorted (ds : List Rl) : Lib.compact (srt (dayIn ds)) = chg ds := by
  refine chg_is (compact_strict (srt_sorted _)) fun x => ?_
  rw [compact_mem (srt_sorted _), srt_mem]
  unfold dayIn
  rw [List.mem_filter]
  unfold inDay inB
  simp
theorem dayIn_len (ds : List Rl) : (dayIn ds).length ≤ 2 * ds.length := by
  have := List.length_filter_le inDay (dayList ds)
  rw [dayList_len] at this; exact this
/-- what stands in the inner rounds: the list, the two days in their box -/
structure Ch (W w : World) (v : Value) (ls : List Int) (g : Nat) (a b : Int) : Prop where
  own : w.ownsRow W.heap.size tI 1 v ls.length (ints ls)
  be : Below W.heap.size W w
  lt : g < w.heap.size
  c0 : w.cell? ⟨g, 0, none⟩ = some (.int .i64 a)
  c1 : w.cell? ⟨g, 1, none⟩ = some (.int .i64 b)
  ne : v.ownBlock ≠ some g
section
variable {W w w' : World} {v v' : Value} {ls l' : List Int} {g : Nat} {a b : Int}
theorem Ch.alloc (h : Ch W w v ls g a b) (o : Go.Obj) : Ch W (w.alloc o) v ls g a b :=
  ⟨h.own.alloc o, h.be.alloc h.be.size o, by have := h.lt; simp; omega, (World.cell?_alloc_lt w o ⟨g, 0, none⟩ h.lt).trans h.c0, (World.cell?_alloc_lt w o ⟨g, 1, none⟩ h.lt).trans h.c1, h.ne⟩
theorem Ch.app (h : Ch W w v ls g a b) (ho : w'.ownsRow W.heap.size tI 1 v' l'.length (ints l')) (hb : Below W.heap.size W w') (hn : v'.ownBlock = v.ownBlock ∨ v'.ownBlock = some w.heap.size) (hg : w.grownBy w' v.ownBlock) : Ch W w' v' l' g a b :=
  ⟨ho, hb, Nat.lt_of_lt_of_le h.lt hg.size, hg.cell h.c0 (fun e => h.ne e.symm), hg.cell h.c1 (fun e => h.ne e.symm), by
    rcases hn with e | e
    · rw [e]; exact h.ne
    · rw [e]; intro e2; injection e2 with e2; have := h.lt; omega⟩
end
theorem pair_take (a b : Int) : [a, b].take 0 = [] ∧ [a, b].take 1 = [a] ∧ [a, b].take 2 = [a, b] := ⟨rfl, rfl, rfl⟩
theorem within_is {z lo hi : Int} {b : Bool} (h : inB z lo hi = b) (w : World) : Calls Try.prog 75 #[.int .i64 z, .int .i64 lo, .int .i64 hi] w fun e w' => e = .returned (.bool b) ∧ w = w' := by
  subst h; exact within_any z lo hi w
set_option maxHeartbeats 3200000 in
theorem changes_is (A : Option Addr) (m c : Nat) (ds : List Rl) (w : World) (hr : RsRd w w.heap.size A m ds) (hok : rulesB ds = true) :
    Calls Try.prog 48 #[.slice A m c] w fun e w' => ∃ v, e = .returned v ∧ w'.ownsRow w.heap.size tI 1 v (chg ds).length (ints (chg ds)) ∧ Below w.heap.size w w' := by
  have HL := Lib.hid hr.len
  have hm : m ≤ 24 := by have := rules_len hok; rwa [hr.len] at this
  have HOK := Lib.hid hok
  have HR := Lib.hid hr
  clear hok hr
  go_enter Try.func48, Try.ntmps48
  go_wp2_with fail
  go_loopw [3, 5, 7, 11] (fun v _ _ i wr => ∃ k : Nat, k ≤ m ∧ i = .int .i64 k ∧ wr.ownsRow w.heap.size tI 1 v (dayIn (ds.take k)).length (ints (dayIn (ds.take k))) ∧ Below w.heap.size w wr) (fun _ _ _ i _ => m - (intOf i).toNat)
  case atStart => exact ⟨0, Nat.zero_le _, rfl, own_empty _ _, bl_a _⟩
  case round =>
    obtain ⟨k, hk, rfl, hown, hb⟩ := hrel
    by_cases hlt : k < m
    · obtain ⟨rs, hr2, he⟩ := HR.out.below hb
      obtain ⟨ad, r, rfl, hrk, ha, _⟩ := hr2.at hlt
      have hdk : ds[k]? = some r.dat := by rw [← he, List.getElem?_map, hrk]; rfl
      have hvd := valid_days HOK.out (List.mem_of_getElem? hdk)
      have hst := Lib.hid (show dayIn (ds.take (k + 1)) = dayIn (ds.take k) ++ [r.fr, r.tt + 1].filter inDay by unfold dayIn; rw [dayList_more hdk, List.filter_append]; rfl)
      have hlen := dayIn_len (ds.take k)
      rw [List.length_take] at hlen
      obtain ⟨ls, hls⟩ : ∃ ls, ls = dayIn (ds.take k) := ⟨_, rfl⟩
      rw [← hls] at hown hst hlen
      simp only [Ru.dat] at hvd
      obtain ⟨c0, c1, c2, c3, c4⟩ := ha
      have HO := Lib.hid hown
      have HB := Lib.hid hb
      have i1 : (0 : Int) ≤ k := by omega
      have i2 : (k : Int) < m := by omega
      have hll : ls.length ≤ 48 := by omega
      clear hr2 he hrk hdk hls hown hb hlen
      have d1 := hvd.1.1
      have d2 := hvd.1.2
      have d3 := hvd.2.1
      have d4 := hvd.2.2
      clear hvd
      have hch : Ch w ((wr.alloc (.cells #[.int .i64 r.hd, .slice r.A r.n r.c, .int .i64 r.fr, .int .i64 r.tt, .int .i64 r.rk] tR)).alloc (.cells #[.int .i64 r.fr, .int .i64 (r.tt + 1)] tI)) u3 (ls ++ ([r.fr, r.tt + 1].take 0).filter inDay) (wr.heap.size + 1) r.fr (r.tt + 1) :=
        ⟨by simpa using (HO.out.alloc _).alloc _, (HB.out.alloc HB.out.size _).alloc (by have := HB.out.size; simp; omega) _, by simp, by go_simp, by go_simp, fun e => by have := (HO.out.lt _ e).2; omega⟩
      have HCH := Lib.hid hch
      clear hch
      go_wp2_with fail
      obtain ⟨g, hg⟩ : ∃ g, g = wr.heap.size + 1 := ⟨_, rfl⟩
      rw [← hg] at HCH ⊢
      clear hg
      go_loopw [3, 7, 22] (fun v _ i wx => ∃ j : Nat, j ≤ 2 ∧ i = .int .i64 j ∧ Ch w wx v (ls ++ ([r.fr, r.tt + 1].take j).filter inDay) g r.fr (r.tt + 1)) (fun _ _ i _ => 2 - (intOf i).toNat)
      case atStart => exact ⟨0, by omega, rfl, HCH.out⟩
      case round =>
        clear HCH
        obtain ⟨j, hj, rfl, hC⟩ := hrel
        have HC := Lib.hid hC
        have hll2 : (ls ++ ([r.fr, r.tt + 1].take j).filter inDay).length ≤ 50 := by
          rw [List.length_append]
          have h1 := List.length_filter_le inDay ([r.fr, r.tt + 1].take j)
          rw [List.length_take] at h1
          simp at h1
          omega
        have e0 := HC.out.c0
        have e1 := HC.out.c1
        clear hC
        rcases (show j = 0 ∨ j = 1 ∨ j = 2 by omega) with rfl | rfl | rfl
        · cases hx : inDay (r.fr)
          · have hs := Lib.hid (show (([] : List Int) ++ [r.fr]).filter inDay = (([] : List Int)).filter inDay by rw [List.filter_append]; simp [hx])
            have HQ := Lib.hid (show inB (r.fr) 1 100000 = false from hx)
            clear hx
            go_wp2_with (go_at_call 75; refine (within_is HQ.out _).mono ?_; rintro e w' ⟨rfl, rfl⟩)
            go_roundw
            case rel => exact ⟨0 + 1, by omega, rfl, by rw [show [r.fr, r.tt + 1].take (0 + 1) = ([] : List Int) ++ [r.fr] from rfl, hs.out]; exact HC.out⟩
            case measure => simp [intOf]
          · have hs := Lib.hid (show (([] : List Int) ++ [r.fr]).filter inDay = (([] : List Int)).filter inDay ++ [r.fr] by rw [List.filter_append]; simp [hx])
            have HQ := Lib.hid (show inB (r.fr) 1 100000 = true from hx)
            clear hx
            go_wp2_with (first | (go_at_call 75; refine (within_is HQ.out _).mono ?_; rintro e w' ⟨rfl, rfl⟩) | (at_builtin; refine append_ints_g rfl (.tmp 28) (.tmp 30) rfl w _ _ _ rfl (World.ownsRow.alloc HC.out.own _) (Below.alloc HC.out.be (Below.size HC.out.be) _) _ 1 1 [r.fr] rfl (one_rd _ _ _) (by omega) ?_; intro v' w' ho2 hb2 hn2 hg2))
            have HC2 := Lib.hid ((HC.out.alloc (.cells #[.int .i64 (r.fr)] tI)).app (l' := (ls ++ (([] : List Int)).filter inDay) ++ [r.fr]) (by rw [List.length_append]; exact ho2) hb2 hn2 hg2)
            clear ho2 hb2 hn2 hg2
            go_roundw
            case rel => exact ⟨0 + 1, by omega, rfl, by rw [show [r.fr, r.tt + 1].take (0 + 1) = ([] : List Int) ++ [r.fr] from rfl, hs.out, ← List.append_assoc]; exact HC2.out⟩
            case measure => simp [intOf]
        · cases hx : inDay (r.tt + 1)
          · have hs := Lib.hid (show ([r.fr] ++ [r.tt + 1]).filter inDay = ([r.fr]).filter inDay by rw [List.filter_append]; simp [hx])
            have HQ := Lib.hid (show inB (r.tt + 1) 1 100000 = false from hx)
            clear hx
            go_wp2_with (go_at_call 75; refine (within_is HQ.out _).mono ?_; rintro e w' ⟨rfl, rfl⟩)
            go_roundw
            case rel => exact ⟨1 + 1, by omega, rfl, by rw [show [r.fr, r.tt + 1].take (1 + 1) = [r.fr] ++ [r.tt + 1] from rfl, hs.out]; exact HC.out⟩
            case measure => simp [intOf]
          · have hs := Lib.hid (show ([r.fr] ++ [r.tt + 1]).filter inDay = ([r.fr]).filter inDay ++ [r.tt + 1] by rw [List.filter_append]; simp [hx])
            have HQ := Lib.hid (show inB (r.tt + 1) 1 100000 = true from hx)
            clear hx
            go_wp2_with (first | (go_at_call 75; refine (within_is HQ.out _).mono ?_; rintro e w' ⟨rfl, rfl⟩) | (at_builtin; refine append_ints_g rfl (.tmp 28) (.tmp 30) rfl w _ _ _ rfl (World.ownsRow.alloc HC.out.own _) (Below.alloc HC.out.be (Below.size HC.out.be) _) _ 1 1 [r.tt + 1] rfl (one_rd _ _ _) (by omega) ?_; intro v' w' ho2 hb2 hn2 hg2))
            have HC2 := Lib.hid ((HC.out.alloc (.cells #[.int .i64 (r.tt + 1)] tI)).app (l' := (ls ++ ([r.fr]).filter inDay) ++ [r.tt + 1]) (by rw [List.length_append]; exact ho2) hb2 hn2 hg2)
            clear ho2 hb2 hn2 hg2
            go_roundw
            case rel => exact ⟨1 + 1, by omega, rfl, by rw [show [r.fr, r.tt + 1].take (1 + 1) = [r.fr] ++ [r.tt + 1] from rfl, hs.out, ← List.append_assoc]; exact HC2.out⟩
            case measure => simp [intOf]
        · go_wp2_with fail
          go_roundw
          case rel => exact ⟨k + 1, by omega, by go_num, by rw [hst.out]; exact HC.out.own, HC.out.be⟩
          case measure => simp [intOf]; omega
    · obtain rfl : m = k := by omega
      rw [List.take_of_length_le (by have := HL.out; omega)] at hown
      obtain ⟨A1, c1, rfl, _⟩ := own_form hown
      have hlen := dayIn_len ds
      have hlm := HL.out
      have HO := Lib.hid hown
      have HB := Lib.hid hb
      have hln : (dayIn ds).length ≤ 1048576 := by omega
      clear hown hb hlen hlm
      go_wp2_with fail
      refine (sortI_any _ HO.out hln).mono ?_
      rintro e w2 ⟨rfl, ho2, hg2⟩
      have HB2 := Lib.hid (HB.out.grown hg2 HB.out.size fun g hg => (HO.out.lt g hg).1)
      have HO2 := Lib.hid ho2
      clear ho2 hg2
      have HLEN := Lib.hid (srt_len (dayIn ds))
      go_wp2_with fail
      refine (compactI_any _ HO2.out hln).mono ?_
      rintro e w3 ⟨rfl, ho3, hg3⟩
      have HB3 := Lib.hid (HB2.out.grown hg3 HB2.out.size fun g hg => (HO2.out.lt g hg).1)
      have HO3 := Lib.hid ho3
      have HS := Lib.hid (chg_sorted ds)
      clear ho3 hg3
      go_wp2_with fail
      go_ret
      exact ⟨_, rfl, by rw [← HS.out]; exact HO3.out, HB3.out⟩
def ChangeDays_r0 (ds : List Rl) : List Int := if rulesB ds then chg ds else []
def ChangeDays_r1 (ds : List Rl) : Bool := rulesB ds
theorem ChangeDays_len (ds : List Rl) : (ChangeDays_r0 ds).length ≤ 48 := by
  unfold ChangeDays_r0
  split
  · rename_i h; exact chg_len (rules_len h)
  · simp
theorem cd_no {ds : List Rl} (h : rulesB ds = false) : ChangeDays_r0 ds = [] ∧ ChangeDays_r1 ds = false := by simp [ChangeDays_r0, ChangeDays_r1, h]
theorem cd_yes {ds : List Rl} (h : rulesB ds = true) : ChangeDays_r0 ds = chg ds ∧ ChangeDays_r1 ds = true := by simp [ChangeDays_r0, ChangeDays_r1, h]
theorem impl_ChangeDays (A : Option Addr) (m c : Nat) (ds : List Rl) (w : World) (hr : RsRd w w.heap.size A m ds) (hz : szD ds ≤ 1048576) (hb : ∀ d ∈ ds, RlB d) :
    Calls Try.prog 20 #[.slice A m c] w (SlEnds w (ChangeDays_r0 ds) (ChangeDays_r1 ds)) := by
  have HR := Lib.hid hr
  have HZ := Lib.hid hz
  have HRB := Lib.hid hb
  clear hr hz hb
  cases h1 : rulesB ds
  · have hfin := Lib.hid (cd_no h1)
    go_enter Try.func20, Try.ntmps20
    go_wp2_with fail
    refine (areRules_is _ _ _ _ HR.out HZ.out HRB.out h1).mono ?_; rintro e w1 ⟨rfl, hb1⟩; have HB1 := Lib.hid hb1; clear hb1
    go_wp2_with fail
    go_ret2
    rw [hfin.out.1, hfin.out.2]
    exact sl_no HB1.out
  · have hfin := Lib.hid (cd_yes h1)
    have H1 := Lib.hid h1
    go_enter Try.func20, Try.ntmps20
    go_wp2_with fail
    refine (areRules_is _ _ _ _ HR.out HZ.out HRB.out h1).mono ?_; rintro e w1 ⟨rfl, hb1⟩; have HB1 := Lib.hid hb1; clear hb1
    clear h1
    go_wp2_with fail
    refine (changes_is _ _ _ ds _ (HR.out.on HB1.out) H1.out).mono ?_
    rintro e w2 ⟨v, rfl, ho, hb2⟩
    have HO := Lib.hid ho
    have HB2 := Lib.hid hb2
    clear ho hb2
    go_wp2_with fail
    go_ret2
    rw [hfin.out.1, hfin.out.2]
    exact sl_yes rfl (own_base HO.out HB1.out.size) (below_step HB1.out HB2.out)
theorem spec_ChangeDays (A : Option Addr) (m c : Nat) (ds : List Rl) (w : World) (hr : RsRd w w.heap.size A m ds) (hz : szD ds ≤ 1048576) (hb : ∀ d ∈ ds, RlB d) :
    Calls Try.prog 19 #[.slice A m c] w (SlEnds w (ChangeDays_r0 ds) (ChangeDays_r1 ds)) := by
  have HR := Lib.hid hr
  have HZ := Lib.hid hz
  have HRB := Lib.hid hb
  clear hr hz hb
  cases h1 : rulesB ds
  · have hfin := Lib.hid (cd_no h1)
    go_enter Try.func19, Try.ntmps19
    go_wp2_with fail
    refine (l05Rules_is _ _ _ _ HR.out HZ.out HRB.out h1).mono ?_; rintro e w1 ⟨rfl, j1, rfl⟩; have HB1 := Lib.hid (below_drewN (Below.refl w.heap.size w) j1)
    go_wp2_with fail
    go_ret2
    rw [hfin.out.1, hfin.out.2]
    exact sl_no HB1.out
  · have hfin := Lib.hid (cd_yes h1)
    have H1 := Lib.hid h1
    go_enter Try.func19, Try.ntmps19
    go_wp2_with fail
    refine (l05Rules_is _ _ _ _ HR.out HZ.out HRB.out h1).mono ?_; rintro e w1 ⟨rfl, j1, rfl⟩; have HB1 := Lib.hid (below_drewN (Below.refl w.heap.size w) j1)
    clear h1
    go_wp2_with fail
    refine (l05Changes_is _ _ _ ds _ (HR.out.on HB1.out) H1.out).mono ?_
    rintro e w2 ⟨v, rfl, ho, hb2⟩
    have HO := Lib.hid ho
    have HB2 := Lib.hid hb2
    clear ho hb2
    go_wp2_with fail
    go_ret2
    rw [hfin.out.1, hfin.out.2]
    exact sl_yes rfl (own_base HO.out HB1.out.size) (below_step HB1.out HB2.out)
end Go.Proofs.Ytinocfehjdlohaa
