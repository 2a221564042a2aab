/-
  READING RULES: the reference's ReadRules.
-/
import Derived.Test.YtinocfehjdlohaaDoorRrA
import Derived.Test.YtinocfehjdlohaaDoorReadV
namespace Go.Proofs.YtinocfehjdlohaaDoor
open Go.ChangeShapes Go.WideShapes Go.ChangeAt Go.RowKit Go.Deep
set_option linter.unusedVariables false
set_option linter.unusedSimpArgs false

theorem extract_seg (l : List UInt8) (p k : Nat) : (txB l).extract p k = txB (seg l p k) := by
  have h := txB_of ((txB l).extract p k)
  rw [← h, Lib.extract_data, txB_data]
  congr 1
set_option maxRecDepth 100000 in
set_option maxHeartbeats 2000000 in
theorem spec_ReadRules (l : List UInt8) (w : World) (hl : l.length ≤ 1048576) : Calls Tryd.prog 21 #[.string (txB l)] w (RsEnds w (ReadRules_r0 l) (ReadRules_r1 l)) := by
  have hz : (txB l).size = l.length := txB_size l
  go_enter Tryd.func21, Tryd.ntmps21
  go_wp2_with fail
  go_loopw [4, 5, 6, 7, 8] (fun v a i _ _ wr => ∃ (p k n : Nat) (rs : List Ru), a = .int .i64 p ∧ i = .int .i64 k ∧ SI l p k (rs.map Ru.dat) ∧ OwnRs wr w.heap.size v n rs ∧ Below w.heap.size w wr) (fun _ _ i _ _ _ => l.length - (intOf i).toNat)
  case atStart => exact ⟨0, 0, 0, [], rfl, rfl, SI.start l, ownRs_empty w, (Below.refl _ _).alloc (Nat.le_refl _) _⟩
  case round =>
    obtain ⟨p, k, n, rs, rfl, rfl, hS, hown, hb⟩ := hrel
    have HS := Lib.hid hS
    have HO := Lib.hid hown
    have HB := Lib.hid hb
    have hn := hown.len
    have hn24 := hS.n
    rw [List.length_map, hn] at hn24
    have HN := Lib.hid hn
    have hpk := hS.h1
    have hkl := hS.h2
    clear hS hown hb hn
    have i0 : (0 : Int) ≤ k := by omega
    by_cases hlt : k < l.length
    · have i1 : (k : Int) < l.length := by omega
      have hix : ((txB l)[k]'(by rw [hz]; exact hlt)) = gB l k := idx_is l _ _
      by_cases hc : gB l k = 10
      · have hg2 : ((gB l k).toNat : Int) = 10 := by rw [hc]; rfl
        have i3 : (p : Int) ≤ k := by omega
        have i4 : (0 : Int) ≤ p := by omega
        have i5 : (k : Int) ≤ l.length := by omega
        have hex := extract_seg l p k
        have hsl := seg_len (s := l) hpk hkl
        have HC := Lib.hid hc
        obtain ⟨x, hx⟩ : ∃ x, seg l p k = x := ⟨_, rfl⟩
        have HX := Lib.hid hx
        rw [hx] at hex hsl
        have hxl : x.length ≤ 1048576 := by omega
        clear hc hx hsl
        cases hg : goodB x
        · have hfin := Lib.hid (HS.out.bad hlt HC.out (.inl (by rw [HX.out, hg])))
          have HR := Lib.hid (fun W : World => l05Read_as (l := x) (b := false) (by rw [good_same, hg]) W hxl)
          clear hg
          go_wp2_with fail
          refine (HR.out _).mono ?_
          rintro e w5 ⟨hh, A, m, c, fr, tt, rk, zs, rfl, _, hb5⟩
          have HB5 := Lib.hid ((below_step HB.out hb5).alloc (below_step HB.out hb5).size (.cells #[.int .i64 hh, .slice A m c, .int .i64 fr, .int .i64 tt, .int .i64 rk] 28))
          clear hb5
          go_wp2_with fail
          (try simp only [Exit.inBlock, Exit.then])
          go_ret2
          rw [hfin.out.1, hfin.out.2]
          exact rs_no HB5.out
        · have HR := Lib.hid (fun W : World => l05Read_as (l := x) (b := true) (by rw [good_same, hg]) W hxl)
          have HG := Lib.hid hg
          clear hg
          obtain ⟨A0, c0, rfl⟩ := HO.out.form
          by_cases h24 : n = 24
          · have hfin := Lib.hid (HS.out.bad hlt HC.out (.inr (by rw [List.length_map, HN.out, h24])))
            subst h24
            go_wp2_with fail
            refine (HR.out _).mono ?_
            rintro e w5 ⟨hh, A, m, c, fr, tt, rk, zs, rfl, _, hb5⟩
            have HB5 := Lib.hid ((below_step HB.out hb5).alloc (below_step HB.out hb5).size (.cells #[.int .i64 hh, .slice A m c, .int .i64 fr, .int .i64 tt, .int .i64 rk] 28))
            clear hb5
            go_wp2_with fail
            (try simp only [Exit.inBlock, Exit.then])
            go_ret2
            rw [hfin.out.1, hfin.out.2]
            exact rs_no HB5.out
          · have hne : ((n : Int) == 24) = false := by rw [beq_eq_false_iff_ne]; omega
            have hnn : ¬ (n : Int) = 24 := by omega
            have HST := Lib.hid (HS.out.step hlt HC.out (by rw [HX.out, HG.out]) (by rw [List.length_map, HN.out]; omega))
            go_wp2_with fail
            refine (HR.out _).mono ?_
            rintro e w5 ⟨hh, A, m, c, fr, tt, rk, zs, rfl, hgood, hb5⟩
            obtain ⟨hpar, ho⟩ := hgood trivial
            have HPD := Lib.hid hpar
            have N5 := BoxF.new w5 ⟨hh, fr, tt, rk, A, m, c, zs⟩ 28
            obtain ⟨x0, x1, x2, x3, x4⟩ := N5.box
            dsimp only at x0 x1 x2 x3 x4
            have HO6 := Lib.hid ((HO.out.on hb5).allocd (.cells #[.int .i64 hh, .slice A m c, .int .i64 fr, .int .i64 tt, .int .i64 rk] 28))
            have HB6 := Lib.hid ((below_step HB.out hb5).alloc (below_step HB.out hb5).size (.cells #[.int .i64 hh, .slice A m c, .int .i64 fr, .int .i64 tt, .int .i64 rk] 28))
            have HI6 := Lib.hid (ho.alloc (.cells #[.int .i64 hh, .slice A m c, .int .i64 fr, .int .i64 tt, .int .i64 rk] 28))
            have HLT := Lib.hid (fun a (ha : a ∈ rs) g hg => ((HO.out.inner a ha).lt g hg).2)
            have HSL := Lib.hid HB.out.size
            have hk9 : n ≤ 2097152 := by omega
            have HC5 := Lib.hid (show ∀ j, j < 5 → ((w5.alloc (.cells #[.int .i64 hh, .slice A m c, .int .i64 fr, .int .i64 tt, .int .i64 rk] 28)).alloc (.cells #[.int .i64 hh, .slice A m c, .int .i64 fr, .int .i64 tt, .int .i64 rk] 28)).cell? ⟨w5.heap.size + 1, j, none⟩ = (⟨hh, fr, tt, rk, A, m, c, zs⟩ : Ru).cells[j]? from fun j hj => by
              have h := cell_new5 (w5.alloc (.cells #[.int .i64 hh, .slice A m c, .int .i64 fr, .int .i64 tt, .int .i64 rk] 28)) ⟨hh, fr, tt, rk, A, m, c, zs⟩ 28 j hj
              rw [World.size_alloc] at h
              exact h)
            clear ho hb5 N5 HO HR hpar hgood hex hix
            go_wp2_with (at_builtin; go_loud (refine append_rule rfl (.tmp 35) (.tmp 37) rfl w _ n rs rfl (HO6.out.allocd _) (HB6.out.alloc HB6.out.size _) _ _ ⟨hh, fr, tt, rk, A, m, c, zs⟩ rfl HC5.out hk9 (World.ownsRow.alloc HI6.out _) HSL.out HLT.out ?_; intro v' w' ho2 hb2; have HO9 := Lib.hid ho2; have HB9 := Lib.hid hb2; clear ho2 hb2))
            go_roundw
            case rel => exact ⟨k + 1, k + 1, n + 1, rs ++ [⟨hh, fr, tt, rk, A, m, c, zs⟩], by go_num, by go_num, by have h := HST.out; rw [HX.out, HPD.out] at h; rw [List.map_append]; exact h, HO9.out, HB9.out⟩
            case measure => simp [intOf]; omega
      · have hbe : (((gB l k).toNat : Int) == 10) = false := by
          rw [beq_eq_false_iff_ne]
          intro h
          apply hc
          apply UInt8.toNat_inj.1
          show (gB l k).toNat = 10
          omega
        have hng : ¬ ((gB l k).toNat : Int) = 10 := by rw [beq_eq_false_iff_ne] at hbe; exact hbe
        have HSK := Lib.hid (HS.out.skip hlt hc)
        clear hc
        go_wp2_with fail
        go_roundw
        case rel => exact ⟨p, k + 1, n, rs, by go_num, by go_num, HSK.out, HO.out, HB.out⟩
        case measure => simp [intOf]; omega
    · obtain rfl : k = l.length := by omega
      by_cases hpl : p = l.length
      · subst hpl
        have hfin := Lib.hid HS.out.yes
        go_wp2_with fail
        (try simp only [Exit.inBlock, Exit.then])
        obtain ⟨A0, c0, rfl⟩ := HO.out.form
        go_ret2
        rw [hfin.out.1, hfin.out.2]
        exact rs_yes HO.out rfl HB.out
      · have hfin := Lib.hid (HS.out.no hpl)
        have hne : ((p : Int) == l.length) = false := by rw [beq_eq_false_iff_ne]; omega
        have hnn : ¬ (p : Int) = l.length := by omega
        go_wp2_with fail
        (try simp only [Exit.inBlock, Exit.then])
        go_ret2
        rw [hfin.out.1, hfin.out.2]
        exact rs_no HB.out
end Go.Proofs.YtinocfehjdlohaaDoor
