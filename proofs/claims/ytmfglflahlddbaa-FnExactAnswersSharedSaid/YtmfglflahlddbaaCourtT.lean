/-
  judged: the walk.
-/
import Derived.Test.YtmfglflahlddbaaCourtJ
import Derived.Test.YtmfglflahlddbaaCourtA
import Derived.Deep.RegionLaw
import Derived.Deep.RegionLawGrows
import Derived.Test.YtmfglflahlddbaaRegT
import Derived.Test.YtmfglflahlddbaaCEntry
import Derived.Deep.LoopGhost
import Derived.Deep.CutRange
import Derived.Deep.CutBlock
namespace Go.Proofs.Ytmfglflahlddbaa
open Go.ChangeShapes Go.WideShapes Go.ChangeAt Go.RowKit
set_option linter.unusedVariables false
set_option linter.unusedSimpArgs false

/-- a box of five cells, a box of one, that the statement has just laid -/
structure BX5 (w : World) (g : Nat) (r : Ru) : Prop where
  lt : g < w.heap.size
  c : ∀ j, j < 5 → w.cell? ⟨g, j, none⟩ = r.cells[j]?
structure BX1 (w : World) (g : Nat) (z : Int) : Prop where
  lt : g < w.heap.size
  c : w.cell? ⟨g, 0, none⟩ = some (.int .i64 z)
theorem BX5.grown {w w' : World} {g : Nat} {r : Ru} {row : Option Nat} (h : BX5 w g r) (hg : w.grownBy w' row) (hne : row ≠ some g) : BX5 w' g r :=
  ⟨Nat.lt_of_lt_of_le h.lt hg.size, fun j hj => by
    have e := hg.block g h.lt (fun e => hne e.symm)
    have : w'.cell? ⟨g, j, none⟩ = w.cell? ⟨g, j, none⟩ := by unfold World.cell?; rw [e]
    rw [this]; exact h.c j hj⟩
theorem BX1.grown {w w' : World} {g : Nat} {z : Int} {row : Option Nat} (h : BX1 w g z) (hg : w.grownBy w' row) (hne : row ≠ some g) : BX1 w' g z :=
  ⟨Nat.lt_of_lt_of_le h.lt hg.size, hg.cell h.c (fun e => hne e.symm)⟩
theorem BX5.alloc {w : World} {g : Nat} {r : Ru} (h : BX5 w g r) (o : Go.Obj) : BX5 (w.alloc o) g r := h.grown (World.grownBy_alloc w o none) (by simp)
theorem BX1.alloc {w : World} {g : Nat} {z : Int} (h : BX1 w g z) (o : Go.Obj) : BX1 (w.alloc o) g z := h.grown (World.grownBy_alloc w o none) (by simp)
theorem bx5_new (w : World) (r : Ru) : BX5 (w.alloc (.cells #[.int .i64 r.hd, .slice r.A r.n r.c, .int .i64 r.fr, .int .i64 r.tt, .int .i64 r.rk] tR)) w.heap.size r := ⟨by simp, cell_new5 w r tR⟩
theorem bx1_new (w : World) (z : Int) : BX1 (w.alloc (.cells #[.int .i64 z] tI)) w.heap.size z := ⟨by simp, cell_new _ _ _⟩
theorem JR.start (w : World) (B : Option Addr) (k d : Nat) (t : TypeId) :
    JR w (((w.alloc (.map #[] 0)).alloc (.map #[] 0)).alloc (.cells #[.slice none 0 0, .slice none 0 0, .slice B k d, .map (some w.heap.size), .map (some (w.heap.size + 1))] t)) B k d (.slice none 0 0) (.slice none 0 0) [] [] := by
  refine ⟨by simp, (((Below.refl _ _).alloc (Nat.le_refl _) _).alloc (by simp) _).alloc (by simp; omega) _, ?_, ?_, ?_, ?_, ?_, ?_, ?_, ⟨rfl, .inl ⟨rfl, rfl⟩⟩, ⟨rfl, .inl ⟨rfl, rfl⟩⟩, ((mapB_made w).alloc _).alloc _, ?_⟩
  rotate_right
  · have := mapB_made (w.alloc (.map #[] 0))
    rw [show (w.alloc (.map #[] 0)).heap.size = w.heap.size + 1 by simp] at this
    exact this.alloc _
  all_goals go_simp
theorem actR_all (rs : List Ru) (day : Int) : (actR rs day).map Ru.dat = (rs.map Ru.dat).filter fun d => onB d day := by unfold actR; rw [List.filter_map]; rfl
theorem actR_len (rs : List Ru) (day : Int) : (actR rs day).length ≤ rs.length := List.length_filter_le _ _
theorem actTo_len2 (rs : List Ru) (day : Int) : ∀ k, k ≤ rs.length → (actTo (rs.map Ru.dat) day k).length = (actR (rs.take k) day).length
  | 0, _ => rfl
  | k + 1, hk => by
    have ih := actTo_len2 rs day k (by omega)
    have hr : rs[k]? = some rs[k] := List.getElem?_eq_getElem (by omega)
    rw [actR_snoc day hr, actTo, dat_at hr]
    split
    · rw [List.length_append, List.length_append, ih]; rfl
    · exact ih
/-- the court, and what is known of it, while it goes through the words -/
structure Jd (W wr : World) (A : Option Addr) (m c : Nat) (B : Option Addr) (k d : Nat) (rs : List Ru) (fs : List Int) (I : Option Addr) (ci : Nat) (zs : List Int) (y n : Int → Bool) : Prop where
  co : Court wr (W.heap.size + 2) A m c B k d W.heap.size (W.heap.size + 1) rs fs y n
  so : Sound fs (rs.map Ru.dat) y n
  be : Below W.heap.size W wr
  ix : wr.cell? ⟨W.heap.size + 2, 1, none⟩ = some (.slice I zs.length ci)
  ir : Rd wr wr.heap.size 1 I zs.length (ints zs)
section
variable {W wr w' : World} {A : Option Addr} {m c : Nat} {B : Option Addr} {k d : Nat} {rs : List Ru} {fs : List Int} {I : Option Addr} {ci : Nat} {zs : List Int} {y n : Int → Bool} {x : Int}
theorem Jd.on (h : Jd W wr A m c B k d rs fs I ci zs y n) (hb : Below wr.heap.size wr w') : Jd W w' A m c B k d rs fs I ci zs y n :=
  ⟨h.co.on hb, h.so, below_step h.be hb, (hb.cell (p := ⟨W.heap.size + 2, 1, none⟩) h.co.lt).trans h.ix, h.ir.on hb⟩
theorem Jd.putY (h : Jd W wr A m c B k d rs fs I ci zs y n) (hw : wordB x = true) (hs : stepY fs (rs.map Ru.dat) y n x = true) (hm : MapB w' W.heap.size (putB y x)) (hg : wr.grownBy w' (some W.heap.size)) : Jd W w' A m c B k d rs fs I ci zs (putB y x) n := by
  have hk : ∀ p : Addr, p.block < wr.heap.size → w'.cell? p = wr.cell? p := fun p hp => cells_kept h.co.my hm hg hp
  exact ⟨h.co.putY hm hg (by omega), sound_putY h.so (soundY h.so hw hs), below_map h.be hg (Nat.le_refl _) h.co.my.lt, (hk ⟨_, 1, none⟩ h.co.lt).trans h.ix, (h.ir.keep hk).more hg.size⟩
theorem Jd.putN (h : Jd W wr A m c B k d rs fs I ci zs y n) (hw : wordB x = true) (hs : stepN fs (rs.map Ru.dat) y n x = true) (hm : MapB w' (W.heap.size + 1) (putB n x)) (hg : wr.grownBy w' (some (W.heap.size + 1))) : Jd W w' A m c B k d rs fs I ci zs y (putB n x) := by
  have hk : ∀ p : Addr, p.block < wr.heap.size → w'.cell? p = wr.cell? p := fun p hp => cells_kept h.co.mn hm hg hp
  exact ⟨h.co.putN hm hg (by omega), sound_putN h.so (soundN h.so hw hs), below_map h.be hg (by omega) h.co.mn.lt, (hk ⟨_, 1, none⟩ h.co.lt).trans h.ix, (h.ir.keep hk).more hg.size⟩
end
theorem JR.done {W wr : World} {B : Option Addr} {k d : Nat} {v0 v1 : Value} {rs' : List Ru} {zs fs : List Int} (h : JR W wr B k d v0 v1 rs' zs) (hi : ∀ r ∈ rs', Rd wr wr.heap.size 1 r.A r.n (ints r.ifs)) (hN : RuN rs') (hl : rs'.length ≤ 1048576) (hf : Rd W W.heap.size 1 B k (ints fs)) (hk : k ≤ 1048576) :
    ∃ A c I ci, v0 = .slice A rs'.length c ∧ v1 = .slice I zs.length ci ∧ Jd W wr A rs'.length c B k d rs' fs I ci zs (fun _ => false) (fun _ => false) := by
  obtain ⟨A, c, rfl, _⟩ := own_form h.o0
  obtain ⟨I, ci, rfl, _⟩ := own_form h.o1
  exact ⟨A, c, I, ci, rfl, rfl, ⟨by have := h.sz; omega, h.c0, h.c2, h.c3, h.c4, ⟨Rd.of_own h.o0, hi⟩, hN, hl, (hf.below h.be).more h.be.size, hk, h.m0, h.m1⟩, sound_none _ _, h.be, h.c1, Rd.of_own h.o1⟩
/-- the same within a round -/
structure JdP (W wr : World) (A : Option Addr) (m c : Nat) (B : Option Addr) (k d : Nat) (rs : List Ru) (fs : List Int) (I : Option Addr) (ci : Nat) (zs : List Int) (D : Option Addr) (y0 n0 : Int → Bool) (b : Bool) (p : Nat) (y n : Int → Bool) : Prop where
  jd : Jd W wr A m c B k d rs fs I ci zs y n
  wd : Rd wr wr.heap.size 1 D 32 (ints wordList)
  f : b = false → y = y0 ∧ n = n0 ∧ StepsTo fs (rs.map Ru.dat) y0 n0 p
  t : b = true → cntB y0 + cntB n0 < cntB y + cntB n
section
variable {W wr w' : World} {A : Option Addr} {m c : Nat} {B : Option Addr} {k d : Nat} {rs : List Ru} {fs : List Int} {I : Option Addr} {ci : Nat} {zs : List Int} {D : Option Addr} {y n y0 n0 : Int → Bool} {b : Bool} {p : Nat} {x : Int}
theorem JdP.on (h : JdP W wr A m c B k d rs fs I ci zs D y0 n0 b p y n) (hb : Below wr.heap.size wr w') : JdP W w' A m c B k d rs fs I ci zs D y0 n0 b p y n := ⟨h.jd.on hb, h.wd.on hb, h.f, h.t⟩
theorem JdP.ge (h : JdP W wr A m c B k d rs fs I ci zs D y0 n0 b p y n) : cntB y0 + cntB n0 ≤ cntB y + cntB n := by
  cases b
  · obtain ⟨h1, h2, _⟩ := h.f rfl; rw [h1, h2]; exact Nat.le_refl _
  · exact Nat.le_of_lt (h.t rfl)
theorem JdP.skip (h : JdP W wr A m c B k d rs fs I ci zs D y0 n0 b p y n) (hx : wordList[p]? = some x) (h1 : stepY fs (rs.map Ru.dat) y n x = true → y x = true) (h2 : stepN fs (rs.map Ru.dat) y n x = true → n x = true) : JdP W wr A m c B k d rs fs I ci zs D y0 n0 b (p + 1) y n :=
  ⟨h.jd, h.wd, fun hb => by obtain ⟨e1, e2, e3⟩ := h.f hb; subst e1 e2; exact ⟨rfl, rfl, steps_more e3 hx h1 h2⟩, h.t⟩
theorem JdP.up {q : Nat} (h : JdP W wr A m c B k d rs fs I ci zs D y0 n0 true p y n) : JdP W wr A m c B k d rs fs I ci zs D y0 n0 true q y n := ⟨h.jd, h.wd, fun hb => (by cases hb), h.t⟩
theorem JdP.putY (h : JdP W wr A m c B k d rs fs I ci zs D y0 n0 b p y n) (hw : wordB x = true) (hf : y x = false) (hs : stepY fs (rs.map Ru.dat) y n x = true) (hm : MapB w' W.heap.size (putB y x)) (hg : wr.grownBy w' (some W.heap.size)) : JdP W w' A m c B k d rs fs I ci zs D y0 n0 true p (putB y x) n :=
  ⟨h.jd.putY hw hs hm hg, (h.wd.keep fun q hq => cells_kept h.jd.co.my hm hg hq).more hg.size, fun hb => (by cases hb), fun _ => by have := h.ge; have := cnt_put_eq hw hf; omega⟩
theorem JdP.putN (h : JdP W wr A m c B k d rs fs I ci zs D y0 n0 b p y n) (hw : wordB x = true) (hf : n x = false) (hs : stepN fs (rs.map Ru.dat) y n x = true) (hm : MapB w' (W.heap.size + 1) (putB n x)) (hg : wr.grownBy w' (some (W.heap.size + 1))) : JdP W w' A m c B k d rs fs I ci zs D y0 n0 true p y (putB n x) :=
  ⟨h.jd.putN hw hs hm hg, (h.wd.keep fun q hq => cells_kept h.jd.co.mn hm hg hq).more hg.size, fun hb => (by cases hb), fun _ => by have := h.ge; have := cnt_put_eq hw hf; omega⟩
end
set_option maxRecDepth 100000 in
set_option maxHeartbeats 6400000 in
theorem judged_is (A : Option Addr) (m c : Nat) (rs : List Ru) (B : Option Addr) (k d : Nat) (fs : List Int) (day : Int) (w : World) (hr : RRd w w.heap.size A m rs) (hm : m ≤ 24) (hn : RuN rs) (hf : Rd w w.heap.size 1 B k (ints fs)) (hk : k ≤ 1048576) :
    Calls Try.prog 33 #[.slice A m c, .slice B k d, .int .i64 day] w fun e w' => ∃ (cb : Nat) (A2 : Option Addr) (m2 c2 bp bn : Nat) (rs2 : List Ru) (I : Option Addr) (ci : Nat), e = .returned (.pointer (some ⟨cb, 0, none⟩)) ∧ Court w' cb A2 m2 c2 B k d bp bn rs2 fs (lfpY fs (rs2.map Ru.dat)) (lfpN fs (rs2.map Ru.dat)) ∧ rs2.map Ru.dat = (rs.map Ru.dat).filter (fun d => onB d day) ∧ w.heap.size ≤ cb ∧ Below w.heap.size w w' ∧
      w'.cell? ⟨cb, 1, none⟩ = some (.slice I m2 ci) ∧ Rd w' w'.heap.size 1 I m2 (ints (actTo (rs.map Ru.dat) day m)) := by
  have hmm := @run_makeMap Try.prog
  have HLEN := Lib.hid hr.len
  have HRN := Lib.hid hn
  clear hn
  go_enter Try.func33, Try.ntmps33
  go_wp2_with fail
  go_loopw [8, 9, 20] (fun _ _ i wr => ∃ (q : Nat) (v0 v1 : Value), q ≤ m ∧ i = .int .i64 q ∧ JR w wr B k d v0 v1 (actR (rs.take q) day) (actTo (rs.map Ru.dat) day q)) (fun _ _ i _ => m - (intOf i).toNat)
  case atStart => exact ⟨0, _, _, Nat.zero_le _, rfl, JR.start _ _ _ _ _⟩
  case round =>
    obtain ⟨q, v0, v1, hq, rfl, hJ⟩ := hrel
    have hbw := hJ.be
    by_cases hlt : q < m
    · obtain ⟨ad, r, rfl, ka, hrk, rc0, rc1, rc2, rc3, rc4, hri⟩ := (hr.below hbw).row hlt
      have hac := Lib.hid (actR_snoc day hrk)
      have hdat := dat_at hrk
      have hat := Lib.hid (show actTo (rs.map Ru.dat) day (q + 1) = if onB r.dat day then actTo (rs.map Ru.dat) day q ++ [(q : Int)] else actTo (rs.map Ru.dat) day q by rw [actTo, hdat])
      have hl0 : (actR (rs.take q) day).length ≤ 24 := by
        have h1 := List.length_filter_le (fun r : Ru => onB r.dat day) (rs.take q)
        unfold actR; rw [List.length_take] at h1; omega
      have hl1 : (actTo (rs.map Ru.dat) day q).length ≤ 24 := by have := actTo_len (rs.map Ru.dat) day q; omega
      have hba := bl_a (w := wr) (.cells #[.int .i64 r.hd, .slice r.A r.n r.c, .int .i64 r.fr, .int .i64 r.tt, .int .i64 r.rk] tR)
      have hJa := hJ.on hba
      have HCF0 : CF (wr.alloc (.cells #[.int .i64 r.hd, .slice r.A r.n r.c, .int .i64 r.fr, .int .i64 r.tt, .int .i64 r.rk] tR)) (w.heap.size + 2) v0 v1 wr.heap.size r :=
        ⟨by have := hJ.sz; simp; omega, by simp, hJa.c0, hJa.c1, by go_simp, by go_simp, by go_simp, by go_simp, by go_simp, hJa.f0, hJa.f1⟩
      have NE0 : v0.ownBlock ≠ some wr.heap.size := fun e => by have := (hJ.o0.lt _ e).2; omega
      have NE1 : v1.ownBlock ≠ some wr.heap.size := fun e => by have := (hJ.o1.lt _ e).2; omega
      go_upto_block 1 with fail
      go_cut [20] from 20 to 48 (fun s20 wx => s20 = .int .i64 q ∧ ∃ va vb, JR w wx B k d va vb (actR (rs.take (q + 1)) day) (actTo (rs.map Ru.dat) day (q + 1)))
      case rest =>
        obtain ⟨rfl, va, vb, hJ3⟩ := hcut
        have HJ3 := Lib.hid hJ3
        clear hJ3 hr hf hbw hJ hJa rc0 rc1 rc2 rc3 rc4 hba HCF0 hdat NE0 NE1 hrk
        go_wp2_with fail
        go_roundw
        case rel => exact ⟨q + 1, va, vb, by omega, by go_num, HJ3.out⟩
        case measure => simp [intOf]; omega
      case first =>
      cases ho : onB r.dat day
      · go_wp2_with fail
        refine (isActive_is r.hd r.fr r.tt r.rk r.A r.n r.c r.ifs day _ ho).mono ?_
        rintro e w2 ⟨rfl, hb2⟩
        have HJ2 := Lib.hid (hJa.on hb2)
        have ho2 := Lib.hid ho
        clear hr hf hbw hJ hJa rc0 rc1 rc2 rc3 rc4 hba HCF0 hb2 hdat ho NE0 NE1 hrk
        go_wp2_with fail
        go_meet
        case rel => exact ⟨rfl, v0, v1, by rw [hac.out, hat.out, ho2.out]; exact HJ2.out⟩
      · go_wp2_with fail
        refine (isActive_is r.hd r.fr r.tt r.rk r.A r.n r.c r.ifs day _ ho).mono ?_
        rintro e w2 ⟨rfl, hb2⟩
        have hJ2 := hJa.on hb2
        have HCF : CF w2 (w.heap.size + 2) v0 v1 wr.heap.size r := HCF0.grown (grown_below hb2 none) (by simp) (by simp)
        have HST := Lib.hid (show SJ w2 w2 (w.heap.size + 3) v0 (actR (rs.take q) day).length (flat (actR (rs.take q) day)) v1 (actTo (rs.map Ru.dat) day q).length (actTo (rs.map Ru.dat) day q) (w.heap.size + 2) v0 v1 wr.heap.size r from ⟨hJ2.o0, hJ2.o1, HCF, hJ2.sz, Below.refl _ _⟩)
        have HJ2 := Lib.hid hJ2
        have HNEB := Lib.hid (show w.heap.size + 2 ≠ wr.heap.size by have := hJ.sz; omega)
        have HNE0 := Lib.hid NE0
        have HNE1 := Lib.hid NE1
        have ho2 := Lib.hid ho
        obtain ⟨xs0, hxs0⟩ : ∃ x, x = actR (rs.take q) day := ⟨_, rfl⟩
        obtain ⟨xs1, hxs1⟩ : ∃ x, x = actTo (rs.map Ru.dat) day q := ⟨_, rfl⟩
        rw [← hxs0] at HST HJ2 hac hl0
        rw [← hxs1] at HST HJ2 hat hl1
        have x_c0 := (HCF).c0; have y_c0 := fun o => ((HCF).alloc o).c0; have z_c0 := fun o o' => (((HCF).alloc o).alloc o').c0; have x_c1 := (HCF).c1; have y_c1 := fun o => ((HCF).alloc o).c1; have z_c1 := fun o o' => (((HCF).alloc o).alloc o').c1; have x_b0 := (HCF).b0; have y_b0 := fun o => ((HCF).alloc o).b0; have z_b0 := fun o o' => (((HCF).alloc o).alloc o').b0; have x_b1 := (HCF).b1; have y_b1 := fun o => ((HCF).alloc o).b1; have z_b1 := fun o o' => (((HCF).alloc o).alloc o').b1; have x_b2 := (HCF).b2; have y_b2 := fun o => ((HCF).alloc o).b2; have z_b2 := fun o o' => (((HCF).alloc o).alloc o').b2; have x_b3 := (HCF).b3; have y_b3 := fun o => ((HCF).alloc o).b3; have z_b3 := fun o o' => (((HCF).alloc o).alloc o').b3; have x_b4 := (HCF).b4; have y_b4 := fun o => ((HCF).alloc o).b4; have z_b4 := fun o o' => (((HCF).alloc o).alloc o').b4; have x_f0 := (HCF).f0; have y_f0 := fun o => ((HCF).alloc o).f0; have z_f0 := fun o o' => (((HCF).alloc o).alloc o').f0; have x_f1 := (HCF).f1; have y_f1 := fun o => ((HCF).alloc o).f1; have z_f1 := fun o o' => (((HCF).alloc o).alloc o').f1
        clear hr hf hbw hJ hJa hJ2 rc0 rc1 rc2 rc3 rc4 hba HCF0 HCF hb2 hdat ho NE0 NE1 hrk hxs0 hxs1
        go_wp2_with fail
        refine wp_region_T (fun w' => CF w' (w.heap.size + 2) v0 v1 wr.heap.size r) [18, 21] (by kernel_rfl) ?_
        have HST0 := HST
        clear HST
        have HST := Lib.hid HST0.out.drew
        have HN0 := Lib.hid (show ∀ g, w2.drew.heap.size ≤ g → v0.ownBlock ≠ some g from fun g hg e => by have := (HST.out.o0.lt _ e).2; omega)
        have HN1 := Lib.hid (show ∀ g, w2.drew.heap.size ≤ g → v1.ownBlock ≠ some g from fun g hg e => by have := (HST.out.o1.lt _ e).2; omega)
        have HSZ := Lib.hid (Nat.le_refl w2.drew.heap.size)
        generalize w2.drew = w4 at HST HN0 HN1 HSZ ⊢
        clear HST0
        refine wpAnyT_take (i := 0) (v := _) rfl (by kernel_rfl) (by kernel_rfl) (by kernel_rfl) (by kernel_rfl) (fun _ _ _ h => h) (fun _ => HST.out.cf) (Or.inl ⟨by rfl, by (intro w3; go_simp; try with_reducible rfl)⟩) ?_
        try simp only [Act.put, List.setIfInBounds_toArray, List.set_cons_zero, List.set_cons_succ]
        refine wpAnyT_take (i := 1) (v := _) rfl (by kernel_rfl) (by kernel_rfl) (by kernel_rfl) (by kernel_rfl) (fun _ _ _ h => h) (fun _ => HST.out.cf) (Or.inl ⟨by rfl, by (intro w3; go_simp; try with_reducible rfl)⟩) ?_
        try simp only [Act.put, List.setIfInBounds_toArray, List.set_cons_zero, List.set_cons_succ]
        refine wpAnyT_take (i := 2) (v := _) rfl (by kernel_rfl) (by kernel_rfl) (by kernel_rfl) (by kernel_rfl) (fun _ _ _ h => h) (fun _ => HST.out.cf) (Or.inl ⟨by rfl, by (intro w3; go_simp; try with_reducible rfl)⟩) ?_
        try simp only [Act.put, List.setIfInBounds_toArray, List.set_cons_zero, List.set_cons_succ]
        refine wpAnyT_take (i := 3) (v := _) rfl (by kernel_rfl) (by kernel_rfl) (by kernel_rfl) (by kernel_rfl) (fun _ _ _ h => h) (fun _ => HST.out.cf) (Or.inl ⟨by rfl, by (intro w3; go_simp; try with_reducible rfl)⟩) ?_
        try simp only [Act.put, List.setIfInBounds_toArray, List.set_cons_zero, List.set_cons_succ]
        refine wpAnyT_take (i := 4) (v := _) rfl (by kernel_rfl) (by kernel_rfl) (by kernel_rfl) (by kernel_rfl) (fun _ _ _ h => h) (fun _ => HST.out.cf) (Or.inl ⟨by rfl, by (intro w3; go_simp; try with_reducible rfl)⟩) ?_
        try simp only [Act.put, List.setIfInBounds_toArray, List.set_cons_zero, List.set_cons_succ]
        refine wpAnyT_load (i := 5) (v := _) rfl (by kernel_rfl) (by kernel_rfl) (by kernel_rfl) (by kernel_rfl) (by kernel_rfl) (by kernel_rfl) (fun _ _ _ h => h) HST.out.cf (Or.inl ⟨by rfl, by (intro w3 hw; have e0 := hw.c0; have e1 := hw.c1; have e2 := hw.b0; have e3 := hw.b1; have e4 := hw.b2; have e5 := hw.b3; have e6 := hw.b4; go_simp; try with_reducible rfl)⟩) ?_
        try simp only [Act.put, List.setIfInBounds_toArray, List.set_cons_zero, List.set_cons_succ]
        refine wpAnyT_load (i := 6) (v := _) rfl (by kernel_rfl) (by kernel_rfl) (by kernel_rfl) (by kernel_rfl) (by kernel_rfl) (by kernel_rfl) (fun _ _ _ h => h) HST.out.cf (Or.inl ⟨by rfl, by (intro w3 hw; have e0 := hw.c0; have e1 := hw.c1; have e2 := hw.b0; have e3 := hw.b1; have e4 := hw.b2; have e5 := hw.b3; have e6 := hw.b4; go_simp; try with_reducible rfl)⟩) ?_
        try simp only [Act.put, List.setIfInBounds_toArray, List.set_cons_zero, List.set_cons_succ]
        refine wpAnyT_take (i := 9) (v := _) rfl (by kernel_rfl) (by kernel_rfl) (by kernel_rfl) (by kernel_rfl) (fun _ _ _ h => h) (fun _ => HST.out.cf) (Or.inl ⟨by rfl, by (intro w3; go_simp; try with_reducible rfl)⟩) ?_
        try simp only [Act.put, List.setIfInBounds_toArray, List.set_cons_zero, List.set_cons_succ]
        refine wpAnyT_take (i := 10) (v := _) rfl (by kernel_rfl) (by kernel_rfl) (by kernel_rfl) (by kernel_rfl) (fun _ _ _ h => h) (fun _ => HST.out.cf) (Or.inl ⟨by rfl, by (intro w3; go_simp; try with_reducible rfl)⟩) ?_
        try simp only [Act.put, List.setIfInBounds_toArray, List.set_cons_zero, List.set_cons_succ]
        refine wpAnyT_take (i := 11) (v := _) rfl (by kernel_rfl) (by kernel_rfl) (by kernel_rfl) (by kernel_rfl) (fun _ _ _ h => h) (fun _ => HST.out.cf) (Or.inl ⟨by rfl, by (intro w3; go_simp; try with_reducible rfl)⟩) ?_
        try simp only [Act.put, List.setIfInBounds_toArray, List.set_cons_zero, List.set_cons_succ]
        refine wpAnyT_load (i := 12) (v := _) rfl (by kernel_rfl) (by kernel_rfl) (by kernel_rfl) (by kernel_rfl) (by kernel_rfl) (by kernel_rfl) (fun _ _ _ h => h) HST.out.cf (Or.inl ⟨by rfl, by (intro w3 hw; have e0 := hw.c0; have e1 := hw.c1; have e2 := hw.b0; have e3 := hw.b1; have e4 := hw.b2; have e5 := hw.b3; have e6 := hw.b4; go_simp; try with_reducible rfl)⟩) ?_
        try simp only [Act.put, List.setIfInBounds_toArray, List.set_cons_zero, List.set_cons_succ]
        refine wpAnyT_take (i := 13) (v := _) rfl (by kernel_rfl) (by kernel_rfl) (by kernel_rfl) (by kernel_rfl) (fun _ _ _ h => h) (fun _ => HST.out.cf) (Or.inl ⟨by rfl, by (intro w3; go_simp; try with_reducible rfl)⟩) ?_
        try simp only [Act.put, List.setIfInBounds_toArray, List.set_cons_zero, List.set_cons_succ]
        refine wpAnyT_ready (rs := [7, 14]) (by kernel_rfl) (by simp) ?_
        refine AllT.cons rfl (fun K hK => ?_) ?_
        · go_simp
          have HT := Lib.hid (HST.out.alloc (.cells #[.int .i64 r.hd, .slice r.A r.n r.c, .int .i64 r.fr, .int .i64 r.tt, .int .i64 r.rk] tR))
          have HBX := Lib.hid (bx5_new w4 r)
          obtain ⟨gx, hgx⟩ : ∃ gx, gx = w4.heap.size := ⟨_, rfl⟩
          have HGX := Lib.hid (show w4.heap.size ≤ gx by rw [hgx]; exact HSZ.out)
          have HSZ2 := Lib.hid (Nat.le_trans HSZ.out (bl_a (w := w4) (.cells #[.int .i64 r.hd, .slice r.A r.n r.c, .int .i64 r.fr, .int .i64 r.tt, .int .i64 r.rk] tR)).size)
          rw [← hgx] at HBX ⊢
          refine hK.out _ _ (fun _ => HT.out.cf) ?_
          clear hK K hgx
          generalize w4.alloc (.cells #[.int .i64 r.hd, .slice r.A r.n r.c, .int .i64 r.fr, .int .i64 r.tt, .int .i64 r.rk] tR) = w5 at HT HBX HSZ2 ⊢
          clear HST HSZ
          have HST := HT
          have HSZ := HSZ2
          clear HT HSZ2
          refine wpAnyT_ready (rs := [8, 14]) (by kernel_rfl) (by simp) ?_
          refine AllT.cons rfl (fun K hK => ?_) ?_
          · refine step_append_flat rfl (.tmp 33) (.tmp 35) rfl (w.heap.size + 3) v0 xs0.length (flat xs0) rfl HST.out.o0 HST.out.sz gx 1 r rfl HBX.out.c (by omega) ?_
            intro va w6 hoa hga
            obtain ⟨Aa, ca, rfl, _, _⟩ := own_form hoa
            have HT := Lib.hid (SJ.app0 HST.out HNE0.out (by omega) hoa hga)
            have HSZ2 := Lib.hid (Nat.le_trans HSZ.out hga.size)
            refine hK.out _ _ (fun _ => HT.out.cf) ?_
            clear hK K hoa hga HST HSZ HBX HGX
            have HST := HT
            have HSZ := HSZ2
            clear HT HSZ2
            try simp only [Act.put, List.setIfInBounds_toArray, List.set_cons_zero, List.set_cons_succ]
            refine wpAnyT_ready (rs := [14]) (by kernel_rfl) (by simp) ?_
            refine AllT.cons rfl (fun K hK => ?_) ?_
            · go_simp
              have HT := Lib.hid (HST.out.alloc (.cells #[.int .i64 (q : Int)] tI))
              have HBI := Lib.hid (bx1_new w6 (q : Int))
              obtain ⟨gi, hgi⟩ : ∃ gi, gi = w6.heap.size := ⟨_, rfl⟩
              have HGI := Lib.hid (show w4.heap.size ≤ gi by rw [hgi]; exact HSZ.out)
              have HSZ2 := Lib.hid (Nat.le_trans HSZ.out (bl_a (w := w6) (.cells #[.int .i64 (q : Int)] tI)).size)
              rw [← hgi] at HBI ⊢
              refine hK.out _ _ (fun _ => HT.out.cf) ?_
              clear hK K hgi
              generalize w6.alloc (.cells #[.int .i64 (q : Int)] tI) = w7 at HT HBI HSZ2 ⊢
              clear HST HSZ
              have HST := HT
              have HSZ := HSZ2
              clear HT HSZ2
              refine wpAnyT_ready (rs := [15]) (by kernel_rfl) (by simp) ?_
              refine AllT.cons rfl (fun K hK => ?_) ?_
              · refine step_append_i rfl (.tmp 40) (.tmp 42) rfl (w.heap.size + 3) v1 xs1.length xs1 rfl HST.out.o1 HST.out.sz gi 1 (q : Int) rfl HBI.out.c (by omega) ?_
                intro vb w8 hob hgb
                obtain ⟨Ab, cc, rfl, _, _⟩ := own_form hob
                have HT := Lib.hid (SJ.app1 HST.out HNE1.out (by omega) hob hgb)
                have HSZ2 := Lib.hid (Nat.le_trans HSZ.out hgb.size)
                refine hK.out _ _ (fun _ => HT.out.cf) ?_
                clear hK K hob hgb HST HSZ HBI HGI
                have HST := HT
                have HSZ := HSZ2
                clear HT HSZ2
                try simp only [Act.put, List.setIfInBounds_toArray, List.set_cons_zero, List.set_cons_succ]
                have f0 := (show World.frozen? _ ⟨w.heap.size + 1 + 1, 0, none⟩ = false from HST.out.cf.f0)
                have f1 := (show World.frozen? _ ⟨w.heap.size + 1 + 1, 1, none⟩ = false from HST.out.cf.f1)
                have e0 := (show World.cell? _ ⟨w.heap.size + 1 + 1, 0, none⟩ = some v0 from HST.out.cf.c0)
                have e1 := (show World.cell? _ ⟨w.heap.size + 1 + 1, 1, none⟩ = some v1 from HST.out.cf.c1)
                refine wpAnyT_take (i := 16) (v := _) rfl (by kernel_rfl) (by kernel_rfl) (by kernel_rfl) (by kernel_rfl) (fun _ _ _ h => h) (fun _ => HST.out.cf) (Or.inl ⟨by rfl, by (intro w3; go_simp; try with_reducible rfl)⟩) ?_
                try simp only [Act.put, List.setIfInBounds_toArray, List.set_cons_zero, List.set_cons_succ]
                refine wpAnyT_take (i := 17) (v := _) rfl (by kernel_rfl) (by kernel_rfl) (by kernel_rfl) (by kernel_rfl) (fun _ _ _ h => h) (fun _ => HST.out.cf) (Or.inl ⟨by rfl, by (intro w3; go_simp; try with_reducible rfl)⟩) ?_
                try simp only [Act.put, List.setIfInBounds_toArray, List.set_cons_zero, List.set_cons_succ]
                refine wpAnyT_ready (rs := [18]) (by kernel_rfl) (by simp) ?_
                refine AllT.cons rfl (fun K hK => ?_) AllT.nil
                go_simp
                refine hK.out _ _ (fun h => absurd h (by simp [noSt])) ?_
                clear hK K
                refine wpAnyT_take (i := 19) (v := _) rfl (by kernel_rfl) (by kernel_rfl) (by kernel_rfl) (by kernel_rfl) (fun _ _ _ h => h) (fun h => absurd h (by simp [noSt])) (Or.inl ⟨by rfl, by (intro w3; go_simp; try with_reducible rfl)⟩) ?_
                try simp only [Act.put, List.setIfInBounds_toArray, List.set_cons_zero, List.set_cons_succ]
                refine wpAnyT_take (i := 20) (v := _) rfl (by kernel_rfl) (by kernel_rfl) (by kernel_rfl) (by kernel_rfl) (fun _ _ _ h => h) (fun h => absurd h (by simp [noSt])) (Or.inl ⟨by rfl, by (intro w3; go_simp; try with_reducible rfl)⟩) ?_
                try simp only [Act.put, List.setIfInBounds_toArray, List.set_cons_zero, List.set_cons_succ]
                refine wpAnyT_ready (rs := [21]) (by kernel_rfl) (by simp) ?_
                refine AllT.cons rfl (fun K hK => ?_) AllT.nil
                go_simp
                refine hK.out _ _ (fun h => absurd h (by simp [noSt])) ?_
                clear hK K
                refine wpAnyT_done (by kernel_rfl) ?_ _
                clear f0 f1 e0 e1
                go_wp2_with fail
                go_meet
                case rel => exact ⟨rfl, _, _, by rw [hac.out, hat.out, ho2.out, if_pos rfl, if_pos rfl]; exact (HJ2.out).fin (na := 0) (by simpa [flat_snoc] using HST.out)⟩
              exact AllT.nil
            exact AllT.nil
          refine AllT.cons rfl (fun K hK => ?_) ?_
          · go_simp
            have HT := Lib.hid (HST.out.alloc (.cells #[.int .i64 (q : Int)] tI))
            have HBI := Lib.hid (bx1_new w5 (q : Int))
            obtain ⟨gi, hgi⟩ : ∃ gi, gi = w5.heap.size := ⟨_, rfl⟩
            have HGI := Lib.hid (show w4.heap.size ≤ gi by rw [hgi]; exact HSZ.out)
            have HSZ2 := Lib.hid (Nat.le_trans HSZ.out (bl_a (w := w5) (.cells #[.int .i64 (q : Int)] tI)).size)
            have HBX2 := Lib.hid (HBX.out.alloc (.cells #[.int .i64 (q : Int)] tI))
            rw [← hgi] at HBI ⊢
            refine hK.out _ _ (fun _ => HT.out.cf) ?_
            clear hK K hgi
            generalize w5.alloc (.cells #[.int .i64 (q : Int)] tI) = w6 at HT HBI HSZ2 HBX2 ⊢
            clear HST HSZ HBX
            have HST := HT
            have HSZ := HSZ2
            have HBX := HBX2
            clear HT HSZ2 HBX2
            refine wpAnyT_ready (rs := [8]) (by kernel_rfl) (by simp) ?_
            refine AllT.cons rfl (fun K hK => ?_) ?_
            · refine step_append_flat rfl (.tmp 33) (.tmp 35) rfl (w.heap.size + 3) v0 xs0.length (flat xs0) rfl HST.out.o0 HST.out.sz gx 1 r rfl HBX.out.c (by omega) ?_
              intro va w7 hoa hga
              obtain ⟨Aa, ca, rfl, _, _⟩ := own_form hoa
              have HT := Lib.hid (SJ.app0 HST.out HNE0.out (by omega) hoa hga)
              have HSZ2 := Lib.hid (Nat.le_trans HSZ.out hga.size)
              have HBI2 := Lib.hid (HBI.out.grown hga (HN0.out gi HGI.out))
              refine hK.out _ _ (fun _ => HT.out.cf) ?_
              clear hK K hoa hga HST HSZ HBX HGX HBI
              have HST := HT
              have HSZ := HSZ2
              have HBI := HBI2
              clear HT HSZ2 HBI2
              try simp only [Act.put, List.setIfInBounds_toArray, List.set_cons_zero, List.set_cons_succ]
              refine wpAnyT_ready (rs := [15]) (by kernel_rfl) (by simp) ?_
              refine AllT.cons rfl (fun K hK => ?_) ?_
              · refine step_append_i rfl (.tmp 40) (.tmp 42) rfl (w.heap.size + 3) v1 xs1.length xs1 rfl HST.out.o1 HST.out.sz gi 1 (q : Int) rfl HBI.out.c (by omega) ?_
                intro vb w8 hob hgb
                obtain ⟨Ab, cc, rfl, _, _⟩ := own_form hob
                have HT := Lib.hid (SJ.app1 HST.out HNE1.out (by omega) hob hgb)
                have HSZ2 := Lib.hid (Nat.le_trans HSZ.out hgb.size)
                refine hK.out _ _ (fun _ => HT.out.cf) ?_
                clear hK K hob hgb HST HSZ HBI HGI
                have HST := HT
                have HSZ := HSZ2
                clear HT HSZ2
                try simp only [Act.put, List.setIfInBounds_toArray, List.set_cons_zero, List.set_cons_succ]
                have f0 := (show World.frozen? _ ⟨w.heap.size + 1 + 1, 0, none⟩ = false from HST.out.cf.f0)
                have f1 := (show World.frozen? _ ⟨w.heap.size + 1 + 1, 1, none⟩ = false from HST.out.cf.f1)
                have e0 := (show World.cell? _ ⟨w.heap.size + 1 + 1, 0, none⟩ = some v0 from HST.out.cf.c0)
                have e1 := (show World.cell? _ ⟨w.heap.size + 1 + 1, 1, none⟩ = some v1 from HST.out.cf.c1)
                refine wpAnyT_take (i := 16) (v := _) rfl (by kernel_rfl) (by kernel_rfl) (by kernel_rfl) (by kernel_rfl) (fun _ _ _ h => h) (fun _ => HST.out.cf) (Or.inl ⟨by rfl, by (intro w3; go_simp; try with_reducible rfl)⟩) ?_
                try simp only [Act.put, List.setIfInBounds_toArray, List.set_cons_zero, List.set_cons_succ]
                refine wpAnyT_take (i := 17) (v := _) rfl (by kernel_rfl) (by kernel_rfl) (by kernel_rfl) (by kernel_rfl) (fun _ _ _ h => h) (fun _ => HST.out.cf) (Or.inl ⟨by rfl, by (intro w3; go_simp; try with_reducible rfl)⟩) ?_
                try simp only [Act.put, List.setIfInBounds_toArray, List.set_cons_zero, List.set_cons_succ]
                refine wpAnyT_ready (rs := [18]) (by kernel_rfl) (by simp) ?_
                refine AllT.cons rfl (fun K hK => ?_) AllT.nil
                go_simp
                refine hK.out _ _ (fun h => absurd h (by simp [noSt])) ?_
                clear hK K
                refine wpAnyT_take (i := 19) (v := _) rfl (by kernel_rfl) (by kernel_rfl) (by kernel_rfl) (by kernel_rfl) (fun _ _ _ h => h) (fun h => absurd h (by simp [noSt])) (Or.inl ⟨by rfl, by (intro w3; go_simp; try with_reducible rfl)⟩) ?_
                try simp only [Act.put, List.setIfInBounds_toArray, List.set_cons_zero, List.set_cons_succ]
                refine wpAnyT_take (i := 20) (v := _) rfl (by kernel_rfl) (by kernel_rfl) (by kernel_rfl) (by kernel_rfl) (fun _ _ _ h => h) (fun h => absurd h (by simp [noSt])) (Or.inl ⟨by rfl, by (intro w3; go_simp; try with_reducible rfl)⟩) ?_
                try simp only [Act.put, List.setIfInBounds_toArray, List.set_cons_zero, List.set_cons_succ]
                refine wpAnyT_ready (rs := [21]) (by kernel_rfl) (by simp) ?_
                refine AllT.cons rfl (fun K hK => ?_) AllT.nil
                go_simp
                refine hK.out _ _ (fun h => absurd h (by simp [noSt])) ?_
                clear hK K
                refine wpAnyT_done (by kernel_rfl) ?_ _
                clear f0 f1 e0 e1
                go_wp2_with fail
                go_meet
                case rel => exact ⟨rfl, _, _, by rw [hac.out, hat.out, ho2.out, if_pos rfl, if_pos rfl]; exact (HJ2.out).fin (na := 0) (by simpa [flat_snoc] using HST.out)⟩
              exact AllT.nil
            exact AllT.nil
          exact AllT.nil
        refine AllT.cons rfl (fun K hK => ?_) ?_
        · go_simp
          have HT := Lib.hid (HST.out.alloc (.cells #[.int .i64 (q : Int)] tI))
          have HBI := Lib.hid (bx1_new w4 (q : Int))
          obtain ⟨gi, hgi⟩ : ∃ gi, gi = w4.heap.size := ⟨_, rfl⟩
          have HGI := Lib.hid (show w4.heap.size ≤ gi by rw [hgi]; exact HSZ.out)
          have HSZ2 := Lib.hid (Nat.le_trans HSZ.out (bl_a (w := w4) (.cells #[.int .i64 (q : Int)] tI)).size)
          rw [← hgi] at HBI ⊢
          refine hK.out _ _ (fun _ => HT.out.cf) ?_
          clear hK K hgi
          generalize w4.alloc (.cells #[.int .i64 (q : Int)] tI) = w5 at HT HBI HSZ2 ⊢
          clear HST HSZ
          have HST := HT
          have HSZ := HSZ2
          clear HT HSZ2
          refine wpAnyT_ready (rs := [7]) (by kernel_rfl) (by simp) ?_
          refine AllT.cons rfl (fun K hK => ?_) ?_
          · go_simp
            have HT := Lib.hid (HST.out.alloc (.cells #[.int .i64 r.hd, .slice r.A r.n r.c, .int .i64 r.fr, .int .i64 r.tt, .int .i64 r.rk] tR))
            have HBX := Lib.hid (bx5_new w5 r)
            obtain ⟨gx, hgx⟩ : ∃ gx, gx = w5.heap.size := ⟨_, rfl⟩
            have HGX := Lib.hid (show w4.heap.size ≤ gx by rw [hgx]; exact HSZ.out)
            have HSZ2 := Lib.hid (Nat.le_trans HSZ.out (bl_a (w := w5) (.cells #[.int .i64 r.hd, .slice r.A r.n r.c, .int .i64 r.fr, .int .i64 r.tt, .int .i64 r.rk] tR)).size)
            have HBI2 := Lib.hid (HBI.out.alloc (.cells #[.int .i64 r.hd, .slice r.A r.n r.c, .int .i64 r.fr, .int .i64 r.tt, .int .i64 r.rk] tR))
            rw [← hgx] at HBX ⊢
            refine hK.out _ _ (fun _ => HT.out.cf) ?_
            clear hK K hgx
            generalize w5.alloc (.cells #[.int .i64 r.hd, .slice r.A r.n r.c, .int .i64 r.fr, .int .i64 r.tt, .int .i64 r.rk] tR) = w6 at HT HBX HSZ2 HBI2 ⊢
            clear HST HSZ HBI
            have HST := HT
            have HSZ := HSZ2
            have HBI := HBI2
            clear HT HSZ2 HBI2
            refine wpAnyT_ready (rs := [8]) (by kernel_rfl) (by simp) ?_
            refine AllT.cons rfl (fun K hK => ?_) ?_
            · refine step_append_flat rfl (.tmp 33) (.tmp 35) rfl (w.heap.size + 3) v0 xs0.length (flat xs0) rfl HST.out.o0 HST.out.sz gx 1 r rfl HBX.out.c (by omega) ?_
              intro va w7 hoa hga
              obtain ⟨Aa, ca, rfl, _, _⟩ := own_form hoa
              have HT := Lib.hid (SJ.app0 HST.out HNE0.out (by omega) hoa hga)
              have HSZ2 := Lib.hid (Nat.le_trans HSZ.out hga.size)
              have HBI2 := Lib.hid (HBI.out.grown hga (HN0.out gi HGI.out))
              refine hK.out _ _ (fun _ => HT.out.cf) ?_
              clear hK K hoa hga HST HSZ HBX HGX HBI
              have HST := HT
              have HSZ := HSZ2
              have HBI := HBI2
              clear HT HSZ2 HBI2
              try simp only [Act.put, List.setIfInBounds_toArray, List.set_cons_zero, List.set_cons_succ]
              refine wpAnyT_ready (rs := [15]) (by kernel_rfl) (by simp) ?_
              refine AllT.cons rfl (fun K hK => ?_) ?_
              · refine step_append_i rfl (.tmp 40) (.tmp 42) rfl (w.heap.size + 3) v1 xs1.length xs1 rfl HST.out.o1 HST.out.sz gi 1 (q : Int) rfl HBI.out.c (by omega) ?_
                intro vb w8 hob hgb
                obtain ⟨Ab, cc, rfl, _, _⟩ := own_form hob
                have HT := Lib.hid (SJ.app1 HST.out HNE1.out (by omega) hob hgb)
                have HSZ2 := Lib.hid (Nat.le_trans HSZ.out hgb.size)
                refine hK.out _ _ (fun _ => HT.out.cf) ?_
                clear hK K hob hgb HST HSZ HBI HGI
                have HST := HT
                have HSZ := HSZ2
                clear HT HSZ2
                try simp only [Act.put, List.setIfInBounds_toArray, List.set_cons_zero, List.set_cons_succ]
                have f0 := (show World.frozen? _ ⟨w.heap.size + 1 + 1, 0, none⟩ = false from HST.out.cf.f0)
                have f1 := (show World.frozen? _ ⟨w.heap.size + 1 + 1, 1, none⟩ = false from HST.out.cf.f1)
                have e0 := (show World.cell? _ ⟨w.heap.size + 1 + 1, 0, none⟩ = some v0 from HST.out.cf.c0)
                have e1 := (show World.cell? _ ⟨w.heap.size + 1 + 1, 1, none⟩ = some v1 from HST.out.cf.c1)
                refine wpAnyT_take (i := 16) (v := _) rfl (by kernel_rfl) (by kernel_rfl) (by kernel_rfl) (by kernel_rfl) (fun _ _ _ h => h) (fun _ => HST.out.cf) (Or.inl ⟨by rfl, by (intro w3; go_simp; try with_reducible rfl)⟩) ?_
                try simp only [Act.put, List.setIfInBounds_toArray, List.set_cons_zero, List.set_cons_succ]
                refine wpAnyT_take (i := 17) (v := _) rfl (by kernel_rfl) (by kernel_rfl) (by kernel_rfl) (by kernel_rfl) (fun _ _ _ h => h) (fun _ => HST.out.cf) (Or.inl ⟨by rfl, by (intro w3; go_simp; try with_reducible rfl)⟩) ?_
                try simp only [Act.put, List.setIfInBounds_toArray, List.set_cons_zero, List.set_cons_succ]
                refine wpAnyT_ready (rs := [18]) (by kernel_rfl) (by simp) ?_
                refine AllT.cons rfl (fun K hK => ?_) AllT.nil
                go_simp
                refine hK.out _ _ (fun h => absurd h (by simp [noSt])) ?_
                clear hK K
                refine wpAnyT_take (i := 19) (v := _) rfl (by kernel_rfl) (by kernel_rfl) (by kernel_rfl) (by kernel_rfl) (fun _ _ _ h => h) (fun h => absurd h (by simp [noSt])) (Or.inl ⟨by rfl, by (intro w3; go_simp; try with_reducible rfl)⟩) ?_
                try simp only [Act.put, List.setIfInBounds_toArray, List.set_cons_zero, List.set_cons_succ]
                refine wpAnyT_take (i := 20) (v := _) rfl (by kernel_rfl) (by kernel_rfl) (by kernel_rfl) (by kernel_rfl) (fun _ _ _ h => h) (fun h => absurd h (by simp [noSt])) (Or.inl ⟨by rfl, by (intro w3; go_simp; try with_reducible rfl)⟩) ?_
                try simp only [Act.put, List.setIfInBounds_toArray, List.set_cons_zero, List.set_cons_succ]
                refine wpAnyT_ready (rs := [21]) (by kernel_rfl) (by simp) ?_
                refine AllT.cons rfl (fun K hK => ?_) AllT.nil
                go_simp
                refine hK.out _ _ (fun h => absurd h (by simp [noSt])) ?_
                clear hK K
                refine wpAnyT_done (by kernel_rfl) ?_ _
                clear f0 f1 e0 e1
                go_wp2_with fail
                go_meet
                case rel => exact ⟨rfl, _, _, by rw [hac.out, hat.out, ho2.out, if_pos rfl, if_pos rfl]; exact (HJ2.out).fin (na := 0) (by simpa [flat_snoc] using HST.out)⟩
              exact AllT.nil
            exact AllT.nil
          exact AllT.nil
        exact AllT.nil
    · obtain rfl : m = q := by omega
      have hR2 := Lib.hid (hr.below hJ.be)
      have HFB := Lib.hid hf
      have hml := HLEN.out
      rw [List.take_of_length_le (by omega)] at hJ
      have hinn : ∀ r ∈ actR rs day, Rd wr wr.heap.size 1 r.A r.n (ints r.ifs) := fun r h => (hR2.out.2 r (List.mem_filter.1 h).1).more hJ.be.size
      have hRN : RuN (actR rs day) := fun r h => HRN.out r (List.mem_filter.1 h).1
      have hal := actR_len rs day
      obtain ⟨A2, c2, I, ci, rfl, rfl, hJd⟩ := hJ.done (fs := fs) hinn hRN (by omega) hf hk
      have hdat : (actR rs day).map Ru.dat = (rs.map Ru.dat).filter fun d => onB d day := actR_all rs day
      have HDAT := Lib.hid hdat
      obtain ⟨rs2, hrs2⟩ : ∃ rs2, rs2 = actR rs day := ⟨_, rfl⟩
      obtain ⟨zs, hzs⟩ : ∃ zs, zs = actTo (rs.map Ru.dat) day m := ⟨_, rfl⟩
      rw [← hrs2] at hJd HDAT
      rw [← hzs] at hJd
      have HJd := Lib.hid hJd
      have HRS := Lib.hid hrs2
      have HZS := Lib.hid hzs
      clear hr hf hinn hRN hal hJd hJ hdat hrs2 hzs hml hR2
      go_wp2_with fail
      go_loopg [10, 12] (2 * (64 - (cntB (fun _ => false) + cntB (fun _ => false))) + 1) (fun g v10 _ wx => ∃ (b : Bool) (y n : Int → Bool), v10 = .bool b ∧ Jd w wx A2 rs2.length c2 B k d rs2 fs I ci zs y n ∧ (b = false → Closed fs (rs2.map Ru.dat) y n) ∧ 2 * (64 - (cntB y + cntB n)) + b.toNat ≤ g)
      case atStart => exact ⟨true, _, _, rfl, HJd.out, fun h => (by cases h), Nat.le_refl _⟩
      case round =>
        clear HJd
        obtain ⟨b, y0, n0, rfl, hAn, hcl, hg⟩ := hrel
        cases b
        case false =>
          have hfin := sound_closed hAn.so (hcl rfl)
          have HFIN := Lib.hid (show Jd w wr A2 rs2.length c2 B k d rs2 fs I ci zs (lfpY fs (rs2.map Ru.dat)) (lfpN fs (rs2.map Ru.dat)) by rw [← hfin.1, ← hfin.2]; exact hAn)
          clear hfin hAn hcl hg
          go_wp2_with fail
          go_ret
          have hact := actTo_len2 rs day m (by have := HLEN.out; omega)
          rw [List.take_of_length_le (by have := HLEN.out; omega), ← HRS.out, ← HZS.out] at hact
          exact ⟨w.heap.size + 2, A2, rs2.length, c2, w.heap.size, w.heap.size + 1, rs2, I, ci, rfl, HFIN.out.co, HDAT.out, by omega, HFIN.out.be, by rw [← hact]; exact HFIN.out.ix, by rw [← hact, ← HZS.out]; exact HFIN.out.ir⟩
        have HG := Lib.hid hg
        have HA0 := Lib.hid hAn
        clear hAn hcl hg
        go_wp2_with fail
        refine (words_is _).mono ?_
        rintro e w3 ⟨vD, rfl, hown, hbw⟩
        obtain ⟨D, cD, rfl, _⟩ := own_form hown
        have HP0 := Lib.hid (show JdP w w3 A2 rs2.length c2 B k d rs2 fs I ci zs D y0 n0 false 0 y0 n0 from ⟨HA0.out.on hbw, Rd.of_own hown, fun _ => ⟨rfl, rfl, steps_zero⟩, fun h => (by cases h)⟩)
        clear hown hbw HA0
        go_wp2_with fail
        go_loopw [10, 12, 52] (fun v10 _ i wx => ∃ (p : Nat) (b : Bool) (y n : Int → Bool), p ≤ 32 ∧ i = .int .i64 p ∧ v10 = .bool b ∧ JdP w wx A2 rs2.length c2 B k d rs2 fs I ci zs D y0 n0 b p y n) (fun _ _ i _ => 32 - (intOf i).toNat)
        case atStart => exact ⟨0, false, y0, n0, by omega, rfl, rfl, HP0.out⟩
        case round =>
          clear HP0
          obtain ⟨p, b, y, n, hp, rfl, rfl, hP⟩ := hrel
          by_cases hlp : p < 32
          · obtain ⟨x, hxp, hwx⟩ := wordList_at hlp
            obtain ⟨ad, hD, hc⟩ := hP.wd.int hlp
            subst hD
            rw [hxp] at hc
            simp only [Option.getD_some] at hc
            have hxb := wordB_iff.1 hwx
            have HX6 := Lib.hid (show I64b x from ⟨by omega, by omega⟩)
            have HWX := Lib.hid hwx
            have HXP := Lib.hid hxp
            have i1 : (0 : Int) ≤ p := by omega
            have i2 : (p : Int) < 32 := by omega
            have HPA := Lib.hid hP
            clear hP hwx hxp
            have c3 := (show World.cell? _ ⟨w.heap.size + 1 + 1, 3, none⟩ = some (.map (some w.heap.size)) from HPA.out.jd.co.c3)
            have ly := HPA.out.jd.co.my.look HX6.out
            rcases Bool.eq_false_or_eq_true (y x) with ty | ty
            case inl =>
              have HY := Lib.hid (show stepY fs (rs2.map Ru.dat) y n x = true → y x = true from fun _ => ty)
              rw [ty] at ly
              clear ty
              have HPB := HPA
              have d3 := (show World.cell? _ ⟨w.heap.size + 1 + 1, 4, none⟩ = some (.map (some (w.heap.size + 1))) from HPB.out.jd.co.c4)
              have ln := HPB.out.jd.co.mn.look HX6.out
              rcases Bool.eq_false_or_eq_true (n x) with tn | tn
              case inl =>
                have HN := Lib.hid (show stepN fs (rs2.map Ru.dat) (y) n x = true → n x = true from fun _ => tn)
                rw [tn] at ln
                clear tn
                go_wp2_with fail
                go_roundw
                case rel => exact ⟨p + 1, _, _, _, by omega, by go_num, rfl, HPB.out.skip HXP.out HY.out HN.out⟩
                case measure => simp [intOf]; omega
              case inr =>
              rcases Bool.eq_false_or_eq_true (stepN fs (rs2.map Ru.dat) (y) n x) with tq | tq
              case inr =>
                have HN := Lib.hid (show stepN fs (rs2.map Ru.dat) (y) n x = true → n x = true from fun h => by rw [tq] at h; cases h)
                rw [tn] at ln
                have HQ := Lib.hid tq
                clear tn tq
                go_wp2_with fail
                refine (disproves_is x _ HPB.out.jd.co HWX.out HQ.out).mono ?_
                rintro e w' ⟨rfl, hb⟩
                go_wp2_with fail
                go_roundw
                case rel => exact ⟨p + 1, _, _, _, by omega, by go_num, rfl, (HPB.out.skip HXP.out HY.out HN.out).on hb⟩
                case measure => simp [intOf]; omega
              case inl =>
                have HN := Lib.hid tn
                rw [tn] at ln
                have HQ := Lib.hid tq
                clear tn tq
                go_wp2_with fail
                refine (disproves_is x _ HPB.out.jd.co HWX.out HQ.out).mono ?_
                rintro e w' ⟨rfl, hb⟩
                have HPC := Lib.hid (HPB.out.on hb)
                clear ln d3 hb HPB
                have d3 := (show World.cell? _ ⟨w.heap.size + 1 + 1, 4, none⟩ = some (.map (some (w.heap.size + 1))) from HPC.out.jd.co.c4)
                obtain ⟨ve, se, w6a, w6, hrun1, hrun2, hM, hg⟩ := HPC.out.jd.co.mn.entry HWX.out
                have HPD := Lib.hid (JdP.up (q := p + 1) (HPC.out.putN HWX.out HN.out HQ.out hM hg))
                clear hM hg HPC
                go_wp2_with fail
                go_roundw
                case rel => exact ⟨p + 1, _, _, _, by omega, by go_num, rfl, HPD.out⟩
                case measure => simp [intOf]; omega
            case inr =>
            rcases Bool.eq_false_or_eq_true (stepY fs (rs2.map Ru.dat) y n x) with tp | tp
            case inr =>
              have HY := Lib.hid (show stepY fs (rs2.map Ru.dat) y n x = true → y x = true from fun h => by rw [tp] at h; cases h)
              rw [ty] at ly
              have HQ := Lib.hid tp
              clear ty tp
              go_wp2_with fail
              refine (proves_is x _ HPA.out.jd.co HWX.out HQ.out).mono ?_
              rintro e w' ⟨rfl, hb⟩
              have HPB := Lib.hid (HPA.out.on hb)
              clear ly c3 hb HPA HQ hc
              have d3 := (show World.cell? _ ⟨w.heap.size + 1 + 1, 4, none⟩ = some (.map (some (w.heap.size + 1))) from HPB.out.jd.co.c4)
              have ln := HPB.out.jd.co.mn.look HX6.out
              rcases Bool.eq_false_or_eq_true (n x) with tn | tn
              case inl =>
                have HN := Lib.hid (show stepN fs (rs2.map Ru.dat) (y) n x = true → n x = true from fun _ => tn)
                rw [tn] at ln
                clear tn
                go_wp2_with fail
                go_roundw
                case rel => exact ⟨p + 1, _, _, _, by omega, by go_num, rfl, HPB.out.skip HXP.out HY.out HN.out⟩
                case measure => simp [intOf]; omega
              case inr =>
              rcases Bool.eq_false_or_eq_true (stepN fs (rs2.map Ru.dat) (y) n x) with tq | tq
              case inr =>
                have HN := Lib.hid (show stepN fs (rs2.map Ru.dat) (y) n x = true → n x = true from fun h => by rw [tq] at h; cases h)
                rw [tn] at ln
                have HQ := Lib.hid tq
                clear tn tq
                go_wp2_with fail
                refine (disproves_is x _ HPB.out.jd.co HWX.out HQ.out).mono ?_
                rintro e w' ⟨rfl, hb⟩
                go_wp2_with fail
                go_roundw
                case rel => exact ⟨p + 1, _, _, _, by omega, by go_num, rfl, (HPB.out.skip HXP.out HY.out HN.out).on hb⟩
                case measure => simp [intOf]; omega
              case inl =>
                have HN := Lib.hid tn
                rw [tn] at ln
                have HQ := Lib.hid tq
                clear tn tq
                go_wp2_with fail
                refine (disproves_is x _ HPB.out.jd.co HWX.out HQ.out).mono ?_
                rintro e w' ⟨rfl, hb⟩
                have HPC := Lib.hid (HPB.out.on hb)
                clear ln d3 hb HPB
                have d3 := (show World.cell? _ ⟨w.heap.size + 1 + 1, 4, none⟩ = some (.map (some (w.heap.size + 1))) from HPC.out.jd.co.c4)
                obtain ⟨ve, se, w6a, w6, hrun1, hrun2, hM, hg⟩ := HPC.out.jd.co.mn.entry HWX.out
                have HPD := Lib.hid (JdP.up (q := p + 1) (HPC.out.putN HWX.out HN.out HQ.out hM hg))
                clear hM hg HPC
                go_wp2_with fail
                go_roundw
                case rel => exact ⟨p + 1, _, _, _, by omega, by go_num, rfl, HPD.out⟩
                case measure => simp [intOf]; omega
            case inl =>
              have HYF := Lib.hid ty
              have HY := Lib.hid tp
              rw [ty] at ly
              clear ty tp
              go_wp2_with fail
              refine (proves_is x _ HPA.out.jd.co HWX.out HY.out).mono ?_
              rintro e w' ⟨rfl, hb⟩
              have HPC := Lib.hid (HPA.out.on hb)
              clear ly c3 hb HPA hc
              have c3 := (show World.cell? _ ⟨w.heap.size + 1 + 1, 3, none⟩ = some (.map (some w.heap.size)) from HPC.out.jd.co.c3)
              obtain ⟨ve, se, w5a, w5, hrun1, hrun2, hM, hg⟩ := HPC.out.jd.co.my.entry HWX.out
              have HPB := Lib.hid (HPC.out.putY HWX.out HYF.out HY.out hM hg)
              clear hM hg HPC
              have d3 := (show World.cell? _ ⟨w.heap.size + 1 + 1, 4, none⟩ = some (.map (some (w.heap.size + 1))) from HPB.out.jd.co.c4)
              have ln := HPB.out.jd.co.mn.look HX6.out
              rcases Bool.eq_false_or_eq_true (n x) with tn | tn
              case inl =>
                have HN := Lib.hid (show stepN fs (rs2.map Ru.dat) (putB y x) n x = true → n x = true from fun _ => tn)
                rw [tn] at ln
                clear tn
                go_wp2_with fail
                go_roundw
                case rel => exact ⟨p + 1, _, _, _, by omega, by go_num, rfl, HPB.out.up⟩
                case measure => simp [intOf]; omega
              case inr =>
              rcases Bool.eq_false_or_eq_true (stepN fs (rs2.map Ru.dat) (putB y x) n x) with tq | tq
              case inr =>
                have HN := Lib.hid (show stepN fs (rs2.map Ru.dat) (putB y x) n x = true → n x = true from fun h => by rw [tq] at h; cases h)
                rw [tn] at ln
                have HQ := Lib.hid tq
                clear tn tq
                go_wp2_with fail
                refine (disproves_is x _ HPB.out.jd.co HWX.out HQ.out).mono ?_
                rintro e w' ⟨rfl, hb⟩
                go_wp2_with fail
                go_roundw
                case rel => exact ⟨p + 1, _, _, _, by omega, by go_num, rfl, (HPB.out.up).on hb⟩
                case measure => simp [intOf]; omega
              case inl =>
                have HN := Lib.hid tn
                rw [tn] at ln
                have HQ := Lib.hid tq
                clear tn tq
                go_wp2_with fail
                refine (disproves_is x _ HPB.out.jd.co HWX.out HQ.out).mono ?_
                rintro e w' ⟨rfl, hb⟩
                have HPC := Lib.hid (HPB.out.on hb)
                clear ln d3 hb HPB
                have d3 := (show World.cell? _ ⟨w.heap.size + 1 + 1, 4, none⟩ = some (.map (some (w.heap.size + 1))) from HPC.out.jd.co.c4)
                obtain ⟨ve, se, w6a, w6, hrun1, hrun2, hM, hg⟩ := HPC.out.jd.co.mn.entry HWX.out
                have HPD := Lib.hid (JdP.up (q := p + 1) (HPC.out.putN HWX.out HN.out HQ.out hM hg))
                clear hM hg HPC
                go_wp2_with fail
                go_roundw
                case rel => exact ⟨p + 1, _, _, _, by omega, by go_num, rfl, HPD.out⟩
                case measure => simp [intOf]; omega
          · obtain rfl : p = 32 := by omega
            have HPE := Lib.hid hP
            clear hP
            go_wp2_with fail
            go_roundg (2 * (64 - (cntB y + cntB n)) + b.toNat)
            case rel => exact ⟨b, y, n, rfl, HPE.out.jd, fun hb => by obtain ⟨e1, e2, e3⟩ := HPE.out.f hb; subst e1 e2; exact steps_all e3, Nat.le_refl _⟩
            case measure =>
              have h1 := HG.out
              have h2 := cnt_le y
              have h3 := cnt_le n
              cases b
              · obtain ⟨e1, e2, _⟩ := HPE.out.f rfl
                subst e1 e2
                simp at h1 ⊢; omega
              · have := HPE.out.t rfl
                simp at h1 ⊢; omega
end Go.Proofs.Ytmfglflahlddbaa
