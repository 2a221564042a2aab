/-
  THE COURT's QUESTIONS: some, every; proves, disproves.
-/
import Derived.Test.YtmfglflahlddbaaCourtF
namespace Go.Proofs.Ytmfglflahlddbaa
open Go.ChangeShapes Go.WideShapes Go.ChangeAt Go.RowKit
set_option linter.unusedVariables false
set_option linter.unusedSimpArgs false

section
variable {cb : Nat} {A : Option Addr} {m c : Nat} {B : Option Addr} {k d : Nat} {bp bn : Nat} {rs : List Ru} {fs : List Int} {y n : Int → Bool}
set_option maxHeartbeats 1600000 in
theorem index_some (x : Int) (p : Rl → Bool) (g : FuncId) (first cap : Array Value) (g1 g2 : Nat) (w : World) (hr : RRd w w.heap.size A m rs) (hm : m ≤ 1048576) (hB : RuN rs) (hP : PredF w g first cap p)
    (h1 : w.cell? ⟨g1, 0, none⟩ = some (.int .i64 x)) (l1 : g1 < w.heap.size) (h2 : w.cell? ⟨g2, 0, none⟩ = some (.func (.func g) first cap)) (l2 : g2 < w.heap.size) :
    Calls Try.prog 58 #[.slice A m c, .func (.func 72) #[] #[.pointer (some ⟨g1, 0, none⟩), .pointer (some ⟨g2, 0, none⟩)]] w fun e w' =>
      e = .returned (.int .i64 (findI (fun r : Ru => (r.hd == x) && p r.dat) rs)) ∧ Below w.heap.size w w' := by
  have HL := Lib.hid hr.len
  have HN := Lib.hid hB
  have HP := Lib.hid hP
  have H1 := Lib.hid h1
  have H2 := Lib.hid h2
  clear hB hP h1 h2
  go_enter Try.func58, Try.ntmps58
  go_wp2
  go_loopw [5, 8] (fun _ i wr => ∃ k : Nat, k ≤ m ∧ i = .int .i64 k ∧ (rs.take k).any (fun r : Ru => (r.hd == x) && p r.dat) = false ∧ Below w.heap.size w wr) (fun _ i _ => m - (intOf i).toNat)
  case atStart => exact ⟨0, Nat.zero_le _, rfl, rfl, Below.refl _ _⟩
  case round =>
    obtain ⟨k, hk, rfl, ha, hb⟩ := hrel
    have HA := Lib.hid ha
    clear ha
    by_cases hlt : k < m
    · obtain ⟨ad, r, rfl, _, hrk, hc0, hc1, hc2, hc3, hc4, hri⟩ := (hr.below hb).row hlt
      obtain ⟨q1, q2⟩ := HN.out r (List.mem_of_getElem? hrk)
      have HRI := Lib.hid (hri.more hb.size)
      have HZ := Lib.hid q2
      have HK := Lib.hid hrk
      have HB := Lib.hid hb
      have hkl : k < rs.length := (List.getElem?_eq_some_iff.1 hrk).1
      have htk := Lib.hid (show rs.take (k + 1) = rs.take k ++ [r] by rw [List.take_add_one, hrk]; rfl)
      have hdd := Lib.hid (show rs[k]?.getD r = r by rw [hrk]; rfl)
      have HKL := Lib.hid hkl
      have HSZ := Lib.hid hb.size
      have S1 := Lib.hid (some1_is r x p g first cap g1 g2 wr (HP.out.on hb) ((hb.cell (p := ⟨g1, 0, none⟩) l1).trans H1.out) (Nat.lt_of_lt_of_le l1 hb.size) ((hb.cell (p := ⟨g2, 0, none⟩) l2).trans H2.out) (Nat.lt_of_lt_of_le l2 hb.size) HRI.out q1 q2)
      clear hr hri q2 hrk hb hkl
      obtain ⟨hd, fr, tt, rk, Ai, ni, ci, ifs⟩ := r
      dsimp only [aggR] at hc0 hc1 hc2 hc3 hc4 q1 HRI HZ S1
      cases h0 : (fun r : Ru => (r.hd == x) && p r.dat) ⟨hd, fr, tt, rk, Ai, ni, ci, ifs⟩
      · have hfin := Lib.hid (show (rs.take (k + 1)).any (fun r : Ru => (r.hd == x) && p r.dat) = false by
          rw [htk.out, List.any_append, HA.out]; simpa using h0)
        have H0 := Lib.hid (show ((hd == x) && p (Ru.dat ⟨hd, fr, tt, rk, Ai, ni, ci, ifs⟩)) = false from h0)
        clear h0
        go_wp2_with (go_at_call 72; refine S1.out.mono ?_; rintro e w' ⟨rfl, hb2⟩; rw [H0.out])
        go_roundw
        case rel => exact ⟨k + 1, by omega, by go_num, hfin.out, below_step HB.out hb2⟩
        case measure => simp [intOf]; omega
      · have hfin := Lib.hid (findI_hit (p := fun r : Ru => (r.hd == x) && p r.dat) _ HA.out HKL.out (by rw [hdd.out]; exact h0))
        have H0 := Lib.hid (show ((hd == x) && p (Ru.dat ⟨hd, fr, tt, rk, Ai, ni, ci, ifs⟩)) = true from h0)
        clear h0
        go_wp2_with (go_at_call 72; refine S1.out.mono ?_; rintro e w' ⟨rfl, hb2⟩; rw [H0.out])
        go_ret
        exact ⟨by rw [hfin.out]; rfl, below_step HB.out hb2⟩
    · obtain rfl : m = k := by omega
      have hfin := Lib.hid (findI_miss (p := fun r : Ru => (r.hd == x) && p r.dat) (zs := rs) (by have := HA.out; rwa [List.take_of_length_le (by have := HL.out; omega)] at this))
      clear HA hr
      go_wp2
      go_ret
      exact ⟨by rw [hfin.out]; rfl, hb⟩
theorem contains_some {b : Bool} (x : Int) (p : Rl → Bool) (g : FuncId) (first cap : Array Value) (g1 g2 : Nat) (w : World) (hr : RRd w w.heap.size A m rs) (hm : m ≤ 1048576) (hB : RuN rs) (hP : PredF w g first cap p)
    (h1 : w.cell? ⟨g1, 0, none⟩ = some (.int .i64 x)) (l1 : g1 < w.heap.size) (h2 : w.cell? ⟨g2, 0, none⟩ = some (.func (.func g) first cap)) (l2 : g2 < w.heap.size) (h : ((rs.map Ru.dat).any fun r => (r.hd == x) && p r) = b) :
    Calls Try.prog 40 #[.slice A m c, .func (.func 72) #[] #[.pointer (some ⟨g1, 0, none⟩), .pointer (some ⟨g2, 0, none⟩)]] w fun e w' =>
      e = .returned (.bool b) ∧ Below w.heap.size w w' := by
  have hI := Lib.hid (index_some (c := c) x p g first cap g1 g2 w hr hm hB hP h1 l1 h2 l2)
  have hf := Lib.hid (show decide (0 ≤ findI (fun r : Ru => (r.hd == x) && p r.dat) rs) = b by
    rw [findI_nonneg, ← h, List.any_map]; rfl)
  clear hr hB hP h1 h2 h
  go_enter Try.func40, Try.ntmps40
  go_wp2_with (go_at_call 58; refine hI.out.mono ?_; rintro e w' ⟨rfl, hb2⟩)
  go_ret
  exact ⟨ret_bool (by rw [← hf.out]), hb2⟩
theorem some_is {b : Bool} (x : Int) (p : Rl → Bool) (g : FuncId) (first cap : Array Value) (w : World) (hC : Court w cb A m c B k d bp bn rs fs y n) (hP : PredF w g first cap p) (h : ((rs.map Ru.dat).any fun r => (r.hd == x) && p r) = b) :
    Calls Try.prog 60 #[.pointer (some ⟨cb, 0, none⟩), .int .i64 x, .func (.func g) first cap] w fun e w' => e = .returned (.bool b) ∧ Below w.heap.size w w' := by
  have hbb := bl_aa (w := w) (.cells #[.int .i64 x] 2) (.cells #[.func (.func g) first cap] 72)
  have hI := Lib.hid (contains_some (c := c) x p g first cap w.heap.size (w.heap.size + 1) _ (hC.on hbb).rr hC.ml hC.rn (hP.on hbb) (by go_simp) (by simp; omega) (by go_simp) (by simp) h)
  have hc0 := (hC.on hbb).c0
  have HB := Lib.hid hbb
  clear hC hP h hbb
  have hmf := run_makeFn
  go_enter Try.func60, Try.ntmps60
  go_wp2_with fail
  refine hI.out.mono ?_
  rintro e w' ⟨rfl, hb2⟩
  go_wp2_with fail
  go_ret
  exact ⟨rfl, below_step HB.out hb2⟩
theorem every1_P {W : World} (p : Rl → Bool) (g : FuncId) (first cap : Array Value) (g2 : Nat) (hP : PredF W g first cap p) (h2 : W.cell? ⟨g2, 0, none⟩ = some (.func (.func g) first cap)) (l2 : g2 < W.heap.size) :
    PredF W 75 #[] #[.pointer (some ⟨g2, 0, none⟩)] fun d => !p d := by
  refine ⟨enters_body Try.func75 (by kernel_rfl) rfl, fun w r hb hr hn hz => ?_⟩
  show Calls Try.prog 75 #[aggR r, .pointer (some ⟨g2, 0, none⟩)] w _
  have h3 : w.cell? ⟨g2, 0, none⟩ = some (.func (.func g) first cap) := (hb.cell (p := ⟨g2, 0, none⟩) l2).trans h2
  have l3 : g2 < w.heap.size := Nat.lt_of_lt_of_le l2 hb.size
  have HP := Lib.hid (hP.on hb)
  have heg := hP.eg
  have HR := Lib.hid hr
  have HZ := Lib.hid hz
  clear hP hr hz hb h2 l2
  unfold aggR
  go_enter Try.func75, Try.ntmps75
  go_wp2_with fail
  refine (HP.out.is _ r (bl_a _) (HR.out.on (bl_a _)) hn HZ.out).mono ?_
  rintro e w' ⟨rfl, hb⟩
  go_wp2_with fail
  go_ret
  exact ⟨rfl, below_step (bl_a _) hb⟩
theorem every_is {b : Bool} (x : Int) (p : Rl → Bool) (g : FuncId) (first cap : Array Value) (w : World) (hC : Court w cb A m c B k d bp bn rs fs y n) (hP : PredF w g first cap p) (h : (!(rs.map Ru.dat).any fun r => (r.hd == x) && !p r) = b) :
    Calls Try.prog 62 #[.pointer (some ⟨cb, 0, none⟩), .int .i64 x, .func (.func g) first cap] w fun e w' => e = .returned (.bool b) ∧ Below w.heap.size w w' := by
  have hbb := bl_a (w := w) (.cells #[.func (.func g) first cap] 72)
  have HS := Lib.hid (some_is (b := !b) x (fun d => !p d) 75 #[] #[.pointer (some ⟨w.heap.size, 0, none⟩)] _ (hC.on hbb) (every1_P p g first cap w.heap.size (hP.on hbb) (by go_simp) (by simp)) (by rw [← h, Bool.not_not]))
  have HB := Lib.hid hbb
  clear hC hP h hbb
  have hmf := run_makeFn
  go_enter Try.func62, Try.ntmps62
  go_wp2_with fail
  refine HS.out.mono ?_
  rintro e w' ⟨rfl, hb2⟩
  go_wp2_with fail
  go_ret
  exact ⟨ret_bool (by simp), below_step HB.out hb2⟩
/-! ### the function values -/
theorem holds_P {w : World} (hC : Court w cb A m c B k d bp bn rs fs y n) : PredF w 61 #[.pointer (some ⟨cb, 0, none⟩)] #[] (holdsB y) :=
  ⟨enters_body Try.func61 (by kernel_rfl) rfl, fun w' r hb hr hn hz => holds_is r w' (hC.on hb) hr hn hz rfl⟩
theorem fails_P {w : World} (hC : Court w cb A m c B k d bp bn rs fs y n) : PredF w 64 #[.pointer (some ⟨cb, 0, none⟩)] #[] (failsB n) :=
  ⟨enters_body Try.func64 (by kernel_rfl) rfl, fun w' r hb hr hn hz => fails_is r w' (hC.on hb) hr hn hz rfl⟩
theorem beaten_P {W : World} (gc gs : Nat) (s : Ru) (hC : Court W cb A m c B k d bp bn rs fs y n) (h1 : W.cell? ⟨gc, 0, none⟩ = some (.pointer (some ⟨cb, 0, none⟩))) (l1 : gc < W.heap.size) (h2 : W.cell? ⟨gs, 4, none⟩ = some (.int .i64 s.rk)) (l2 : gs < W.heap.size) :
    PredF W 65 #[] #[.pointer (some ⟨gc, 0, none⟩), .pointer (some ⟨gs, 0, none⟩)] fun t => holdsB y t && decide (s.rk < t.rk) := by
  refine ⟨enters_body Try.func65 (by kernel_rfl) rfl, fun w r hb hr hn hz => ?_⟩
  show Calls Try.prog 65 #[aggR r, .pointer (some ⟨gc, 0, none⟩), .pointer (some ⟨gs, 0, none⟩)] w _
  have hba := bl_a (w := w) (.cells #[.int .i64 r.hd, .slice r.A r.n r.c, .int .i64 r.fr, .int .i64 r.tt, .int .i64 r.rk] tR)
  have h3 : w.cell? ⟨gc, 0, none⟩ = some (.pointer (some ⟨cb, 0, none⟩)) := (hb.cell (p := ⟨gc, 0, none⟩) l1).trans h1
  have l3 : gc < w.heap.size := Nat.lt_of_lt_of_le l1 hb.size
  have h4 : w.cell? ⟨gs, 4, none⟩ = some (.int .i64 s.rk) := (hb.cell (p := ⟨gs, 4, none⟩) l2).trans h2
  have l4 : gs < w.heap.size := Nat.lt_of_lt_of_le l2 hb.size
  cases ha : holdsB y r.dat
  · have HS := Lib.hid (holds_is r _ (hC.on (below_step hb hba)) (hr.on hba) hn hz ha)
    have HF := Lib.hid ha
    have HBA := Lib.hid hba
    have h5 := fun w' (hb2 : Below (w.alloc (.cells #[.int .i64 r.hd, .slice r.A r.n r.c, .int .i64 r.fr, .int .i64 r.tt, .int .i64 r.rk] tR)).heap.size (w.alloc (.cells #[.int .i64 r.hd, .slice r.A r.n r.c, .int .i64 r.fr, .int .i64 r.tt, .int .i64 r.rk] tR)) w') => show w'.cell? ⟨gs, 4, none⟩ = some (.int .i64 s.rk) ∧ w'.cell? ⟨w.heap.size, 4, none⟩ = some (.int .i64 r.rk) from
      ⟨(hb2.cell (p := ⟨gs, 4, none⟩) (by simp; omega)).trans ((World.cell?_alloc_lt w _ ⟨gs, 4, none⟩ l4).trans h4), (hb2.cell (p := ⟨w.heap.size, 4, none⟩) (by simp)).trans (by go_simp)⟩
    have H5 := Lib.hid h5
    clear hC hr hz hb h1 l1 h2 l2 ha h5 h4 l4 hba
    unfold aggR
    go_enter Try.func65, Try.ntmps65
    go_wp2_with fail
    refine HS.out.mono ?_
    rintro e w' ⟨rfl, hb⟩
    obtain ⟨e1, e2⟩ := H5.out w' hb
    have HB2 := Lib.hid hb
    clear hb
    go_wp2_with fail
    go_ret
    exact ⟨ret_bool (by first | rfl | (rw [HF.out]; rfl)), below_step HBA.out HB2.out⟩
  · have HS := Lib.hid (holds_is r _ (hC.on (below_step hb hba)) (hr.on hba) hn hz ha)
    have HF := Lib.hid ha
    have HBA := Lib.hid hba
    have h5 := fun w' (hb2 : Below (w.alloc (.cells #[.int .i64 r.hd, .slice r.A r.n r.c, .int .i64 r.fr, .int .i64 r.tt, .int .i64 r.rk] tR)).heap.size (w.alloc (.cells #[.int .i64 r.hd, .slice r.A r.n r.c, .int .i64 r.fr, .int .i64 r.tt, .int .i64 r.rk] tR)) w') => show w'.cell? ⟨gs, 4, none⟩ = some (.int .i64 s.rk) ∧ w'.cell? ⟨w.heap.size, 4, none⟩ = some (.int .i64 r.rk) from
      ⟨(hb2.cell (p := ⟨gs, 4, none⟩) (by simp; omega)).trans ((World.cell?_alloc_lt w _ ⟨gs, 4, none⟩ l4).trans h4), (hb2.cell (p := ⟨w.heap.size, 4, none⟩) (by simp)).trans (by go_simp)⟩
    have H5 := Lib.hid h5
    clear hC hr hz hb h1 l1 h2 l2 ha h5 h4 l4 hba
    unfold aggR
    go_enter Try.func65, Try.ntmps65
    go_wp2_with fail
    refine HS.out.mono ?_
    rintro e w' ⟨rfl, hb⟩
    obtain ⟨e1, e2⟩ := H5.out w' hb
    have HB2 := Lib.hid hb
    clear hb
    go_wp2_with fail
    go_ret
    exact ⟨ret_bool (by first | rfl | (rw [HF.out]; rfl)), below_step HBA.out HB2.out⟩
theorem beats_P {W : World} (gc gs : Nat) (s : Ru) (hC : Court W cb A m c B k d bp bn rs fs y n) (h1 : W.cell? ⟨gc, 0, none⟩ = some (.pointer (some ⟨cb, 0, none⟩))) (l1 : gc < W.heap.size) (h2 : W.cell? ⟨gs, 4, none⟩ = some (.int .i64 s.rk)) (l2 : gs < W.heap.size) :
    PredF W 67 #[] #[.pointer (some ⟨gc, 0, none⟩), .pointer (some ⟨gs, 0, none⟩)] fun t => (failsB n t || decide (t.rk ≤ s.rk)) := by
  refine ⟨enters_body Try.func67 (by kernel_rfl) rfl, fun w r hb hr hn hz => ?_⟩
  show Calls Try.prog 67 #[aggR r, .pointer (some ⟨gc, 0, none⟩), .pointer (some ⟨gs, 0, none⟩)] w _
  have hba := bl_a (w := w) (.cells #[.int .i64 r.hd, .slice r.A r.n r.c, .int .i64 r.fr, .int .i64 r.tt, .int .i64 r.rk] tR)
  have h3 : w.cell? ⟨gc, 0, none⟩ = some (.pointer (some ⟨cb, 0, none⟩)) := (hb.cell (p := ⟨gc, 0, none⟩) l1).trans h1
  have l3 : gc < w.heap.size := Nat.lt_of_lt_of_le l1 hb.size
  have h4 : w.cell? ⟨gs, 4, none⟩ = some (.int .i64 s.rk) := (hb.cell (p := ⟨gs, 4, none⟩) l2).trans h2
  have l4 : gs < w.heap.size := Nat.lt_of_lt_of_le l2 hb.size
  cases ha : failsB n r.dat
  · have HS := Lib.hid (fails_is r _ (hC.on (below_step hb hba)) (hr.on hba) hn hz ha)
    have HF := Lib.hid ha
    have HBA := Lib.hid hba
    have h5 := fun w' (hb2 : Below (w.alloc (.cells #[.int .i64 r.hd, .slice r.A r.n r.c, .int .i64 r.fr, .int .i64 r.tt, .int .i64 r.rk] tR)).heap.size (w.alloc (.cells #[.int .i64 r.hd, .slice r.A r.n r.c, .int .i64 r.fr, .int .i64 r.tt, .int .i64 r.rk] tR)) w') => show w'.cell? ⟨gs, 4, none⟩ = some (.int .i64 s.rk) ∧ w'.cell? ⟨w.heap.size, 4, none⟩ = some (.int .i64 r.rk) from
      ⟨(hb2.cell (p := ⟨gs, 4, none⟩) (by simp; omega)).trans ((World.cell?_alloc_lt w _ ⟨gs, 4, none⟩ l4).trans h4), (hb2.cell (p := ⟨w.heap.size, 4, none⟩) (by simp)).trans (by go_simp)⟩
    have H5 := Lib.hid h5
    clear hC hr hz hb h1 l1 h2 l2 ha h5 h4 l4 hba
    unfold aggR
    go_enter Try.func67, Try.ntmps67
    go_wp2_with fail
    refine HS.out.mono ?_
    rintro e w' ⟨rfl, hb⟩
    obtain ⟨e1, e2⟩ := H5.out w' hb
    have HB2 := Lib.hid hb
    clear hb
    go_wp2_with fail
    go_ret
    exact ⟨ret_bool (by first | rfl | (rw [HF.out]; rfl)), below_step HBA.out HB2.out⟩
  · have HS := Lib.hid (fails_is r _ (hC.on (below_step hb hba)) (hr.on hba) hn hz ha)
    have HF := Lib.hid ha
    have HBA := Lib.hid hba
    have h5 := fun w' (hb2 : Below (w.alloc (.cells #[.int .i64 r.hd, .slice r.A r.n r.c, .int .i64 r.fr, .int .i64 r.tt, .int .i64 r.rk] tR)).heap.size (w.alloc (.cells #[.int .i64 r.hd, .slice r.A r.n r.c, .int .i64 r.fr, .int .i64 r.tt, .int .i64 r.rk] tR)) w') => show w'.cell? ⟨gs, 4, none⟩ = some (.int .i64 s.rk) ∧ w'.cell? ⟨w.heap.size, 4, none⟩ = some (.int .i64 r.rk) from
      ⟨(hb2.cell (p := ⟨gs, 4, none⟩) (by simp; omega)).trans ((World.cell?_alloc_lt w _ ⟨gs, 4, none⟩ l4).trans h4), (hb2.cell (p := ⟨w.heap.size, 4, none⟩) (by simp)).trans (by go_simp)⟩
    have H5 := Lib.hid h5
    clear hC hr hz hb h1 l1 h2 l2 ha h5 h4 l4 hba
    unfold aggR
    go_enter Try.func67, Try.ntmps67
    go_wp2_with fail
    refine HS.out.mono ?_
    rintro e w' ⟨rfl, hb⟩
    obtain ⟨e1, e2⟩ := H5.out w' hb
    have HB2 := Lib.hid hb
    clear hb
    go_wp2_with fail
    go_ret
    exact ⟨ret_bool (by first | rfl | (rw [HF.out]; rfl)), below_step HBA.out HB2.out⟩
theorem proves1_P {W : World} (x : Int) (gc gx : Nat) (hC : Court W cb A m c B k d bp bn rs fs y n) (h1 : W.cell? ⟨gc, 0, none⟩ = some (.pointer (some ⟨cb, 0, none⟩))) (l1 : gc < W.heap.size) (h2 : W.cell? ⟨gx, 0, none⟩ = some (.int .i64 x)) (l2 : gx < W.heap.size) :
    PredF W 63 #[] #[.pointer (some ⟨gc, 0, none⟩), .pointer (some ⟨gx, 0, none⟩)] fun s => (failsB n s || beatenB (rs.map Ru.dat) y x s) := by
  refine ⟨enters_body Try.func63 (by kernel_rfl) rfl, fun w r hb hr hn hz => ?_⟩
  show Calls Try.prog 63 #[aggR r, .pointer (some ⟨gc, 0, none⟩), .pointer (some ⟨gx, 0, none⟩)] w _
  have hba := bl_a (w := w) (.cells #[.int .i64 r.hd, .slice r.A r.n r.c, .int .i64 r.fr, .int .i64 r.tt, .int .i64 r.rk] tR)
  have h3 : w.cell? ⟨gc, 0, none⟩ = some (.pointer (some ⟨cb, 0, none⟩)) := (hb.cell (p := ⟨gc, 0, none⟩) l1).trans h1
  have l3 : gc < w.heap.size := Nat.lt_of_lt_of_le l1 hb.size
  have h4 : w.cell? ⟨gx, 0, none⟩ = some (.int .i64 x) := (hb.cell (p := ⟨gx, 0, none⟩) l2).trans h2
  have l4 : gx < w.heap.size := Nat.lt_of_lt_of_le l2 hb.size
  have hC2 := hC.on (below_step hb hba)
  have hR2 := hr.on hba
  have hk1 : (w.alloc (.cells #[.int .i64 r.hd, .slice r.A r.n r.c, .int .i64 r.fr, .int .i64 r.tt, .int .i64 r.rk] tR)).cell? ⟨w.heap.size, 4, none⟩ = some (.int .i64 r.rk) := by go_simp
  have hk2 := (World.cell?_alloc_lt w (.cells #[.int .i64 r.hd, .slice r.A r.n r.c, .int .i64 r.fr, .int .i64 r.tt, .int .i64 r.rk] tR) ⟨gc, 0, none⟩ l3).trans h3
  have hk3 := (World.cell?_alloc_lt w (.cells #[.int .i64 r.hd, .slice r.A r.n r.c, .int .i64 r.fr, .int .i64 r.tt, .int .i64 r.rk] tR) ⟨gx, 0, none⟩ l4).trans h4
  have z1 : w.heap.size < (w.alloc (.cells #[.int .i64 r.hd, .slice r.A r.n r.c, .int .i64 r.fr, .int .i64 r.tt, .int .i64 r.rk] tR)).heap.size := by simp
  have z2 : gc < (w.alloc (.cells #[.int .i64 r.hd, .slice r.A r.n r.c, .int .i64 r.fr, .int .i64 r.tt, .int .i64 r.rk] tR)).heap.size := by simp; omega
  have z3 : gx < (w.alloc (.cells #[.int .i64 r.hd, .slice r.A r.n r.c, .int .i64 r.fr, .int .i64 r.tt, .int .i64 r.rk] tR)).heap.size := by simp; omega
  generalize hw2 : w.alloc (.cells #[.int .i64 r.hd, .slice r.A r.n r.c, .int .i64 r.fr, .int .i64 r.tt, .int .i64 r.rk] tR) = w2 at hba hC2 hR2 hk1 hk2 hk3 z1 z2 z3
  have HBA := Lib.hid hba
  have HW2 := Lib.hid hw2
  have HC2 := Lib.hid hC2
  have HK := Lib.hid (And.intro hk1 (And.intro hk2 hk3))
  have HZ := Lib.hid (And.intro z1 (And.intro z2 z3))
  cases ha : failsB n r.dat
  · have HS := Lib.hid (fails_is r _ hC2 hR2 hn hz ha)
    have HF := Lib.hid ha
    clear hC hr hz hb h1 l1 h2 l2 ha h4 l4 hba hk1 hk2 hk3 hC2 hR2 hw2 z1 z2 z3
    unfold aggR
    go_enter Try.func63, Try.ntmps63
    go_wp2_with fail
    rw [HW2.out]
    refine HS.out.mono ?_
    rintro e w' ⟨rfl, hb⟩
    have e1 := (hb.cell (p := ⟨gc, 0, none⟩) HZ.out.2.1).trans HK.out.2.1
    have e2 := (hb.cell (p := ⟨gx, 0, none⟩) HZ.out.2.2).trans HK.out.2.2
    have e3 := (hb.cell (p := ⟨w.heap.size, 4, none⟩) HZ.out.1).trans HK.out.1
    have HQ := Lib.hid (some_is (b := beatenB (rs.map Ru.dat) y x r.dat) x _ 65 #[] #[.pointer (some ⟨gc, 0, none⟩), .pointer (some ⟨w.heap.size, 0, none⟩)] w' (HC2.out.on hb) (beaten_P gc w.heap.size r (HC2.out.on hb) e1 (Nat.lt_of_lt_of_le HZ.out.2.1 hb.size) e3 (Nat.lt_of_lt_of_le HZ.out.1 hb.size)) rfl)
    have HB2 := Lib.hid hb
    clear hb e3
    have hmf := run_makeFn
    go_wp2_with fail
    refine HQ.out.mono ?_
    rintro e w3 ⟨rfl, hb3⟩
    have HB3 := Lib.hid hb3
    clear hb3
    go_wp2_with fail
    go_ret
    exact ⟨ret_bool (by first | rfl | (rw [HF.out]; rfl)), below_step (below_step HBA.out HB2.out) HB3.out⟩
  · have HS := Lib.hid (fails_is r _ hC2 hR2 hn hz ha)
    have HF := Lib.hid ha
    clear hC hr hz hb h1 l1 h2 l2 ha h4 l4 hba hk1 hk2 hk3 hC2 hR2 hw2 z1 z2 z3
    unfold aggR
    go_enter Try.func63, Try.ntmps63
    go_wp2_with fail
    rw [HW2.out]
    refine HS.out.mono ?_
    rintro e w' ⟨rfl, hb⟩
    have HB2 := Lib.hid hb
    clear hb
    go_wp2_with fail
    go_ret
    exact ⟨ret_bool (by first | rfl | (rw [HF.out]; rfl)), below_step HBA.out HB2.out⟩
theorem disproves1_P {W : World} (x : Int) (gc gx : Nat) (hC : Court W cb A m c B k d bp bn rs fs y n) (h1 : W.cell? ⟨gc, 0, none⟩ = some (.pointer (some ⟨cb, 0, none⟩))) (l1 : gc < W.heap.size) (h2 : W.cell? ⟨gx, 0, none⟩ = some (.int .i64 x)) (l2 : gx < W.heap.size) :
    PredF W 66 #[] #[.pointer (some ⟨gc, 0, none⟩), .pointer (some ⟨gx, 0, none⟩)] fun s => (holdsB y s && beatsB (rs.map Ru.dat) n x s) := by
  refine ⟨enters_body Try.func66 (by kernel_rfl) rfl, fun w r hb hr hn hz => ?_⟩
  show Calls Try.prog 66 #[aggR r, .pointer (some ⟨gc, 0, none⟩), .pointer (some ⟨gx, 0, none⟩)] w _
  have hba := bl_a (w := w) (.cells #[.int .i64 r.hd, .slice r.A r.n r.c, .int .i64 r.fr, .int .i64 r.tt, .int .i64 r.rk] tR)
  have h3 : w.cell? ⟨gc, 0, none⟩ = some (.pointer (some ⟨cb, 0, none⟩)) := (hb.cell (p := ⟨gc, 0, none⟩) l1).trans h1
  have l3 : gc < w.heap.size := Nat.lt_of_lt_of_le l1 hb.size
  have h4 : w.cell? ⟨gx, 0, none⟩ = some (.int .i64 x) := (hb.cell (p := ⟨gx, 0, none⟩) l2).trans h2
  have l4 : gx < w.heap.size := Nat.lt_of_lt_of_le l2 hb.size
  have hC2 := hC.on (below_step hb hba)
  have hR2 := hr.on hba
  have hk1 : (w.alloc (.cells #[.int .i64 r.hd, .slice r.A r.n r.c, .int .i64 r.fr, .int .i64 r.tt, .int .i64 r.rk] tR)).cell? ⟨w.heap.size, 4, none⟩ = some (.int .i64 r.rk) := by go_simp
  have hk2 := (World.cell?_alloc_lt w (.cells #[.int .i64 r.hd, .slice r.A r.n r.c, .int .i64 r.fr, .int .i64 r.tt, .int .i64 r.rk] tR) ⟨gc, 0, none⟩ l3).trans h3
  have hk3 := (World.cell?_alloc_lt w (.cells #[.int .i64 r.hd, .slice r.A r.n r.c, .int .i64 r.fr, .int .i64 r.tt, .int .i64 r.rk] tR) ⟨gx, 0, none⟩ l4).trans h4
  have z1 : w.heap.size < (w.alloc (.cells #[.int .i64 r.hd, .slice r.A r.n r.c, .int .i64 r.fr, .int .i64 r.tt, .int .i64 r.rk] tR)).heap.size := by simp
  have z2 : gc < (w.alloc (.cells #[.int .i64 r.hd, .slice r.A r.n r.c, .int .i64 r.fr, .int .i64 r.tt, .int .i64 r.rk] tR)).heap.size := by simp; omega
  have z3 : gx < (w.alloc (.cells #[.int .i64 r.hd, .slice r.A r.n r.c, .int .i64 r.fr, .int .i64 r.tt, .int .i64 r.rk] tR)).heap.size := by simp; omega
  generalize hw2 : w.alloc (.cells #[.int .i64 r.hd, .slice r.A r.n r.c, .int .i64 r.fr, .int .i64 r.tt, .int .i64 r.rk] tR) = w2 at hba hC2 hR2 hk1 hk2 hk3 z1 z2 z3
  have HBA := Lib.hid hba
  have HW2 := Lib.hid hw2
  have HC2 := Lib.hid hC2
  have HK := Lib.hid (And.intro hk1 (And.intro hk2 hk3))
  have HZ := Lib.hid (And.intro z1 (And.intro z2 z3))
  cases ha : holdsB y r.dat
  · have HS := Lib.hid (holds_is r _ hC2 hR2 hn hz ha)
    have HF := Lib.hid ha
    clear hC hr hz hb h1 l1 h2 l2 ha h4 l4 hba hk1 hk2 hk3 hC2 hR2 hw2 z1 z2 z3
    unfold aggR
    go_enter Try.func66, Try.ntmps66
    go_wp2_with fail
    rw [HW2.out]
    refine HS.out.mono ?_
    rintro e w' ⟨rfl, hb⟩
    have HB2 := Lib.hid hb
    clear hb
    go_wp2_with fail
    go_ret
    exact ⟨ret_bool (by first | rfl | (rw [HF.out]; rfl)), below_step HBA.out HB2.out⟩
  · have HS := Lib.hid (holds_is r _ hC2 hR2 hn hz ha)
    have HF := Lib.hid ha
    clear hC hr hz hb h1 l1 h2 l2 ha h4 l4 hba hk1 hk2 hk3 hC2 hR2 hw2 z1 z2 z3
    unfold aggR
    go_enter Try.func66, Try.ntmps66
    go_wp2_with fail
    rw [HW2.out]
    refine HS.out.mono ?_
    rintro e w' ⟨rfl, hb⟩
    have e1 := (hb.cell (p := ⟨gc, 0, none⟩) HZ.out.2.1).trans HK.out.2.1
    have e2 := (hb.cell (p := ⟨gx, 0, none⟩) HZ.out.2.2).trans HK.out.2.2
    have e3 := (hb.cell (p := ⟨w.heap.size, 4, none⟩) HZ.out.1).trans HK.out.1
    have HQ := Lib.hid (every_is (b := beatsB (rs.map Ru.dat) n x r.dat) x _ 67 #[] #[.pointer (some ⟨gc, 0, none⟩), .pointer (some ⟨w.heap.size, 0, none⟩)] w' (HC2.out.on hb) (beats_P gc w.heap.size r (HC2.out.on hb) e1 (Nat.lt_of_lt_of_le HZ.out.2.1 hb.size) e3 (Nat.lt_of_lt_of_le HZ.out.1 hb.size)) rfl)
    have HB2 := Lib.hid hb
    clear hb e3
    have hmf := run_makeFn
    go_wp2_with fail
    refine HQ.out.mono ?_
    rintro e w3 ⟨rfl, hb3⟩
    have HB3 := Lib.hid hb3
    clear hb3
    go_wp2_with fail
    go_ret
    exact ⟨ret_bool (by first | rfl | (rw [HF.out]; rfl)), below_step (below_step HBA.out HB2.out) HB3.out⟩
set_option maxHeartbeats 1600000 in
theorem proves_is {b : Bool} (x : Int) (w : World) (hC : Court w cb A m c B k d bp bn rs fs y n) (hx : wordB x = true) (h : stepY fs (rs.map Ru.dat) y n x = b) :
    Calls Try.prog 50 #[.pointer (some ⟨cb, 0, none⟩), .int .i64 x] w fun e w' => e = .returned (.bool b) ∧ Below w.heap.size w w' := by
  have hxb := wordB_iff.1 hx
  have hbb := bl_aa (w := w) (.cells #[.pointer (some ⟨cb, 0, none⟩)] 56) (.cells #[.int .i64 x] 2)
  have hC2 := hC.on hbb
  have k1 : ((w.alloc (.cells #[.pointer (some ⟨cb, 0, none⟩)] 56)).alloc (.cells #[.int .i64 x] 2)).cell? ⟨w.heap.size, 0, none⟩ = some (.pointer (some ⟨cb, 0, none⟩)) := by go_simp
  have k2 : ((w.alloc (.cells #[.pointer (some ⟨cb, 0, none⟩)] 56)).alloc (.cells #[.int .i64 x] 2)).cell? ⟨w.heap.size + 1, 0, none⟩ = some (.int .i64 x) := by go_simp
  have z1 : w.heap.size + 1 < ((w.alloc (.cells #[.pointer (some ⟨cb, 0, none⟩)] 56)).alloc (.cells #[.int .i64 x] 2)).heap.size := by simp
  generalize hw2 : (w.alloc (.cells #[.pointer (some ⟨cb, 0, none⟩)] 56)).alloc (.cells #[.int .i64 x] 2) = w2 at hbb hC2 k1 k2 z1
  have HW2 := Lib.hid hw2
  have HB := Lib.hid hbb
  have HC := Lib.hid hC2
  have hmf := run_makeFn
  have HK := Lib.hid (And.intro k1 k2)
  have HZ := Lib.hid z1
  clear hC hbb hC2 hx hw2 k1 k2 z1
  unfold stepY at h
  cases h1 : facB fs x
  case true =>
    have HF := Lib.hid (show true = b by rw [← h, h1]; rfl)
    clear h
    go_enter Try.func50, Try.ntmps50
    go_wp2_with fail
    rw [HW2.out]
    refine (isFact_is x w2 HC.out h1).mono ?_
    rintro e w' ⟨rfl, rfl⟩
    go_wp2_with fail
    go_ret
    exact ⟨ret_bool HF.out, HB.out⟩
  rw [h1, Bool.false_or] at h
  cases h2 : facB fs (-x)
  case true =>
    have HF := Lib.hid (show false = b by rw [← h, h2]; rfl)
    clear h
    go_enter Try.func50, Try.ntmps50
    go_wp2_with fail
    rw [HW2.out]
    refine (isFact_is x w2 HC.out h1).mono ?_
    rintro e w' ⟨rfl, rfl⟩
    have e1 := HK.out.1
    have e2 := HK.out.2
    go_wp2_with fail
    refine (isFact_is (-x) w2 HC.out h2).mono ?_
    rintro e w' ⟨rfl, rfl⟩
    go_wp2_with fail
    go_ret
    exact ⟨ret_bool HF.out, HB.out⟩
  rw [h2, Bool.not_false, Bool.true_and] at h
  unfold prvB at h
  cases h3 : (rs.map Ru.dat).any fun r => (r.hd == x) && holdsB y r
  case false =>
    have HF := Lib.hid (show false = b by rw [← h, h3]; rfl)
    have HS := Lib.hid (some_is x _ _ _ _ w2 HC.out (holds_P HC.out) h3)
    clear h
    go_enter Try.func50, Try.ntmps50
    go_wp2_with fail
    rw [HW2.out]
    refine (isFact_is x w2 HC.out h1).mono ?_
    rintro e w' ⟨rfl, rfl⟩
    have e1 := HK.out.1
    have e2 := HK.out.2
    go_wp2_with fail
    refine (isFact_is (-x) w2 HC.out h2).mono ?_
    rintro e w' ⟨rfl, rfl⟩
    go_wp2_with fail
    refine HS.out.mono ?_
    rintro e w' ⟨rfl, hb⟩
    have HB3 := Lib.hid hb
    clear hb
    go_wp2_with fail
    go_ret
    exact ⟨ret_bool HF.out, below_step HB.out HB3.out⟩
  rw [h3, Bool.true_and] at h
  have HS := Lib.hid (some_is x _ _ _ _ w2 HC.out (holds_P HC.out) h3)
  have HF := Lib.hid h
  clear h
  go_enter Try.func50, Try.ntmps50
  go_wp2_with fail
  rw [HW2.out]
  refine (isFact_is x w2 HC.out h1).mono ?_
  rintro e w' ⟨rfl, rfl⟩
  have e1 := HK.out.1
  have e2 := HK.out.2
  go_wp2_with fail
  refine (isFact_is (-x) w2 HC.out h2).mono ?_
  rintro e w' ⟨rfl, rfl⟩
  go_wp2_with fail
  refine HS.out.mono ?_
  rintro e w3 ⟨rfl, hb⟩
  have hz := HZ.out
  have f1 := (hb.cell (p := ⟨w.heap.size, 0, none⟩) (by simp only; omega)).trans e1
  have f2 := (hb.cell (p := ⟨w.heap.size + 1, 0, none⟩) hz).trans e2
  have hz3 := hb.size
  have HQ := Lib.hid (every_is (-x) _ 63 #[] #[.pointer (some ⟨w.heap.size, 0, none⟩), .pointer (some ⟨w.heap.size + 1, 0, none⟩)] w3 (HC.out.on hb) (proves1_P x w.heap.size (w.heap.size + 1) (HC.out.on hb) f1 (by omega) f2 (by omega)) HF.out)
  have HB3 := Lib.hid hb
  clear hb hz3 hz
  go_wp2_with fail
  refine HQ.out.mono ?_
  rintro e w4 ⟨rfl, hb4⟩
  have HB4 := Lib.hid hb4
  clear hb4
  go_wp2_with fail
  go_ret
  exact ⟨rfl, below_step (below_step HB.out HB3.out) HB4.out⟩
set_option maxHeartbeats 1600000 in
theorem disproves_is {b : Bool} (x : Int) (w : World) (hC : Court w cb A m c B k d bp bn rs fs y n) (hx : wordB x = true) (h : stepN fs (rs.map Ru.dat) y n x = b) :
    Calls Try.prog 51 #[.pointer (some ⟨cb, 0, none⟩), .int .i64 x] w fun e w' => e = .returned (.bool b) ∧ Below w.heap.size w w' := by
  have hxb := wordB_iff.1 hx
  have hbb := bl_aa (w := w) (.cells #[.pointer (some ⟨cb, 0, none⟩)] 56) (.cells #[.int .i64 x] 2)
  have hC2 := hC.on hbb
  have k1 : ((w.alloc (.cells #[.pointer (some ⟨cb, 0, none⟩)] 56)).alloc (.cells #[.int .i64 x] 2)).cell? ⟨w.heap.size, 0, none⟩ = some (.pointer (some ⟨cb, 0, none⟩)) := by go_simp
  have k2 : ((w.alloc (.cells #[.pointer (some ⟨cb, 0, none⟩)] 56)).alloc (.cells #[.int .i64 x] 2)).cell? ⟨w.heap.size + 1, 0, none⟩ = some (.int .i64 x) := by go_simp
  have z1 : w.heap.size + 1 < ((w.alloc (.cells #[.pointer (some ⟨cb, 0, none⟩)] 56)).alloc (.cells #[.int .i64 x] 2)).heap.size := by simp
  generalize hw2 : (w.alloc (.cells #[.pointer (some ⟨cb, 0, none⟩)] 56)).alloc (.cells #[.int .i64 x] 2) = w2 at hbb hC2 k1 k2 z1
  have HW2 := Lib.hid hw2
  have HB := Lib.hid hbb
  have HC := Lib.hid hC2
  have hmf := run_makeFn
  have HK := Lib.hid (And.intro k1 k2)
  have HZ := Lib.hid z1
  clear hC hbb hC2 hx hw2 k1 k2 z1
  unfold stepN at h
  cases h1 : facB fs x
  case true =>
    have HF := Lib.hid (show false = b by rw [← h, h1]; rfl)
    clear h
    go_enter Try.func51, Try.ntmps51
    go_wp2_with fail
    rw [HW2.out]
    refine (isFact_is x w2 HC.out h1).mono ?_
    rintro e w' ⟨rfl, rfl⟩
    go_wp2_with fail
    go_ret
    exact ⟨ret_bool HF.out, HB.out⟩
  rw [h1, Bool.not_false, Bool.true_and] at h
  cases h2 : facB fs (-x)
  case true =>
    have HF := Lib.hid (show true = b by rw [← h, h2]; rfl)
    clear h
    go_enter Try.func51, Try.ntmps51
    go_wp2_with fail
    rw [HW2.out]
    refine (isFact_is x w2 HC.out h1).mono ?_
    rintro e w' ⟨rfl, rfl⟩
    have e1 := HK.out.1
    have e2 := HK.out.2
    go_wp2_with fail
    refine (isFact_is (-x) w2 HC.out h2).mono ?_
    rintro e w' ⟨rfl, rfl⟩
    go_wp2_with fail
    go_ret
    exact ⟨ret_bool HF.out, HB.out⟩
  rw [h2, Bool.false_or] at h
  unfold disB at h
  cases h3 : allFailB (rs.map Ru.dat) n x
  case true =>
    have HF := Lib.hid (show true = b by rw [← h, h3]; rfl)
    have HS := Lib.hid (every_is x _ _ _ _ w2 HC.out (fails_P HC.out) h3)
    clear h
    go_enter Try.func51, Try.ntmps51
    go_wp2_with fail
    rw [HW2.out]
    refine (isFact_is x w2 HC.out h1).mono ?_
    rintro e w' ⟨rfl, rfl⟩
    have e1 := HK.out.1
    have e2 := HK.out.2
    go_wp2_with fail
    refine (isFact_is (-x) w2 HC.out h2).mono ?_
    rintro e w' ⟨rfl, rfl⟩
    go_wp2_with fail
    refine HS.out.mono ?_
    rintro e w' ⟨rfl, hb⟩
    have HB3 := Lib.hid hb
    clear hb
    go_wp2_with fail
    go_ret
    exact ⟨ret_bool HF.out, below_step HB.out HB3.out⟩
  rw [h3, Bool.false_or] at h
  have HS := Lib.hid (every_is x _ _ _ _ w2 HC.out (fails_P HC.out) h3)
  have HF := Lib.hid h
  clear h
  go_enter Try.func51, Try.ntmps51
  go_wp2_with fail
  rw [HW2.out]
  refine (isFact_is x w2 HC.out h1).mono ?_
  rintro e w' ⟨rfl, rfl⟩
  have e1 := HK.out.1
  have e2 := HK.out.2
  go_wp2_with fail
  refine (isFact_is (-x) w2 HC.out h2).mono ?_
  rintro e w' ⟨rfl, rfl⟩
  go_wp2_with fail
  refine HS.out.mono ?_
  rintro e w3 ⟨rfl, hb⟩
  have hz := HZ.out
  have f1 := (hb.cell (p := ⟨w.heap.size, 0, none⟩) (by simp only; omega)).trans e1
  have f2 := (hb.cell (p := ⟨w.heap.size + 1, 0, none⟩) hz).trans e2
  have hz3 := hb.size
  have HQ := Lib.hid (some_is (-x) _ 66 #[] #[.pointer (some ⟨w.heap.size, 0, none⟩), .pointer (some ⟨w.heap.size + 1, 0, none⟩)] w3 (HC.out.on hb) (disproves1_P x w.heap.size (w.heap.size + 1) (HC.out.on hb) f1 (by omega) f2 (by omega)) HF.out)
  have HB3 := Lib.hid hb
  clear hb hz3 hz
  go_wp2_with fail
  refine HQ.out.mono ?_
  rintro e w4 ⟨rfl, hb4⟩
  have HB4 := Lib.hid hb4
  clear hb4
  go_wp2_with fail
  go_ret
  exact ⟨rfl, below_step (below_step HB.out HB3.out) HB4.out⟩
end
end Go.Proofs.Ytmfglflahlddbaa
