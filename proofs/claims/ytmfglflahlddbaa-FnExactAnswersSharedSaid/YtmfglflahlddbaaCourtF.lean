/-
  THE COURT's QUESTIONS: isFact, holds, fails; a function value that says of a rule; some, every.
-/
import Derived.Test.YtmfglflahlddbaaCMap
import Derived.Test.YtmfglflahlddbaaRuOpp
namespace Go.Proofs.Ytmfglflahlddbaa
open Go.ChangeShapes Go.WideShapes Go.ChangeAt Go.RowKit
set_option linter.unusedVariables false
set_option linter.unusedSimpArgs false

/-- a court in block cb of w -/
structure Court (w : World) (cb : Nat) (A : Option Addr) (m c : Nat) (B : Option Addr) (k d : Nat) (bp bn : Nat) (rs : List Ru) (fs : List Int) (y n : Int → Bool) : Prop where
  lt : cb < w.heap.size
  c0 : w.cell? ⟨cb, 0, none⟩ = some (.slice A m c)
  c2 : w.cell? ⟨cb, 2, none⟩ = some (.slice B k d)
  c3 : w.cell? ⟨cb, 3, none⟩ = some (.map (some bp))
  c4 : w.cell? ⟨cb, 4, none⟩ = some (.map (some bn))
  rr : RRd w w.heap.size A m rs
  rn : RuN rs
  ml : m ≤ 1048576
  fr : Rd w w.heap.size 1 B k (ints fs)
  kl : k ≤ 1048576
  my : MapB w bp y
  mn : MapB w bn n
section
variable {w w' : World} {cb : Nat} {A : Option Addr} {m c : Nat} {B : Option Addr} {k d : Nat} {bp bn : Nat} {rs : List Ru} {fs : List Int} {y n : Int → Bool}
theorem Court.on (h : Court w cb A m c B k d bp bn rs fs y n) (hb : Below w.heap.size w w') : Court w' cb A m c B k d bp bn rs fs y n :=
  ⟨Nat.lt_of_lt_of_le h.lt hb.size, (hb.cell (p := ⟨cb, 0, none⟩) h.lt).trans h.c0, (hb.cell (p := ⟨cb, 2, none⟩) h.lt).trans h.c2, (hb.cell (p := ⟨cb, 3, none⟩) h.lt).trans h.c3, (hb.cell (p := ⟨cb, 4, none⟩) h.lt).trans h.c4,
    h.rr.on hb, h.rn, h.ml, h.fr.on hb, h.kl, h.my.below hb h.my.lt, h.mn.below hb h.mn.lt⟩
theorem bl_a (o : Go.Obj) : Below w.heap.size w (w.alloc o) := (Below.refl _ _).alloc (Nat.le_refl _) _
theorem bl_aa (o o' : Go.Obj) : Below w.heap.size w ((w.alloc o).alloc o') := ((Below.refl _ _).alloc (Nat.le_refl _) _).alloc (by simp) _
end
theorem run_makeFn (fn : Fn) (first cap : Array Value) (w : World) : (Instr.makeFunc fn first cap).run Try.prog w = .ok (.func fn first cap) w := rfl

/-! ### isFact -/
theorem isFact_is {b : Bool} {cb : Nat} {A : Option Addr} {m c : Nat} {B : Option Addr} {k d : Nat} {bp bn : Nat} {rs : List Ru} {fs : List Int} {y n : Int → Bool} (x : Int) (w : World) (hC : Court w cb A m c B k d bp bn rs fs y n) (h : facB fs x = b) :
    Calls Try.prog 59 #[.pointer (some ⟨cb, 0, none⟩), .int .i64 x] w fun e w' => e = .returned (.bool b) ∧ w = w' := by
  have hc2 := hC.c2
  have hfr := hC.fr
  have hkl : k ≤ 2097152 := by have := hC.kl; omega
  clear hC
  go_enter Try.func59, Try.ntmps59
  go_wp2_with (go_at_call 71; refine (containsI_is _ _ _ fs x _ hfr hkl h).mono ?_; rintro e w' ⟨rfl, rfl⟩)
  go_ret
  exact ⟨rfl, rfl⟩

/-! ### holds, fails -/
theorem holds_clo {cb : Nat} {A : Option Addr} {m c : Nat} {B : Option Addr} {k d : Nat} {bp bn : Nat} {rs : List Ru} {fs : List Int} {y n : Int → Bool} (z : Int) (g : Nat) (w : World) (hC : Court w cb A m c B k d bp bn rs fs y n) (hg : w.cell? ⟨g, 0, none⟩ = some (.pointer (some ⟨cb, 0, none⟩))) (hz : I64b z) :
    Calls Try.prog 74 #[.int .i64 z, .pointer (some ⟨g, 0, none⟩)] w fun e w' => e = .returned (.bool (!y z)) ∧ w = w' := by
  have h1 := hC.c3
  have h2 := hC.my.look hz
  clear hC
  go_enter Try.func74, Try.ntmps74
  go_wp2_with fail
  go_ret
  exact ⟨rfl, rfl⟩
set_option maxHeartbeats 800000 in
theorem holds_index {cb : Nat} {A : Option Addr} {m c : Nat} {B : Option Addr} {k d : Nat} {bp bn : Nat} {rs : List Ru} {fs : List Int} {y n : Int → Bool} (D : Option Addr) (q e : Nat) (zs : List Int) (g : Nat) (w : World) (hr : Rd w w.heap.size 1 D q (ints zs)) (hq : q ≤ 1048576) (hz : I64s zs)
    (hC : Court w cb A m c B k d bp bn rs fs y n) (hg : w.cell? ⟨g, 0, none⟩ = some (.pointer (some ⟨cb, 0, none⟩))) :
    Calls Try.prog 78 #[.slice D q e, .func (.func 74) #[] #[.pointer (some ⟨g, 0, none⟩)]] w fun e w' => e = .returned (.int .i64 (findI (fun z => !y z) zs)) ∧ w = w' := by
  have HC := Lib.hid hC
  have HB := Lib.hid hz
  have HG := Lib.hid hg
  clear hC hz hg
  go_enter Try.func78, Try.ntmps78
  go_wp2
  go_loop [5, 8] (fun _ i => ∃ k : Nat, k ≤ q ∧ i = .int .i64 k ∧ (zs.take k).any (fun z => !y z) = false) (fun _ i => q - (intOf i).toNat)
  case atStart => exact ⟨0, Nat.zero_le _, rfl, rfl⟩
  case round =>
    obtain ⟨k, hk, rfl, ha⟩ := hrel
    have HA := Lib.hid ha
    clear ha
    have hlen := hr.ilen
    have HL := Lib.hid hlen
    by_cases hlt : k < q
    · obtain ⟨ad, rfl, hcz⟩ := hr.int hlt
      have hzb := HB.out _ (getD_mem (zs := zs) (k := k) (by omega))
      clear hr hlen
      obtain ⟨z, hz⟩ : ∃ z, z = zs[k]?.getD 0 := ⟨_, rfl⟩
      rw [← hz] at hcz hzb
      have HZ := Lib.hid hz
      have HZB := Lib.hid hzb
      clear hz hzb
      cases ho : !y z
      · have hs := Lib.hid (any_snoc (p := fun z => !y z) 0 HA.out (by have := HL.out; omega) (by rw [← HZ.out]; exact ho))
        have HO := Lib.hid ho
        clear ho
        go_wp2_with (go_at_call 74; refine (holds_clo z g _ HC.out HG.out HZB.out).mono ?_; rintro e w' ⟨rfl, rfl⟩; rw [HO.out])
        go_round
        case rel => exact ⟨k + 1, by omega, by go_num, hs.out⟩
        case measure => simp [intOf]; omega
      · have hfin := Lib.hid (findI_hit (p := fun z => !y z) 0 HA.out (by have := HL.out; omega) (by rw [← HZ.out]; exact ho))
        have HO := Lib.hid ho
        clear ho
        go_wp2_with (go_at_call 74; refine (holds_clo z g _ HC.out HG.out HZB.out).mono ?_; rintro e w' ⟨rfl, rfl⟩; rw [HO.out])
        go_ret
        exact ⟨by rw [hfin.out]; rfl, rfl⟩
    · obtain rfl : q = k := by omega
      have hfin := Lib.hid (findI_miss (p := fun z => !y z) (zs := zs) (by have := HA.out; rwa [List.take_of_length_le (by have := HL.out; omega)] at this))
      clear HA hlen
      go_wp2
      go_ret
      exact ⟨by rw [hfin.out]; rfl, rfl⟩
theorem holds_contains {cb : Nat} {A : Option Addr} {m c : Nat} {B : Option Addr} {k d : Nat} {bp bn : Nat} {rs : List Ru} {fs : List Int} {y n : Int → Bool} {b : Bool} (D : Option Addr) (q e : Nat) (zs : List Int) (g : Nat) (w : World) (hr : Rd w w.heap.size 1 D q (ints zs)) (hq : q ≤ 1048576) (hz : I64s zs)
    (hC : Court w cb A m c B k d bp bn rs fs y n) (hg : w.cell? ⟨g, 0, none⟩ = some (.pointer (some ⟨cb, 0, none⟩))) (h : (zs.any fun z => !y z) = b) :
    Calls Try.prog 73 #[.slice D q e, .func (.func 74) #[] #[.pointer (some ⟨g, 0, none⟩)]] w fun e w' => e = .returned (.bool b) ∧ w = w' := by
  subst h
  have hfin := Lib.hid (findI_nonneg (p := fun z => !y z) (zs := zs))
  have H := Lib.hid (holds_index D q e zs g w hr hq hz hC hg)
  clear hr hz hC hg
  go_enter Try.func73, Try.ntmps73
  go_wp2_with (go_at_call 78; refine H.out.mono ?_; rintro e w' ⟨rfl, rfl⟩)
  go_ret
  exact ⟨ret_bool (by rw [← hfin.out]), rfl⟩
theorem fails_clo {cb : Nat} {A : Option Addr} {m c : Nat} {B : Option Addr} {k d : Nat} {bp bn : Nat} {rs : List Ru} {fs : List Int} {y n : Int → Bool} (z : Int) (g : Nat) (w : World) (hC : Court w cb A m c B k d bp bn rs fs y n) (hg : w.cell? ⟨g, 0, none⟩ = some (.pointer (some ⟨cb, 0, none⟩))) (hz : I64b z) :
    Calls Try.prog 76 #[.int .i64 z, .pointer (some ⟨g, 0, none⟩)] w fun e w' => e = .returned (.bool (n z)) ∧ w = w' := by
  have h1 := hC.c4
  have h2 := hC.mn.look hz
  clear hC
  go_enter Try.func76, Try.ntmps76
  go_wp2_with fail
  go_ret
  exact ⟨rfl, rfl⟩
set_option maxHeartbeats 800000 in
theorem fails_index {cb : Nat} {A : Option Addr} {m c : Nat} {B : Option Addr} {k d : Nat} {bp bn : Nat} {rs : List Ru} {fs : List Int} {y n : Int → Bool} (D : Option Addr) (q e : Nat) (zs : List Int) (g : Nat) (w : World) (hr : Rd w w.heap.size 1 D q (ints zs)) (hq : q ≤ 1048576) (hz : I64s zs)
    (hC : Court w cb A m c B k d bp bn rs fs y n) (hg : w.cell? ⟨g, 0, none⟩ = some (.pointer (some ⟨cb, 0, none⟩))) :
    Calls Try.prog 78 #[.slice D q e, .func (.func 76) #[] #[.pointer (some ⟨g, 0, none⟩)]] w fun e w' => e = .returned (.int .i64 (findI (fun z => n z) zs)) ∧ w = w' := by
  have HC := Lib.hid hC
  have HB := Lib.hid hz
  have HG := Lib.hid hg
  clear hC hz hg
  go_enter Try.func78, Try.ntmps78
  go_wp2
  go_loop [5, 8] (fun _ i => ∃ k : Nat, k ≤ q ∧ i = .int .i64 k ∧ (zs.take k).any (fun z => n z) = false) (fun _ i => q - (intOf i).toNat)
  case atStart => exact ⟨0, Nat.zero_le _, rfl, rfl⟩
  case round =>
    obtain ⟨k, hk, rfl, ha⟩ := hrel
    have HA := Lib.hid ha
    clear ha
    have hlen := hr.ilen
    have HL := Lib.hid hlen
    by_cases hlt : k < q
    · obtain ⟨ad, rfl, hcz⟩ := hr.int hlt
      have hzb := HB.out _ (getD_mem (zs := zs) (k := k) (by omega))
      clear hr hlen
      obtain ⟨z, hz⟩ : ∃ z, z = zs[k]?.getD 0 := ⟨_, rfl⟩
      rw [← hz] at hcz hzb
      have HZ := Lib.hid hz
      have HZB := Lib.hid hzb
      clear hz hzb
      cases ho : n z
      · have hs := Lib.hid (any_snoc (p := fun z => n z) 0 HA.out (by have := HL.out; omega) (by rw [← HZ.out]; exact ho))
        have HO := Lib.hid ho
        clear ho
        go_wp2_with (go_at_call 76; refine (fails_clo z g _ HC.out HG.out HZB.out).mono ?_; rintro e w' ⟨rfl, rfl⟩; rw [HO.out])
        go_round
        case rel => exact ⟨k + 1, by omega, by go_num, hs.out⟩
        case measure => simp [intOf]; omega
      · have hfin := Lib.hid (findI_hit (p := fun z => n z) 0 HA.out (by have := HL.out; omega) (by rw [← HZ.out]; exact ho))
        have HO := Lib.hid ho
        clear ho
        go_wp2_with (go_at_call 76; refine (fails_clo z g _ HC.out HG.out HZB.out).mono ?_; rintro e w' ⟨rfl, rfl⟩; rw [HO.out])
        go_ret
        exact ⟨by rw [hfin.out]; rfl, rfl⟩
    · obtain rfl : q = k := by omega
      have hfin := Lib.hid (findI_miss (p := fun z => n z) (zs := zs) (by have := HA.out; rwa [List.take_of_length_le (by have := HL.out; omega)] at this))
      clear HA hlen
      go_wp2
      go_ret
      exact ⟨by rw [hfin.out]; rfl, rfl⟩
theorem fails_contains {cb : Nat} {A : Option Addr} {m c : Nat} {B : Option Addr} {k d : Nat} {bp bn : Nat} {rs : List Ru} {fs : List Int} {y n : Int → Bool} {b : Bool} (D : Option Addr) (q e : Nat) (zs : List Int) (g : Nat) (w : World) (hr : Rd w w.heap.size 1 D q (ints zs)) (hq : q ≤ 1048576) (hz : I64s zs)
    (hC : Court w cb A m c B k d bp bn rs fs y n) (hg : w.cell? ⟨g, 0, none⟩ = some (.pointer (some ⟨cb, 0, none⟩))) (h : (zs.any fun z => n z) = b) :
    Calls Try.prog 73 #[.slice D q e, .func (.func 76) #[] #[.pointer (some ⟨g, 0, none⟩)]] w fun e w' => e = .returned (.bool b) ∧ w = w' := by
  subst h
  have hfin := Lib.hid (findI_nonneg (p := fun z => n z) (zs := zs))
  have H := Lib.hid (fails_index D q e zs g w hr hq hz hC hg)
  clear hr hz hC hg
  go_enter Try.func73, Try.ntmps73
  go_wp2_with (go_at_call 78; refine H.out.mono ?_; rintro e w' ⟨rfl, rfl⟩)
  go_ret
  exact ⟨ret_bool (by rw [← hfin.out]), rfl⟩
theorem holds_is {cb : Nat} {A : Option Addr} {m c : Nat} {B : Option Addr} {k d : Nat} {bp bn : Nat} {rs : List Ru} {fs : List Int} {y n : Int → Bool} {b : Bool} (r : Ru) (w : World) (hC : Court w cb A m c B k d bp bn rs fs y n) (hr : Rd w w.heap.size 1 r.A r.n (ints r.ifs)) (hn : r.n ≤ 1048576) (hz : I64s r.ifs) (h : holdsB y r.dat = b) :
    Calls Try.prog 61 #[.pointer (some ⟨cb, 0, none⟩), .agg #[.int .i64 r.hd, .slice r.A r.n r.c, .int .i64 r.fr, .int .i64 r.tt, .int .i64 r.rk]] w fun e w' => e = .returned (.bool b) ∧ Below w.heap.size w w' := by
  obtain ⟨hd, fr, tt, rk, Ai, ni, ci, ifs⟩ := r
  have HC := Lib.hid hC
  have HR := Lib.hid hr
  have HZ := Lib.hid hz
  have HF := Lib.hid (show (ifs.any fun z => !y z) = !b by
    rw [← h]; unfold holdsB; simp only [Ru.dat]; rw [List.any_eq_not_all_not]; simp)
  dsimp only at hn HR HZ
  clear hC hr hz h
  have hmf := run_makeFn
  go_enter Try.func61, Try.ntmps61
  go_wp2_with fail
  refine (holds_contains _ _ _ ifs w.heap.size _ (HR.out.on (bl_aa _ _)) hn HZ.out (HC.out.on (bl_aa _ _)) (by go_simp) HF.out).mono ?_
  rintro e w' ⟨rfl, rfl⟩
  go_wp2_with fail
  go_ret
  exact ⟨by simp, bl_aa _ _⟩
theorem fails_is {cb : Nat} {A : Option Addr} {m c : Nat} {B : Option Addr} {k d : Nat} {bp bn : Nat} {rs : List Ru} {fs : List Int} {y n : Int → Bool} {b : Bool} (r : Ru) (w : World) (hC : Court w cb A m c B k d bp bn rs fs y n) (hr : Rd w w.heap.size 1 r.A r.n (ints r.ifs)) (hn : r.n ≤ 1048576) (hz : I64s r.ifs) (h : failsB n r.dat = b) :
    Calls Try.prog 64 #[.pointer (some ⟨cb, 0, none⟩), .agg #[.int .i64 r.hd, .slice r.A r.n r.c, .int .i64 r.fr, .int .i64 r.tt, .int .i64 r.rk]] w fun e w' => e = .returned (.bool b) ∧ Below w.heap.size w w' := by
  obtain ⟨hd, fr, tt, rk, Ai, ni, ci, ifs⟩ := r
  have HC := Lib.hid hC
  have HR := Lib.hid hr
  have HZ := Lib.hid hz
  have HF := Lib.hid (show (ifs.any fun z => n z) = b from h)
  dsimp only at hn HR HZ
  clear hC hr hz h
  have hmf := run_makeFn
  go_enter Try.func64, Try.ntmps64
  go_wp2_with fail
  refine (fails_contains _ _ _ ifs w.heap.size _ (HR.out.on (bl_aa _ _)) hn HZ.out (HC.out.on (bl_aa _ _)) (by go_simp) HF.out).mono ?_
  rintro e w' ⟨rfl, rfl⟩
  go_wp2_with fail
  go_ret
  exact ⟨rfl, bl_aa _ _⟩

/-! ### a function value that says of a rule -/
theorem enters_body {f : FuncId} {fn : Func} {c : Code} (hf : Try.prog.funcs[f]? = some fn) (hname : (fn.name == "runtime.NumGoroutine") = false) (hb : fn.body = some c) : ∀ (args : Array Value) (w : World), (callFunc f args).run Try.prog w = .ok (.enter f args) w := by
  intro args w
  have h1 : fn.name ≠ "runtime.NumGoroutine" := by simpa using hname
  simp [callFunc, hf, h1, hb, mark]
def aggR (r : Ru) : Value := .agg #[.int .i64 r.hd, .slice r.A r.n r.c, .int .i64 r.fr, .int .i64 r.tt, .int .i64 r.rk]
/-- called with a rule, it returns p of the rule, and nothing that was there changes -/
structure PredF (W : World) (g : FuncId) (first cap : Array Value) (p : Rl → Bool) : Prop where
  eg : ∀ (args : Array Value) (w : World), (callFunc g args).run Try.prog w = .ok (.enter g args) w
  is : ∀ (w : World) (r : Ru), Below W.heap.size W w → Rd w w.heap.size 1 r.A r.n (ints r.ifs) → r.n ≤ 1048576 → I64s r.ifs →
    Calls Try.prog g (first ++ #[aggR r] ++ cap) w fun e w' => e = .returned (.bool (p r.dat)) ∧ Below w.heap.size w w'
theorem PredF.on {W W' : World} {g : FuncId} {first cap : Array Value} {p : Rl → Bool} (h : PredF W g first cap p) (hb : Below W.heap.size W W') : PredF W' g first cap p :=
  ⟨h.eg, fun w r hw => h.is w r (below_step hb hw)⟩
set_option maxHeartbeats 800000 in
theorem some1_is (r : Ru) (x : Int) (p : Rl → Bool) (g : FuncId) (first cap : Array Value) (g1 g2 : Nat) (w : World) (hP : PredF w g first cap p) (h1 : w.cell? ⟨g1, 0, none⟩ = some (.int .i64 x)) (l1 : g1 < w.heap.size) (h2 : w.cell? ⟨g2, 0, none⟩ = some (.func (.func g) first cap)) (l2 : g2 < w.heap.size)
    (hr : Rd w w.heap.size 1 r.A r.n (ints r.ifs)) (hn : r.n ≤ 1048576) (hz : I64s r.ifs) :
    Calls Try.prog 72 #[aggR r, .pointer (some ⟨g1, 0, none⟩), .pointer (some ⟨g2, 0, none⟩)] w fun e w' => e = .returned (.bool ((r.hd == x) && p r.dat)) ∧ Below w.heap.size w w' := by
  unfold aggR
  rcases Bool.eq_false_or_eq_true (r.hd == x) with t1 | t1
  · have HP := Lib.hid hP
    have HR := Lib.hid hr
    have HZ := Lib.hid hz
    have heg := hP.eg
    have HF := Lib.hid (show ((r.hd == x) && p r.dat) = p r.dat by rw [t1]; rfl)
    clear hP hr hz
    go_enter Try.func72, Try.ntmps72
    go_wp2_with fail
    refine (HP.out.is _ r (bl_a _) (HR.out.on (bl_a _)) hn HZ.out).mono ?_
    rintro e w' ⟨rfl, hb⟩
    go_wp2_with fail
    go_ret
    exact ⟨ret_bool HF.out.symm, below_step (bl_a _) hb⟩
  · have HF := Lib.hid (show ((r.hd == x) && p r.dat) = false by rw [t1]; rfl)
    clear hP hr hz
    go_enter Try.func72, Try.ntmps72
    go_wp2_with fail
    go_ret
    exact ⟨ret_bool HF.out.symm, bl_a _⟩
end Go.Proofs.Ytmfglflahlddbaa
