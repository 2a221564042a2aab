/-
  IsProof: what it says; the program's function value.
-/
import Derived.Test.YtinocfehjdlohaaAnsB
import Derived.Test.YtinocfehjdlohaaRuOpp
namespace Go.Proofs.Ytinocfehjdlohaa
open Go.ChangeShapes Go.WideShapes Go.ChangeAt Go.RowKit
set_option linter.unusedVariables false
set_option linter.unusedSimpArgs false

theorem ip_clo {cb : Nat} {A : Option Addr} {m c : Nat} {B : Option Addr} {k d : Nat} {bp bn : Nat} {rs : List Ru} {fs : List Int} {y n : Int → Bool} (z : Int) (g : Nat) (w : World) (hC : Court w cb A m c B k d bp bn rs fs y n) (hg : w.cell? ⟨g, 0, none⟩ = some (.pointer (some ⟨cb, 0, none⟩))) (gm g2 : Nat) (kn : Int → Bool) (hm : MapB w gm kn) (hg2 : w.cell? ⟨g2, 0, none⟩ = some (.map (some gm))) (hz : I64b z) :
    Calls Try.prog 60 #[.int .i64 z, .pointer (some ⟨g, 0, none⟩), .pointer (some ⟨g2, 0, none⟩)] w fun e w' => e = .returned (.bool ((!facB fs z && !kn z))) ∧ w = w' := by
  have h2 := hm.look hz
  have HC := Lib.hid hC
  clear hC hm
  cases hf : facB fs z
  · have HF := Lib.hid hf
    clear hf
    go_enter Try.func60, Try.ntmps60
    go_wp2_with (go_at_call 58; refine (isFact_is z _ HC.out HF.out).mono ?_; rintro e w' ⟨rfl, rfl⟩)
    go_ret
    exact ⟨ret_bool (by simp), rfl⟩
  · have HF := Lib.hid hf
    clear hf
    go_enter Try.func60, Try.ntmps60
    go_wp2_with (go_at_call 58; refine (isFact_is z _ HC.out HF.out).mono ?_; rintro e w' ⟨rfl, rfl⟩)
    go_ret
    exact ⟨ret_bool (by simp), rfl⟩
set_option maxHeartbeats 800000 in
theorem ip_index {cb : Nat} {A : Option Addr} {m c : Nat} {B : Option Addr} {k d : Nat} {bp bn : Nat} {rs : List Ru} {fs : List Int} {y n : Int → Bool} (D : Option Addr) (q e : Nat) (zs : List Int) (g : Nat) (w : World) (hr : Rd w w.heap.size 1 D q (ints zs)) (hq : q ≤ 1048576) (hz : I64s zs)
    (hC : Court w cb A m c B k d bp bn rs fs y n) (hg : w.cell? ⟨g, 0, none⟩ = some (.pointer (some ⟨cb, 0, none⟩))) (gm g2 : Nat) (kn : Int → Bool) (hm : MapB w gm kn) (hg2 : w.cell? ⟨g2, 0, none⟩ = some (.map (some gm))) :
    Calls Try.prog 87 #[.slice D q e, .func (.func 60) #[] #[.pointer (some ⟨g, 0, none⟩), .pointer (some ⟨g2, 0, none⟩)]] w fun e w' => e = .returned (.int .i64 (findI (fun z => (!facB fs z && !kn z)) zs)) ∧ w = w' := by
  have HC := Lib.hid hC
  have HB := Lib.hid hz
  have HG := Lib.hid hg
  have HM := Lib.hid hm
  have HG2 := Lib.hid hg2
  clear hC hz hg hm hg2
  go_enter Try.func87, Try.ntmps87
  go_wp2
  go_loop [5, 8] (fun _ i => ∃ k : Nat, k ≤ q ∧ i = .int .i64 k ∧ (zs.take k).any (fun z => (!facB fs z && !kn z)) = false) (fun _ i => q - (intOf i).toNat)
  case atStart => exact ⟨0, Nat.zero_le _, rfl, rfl⟩
  case round =>
    obtain ⟨k, hk, rfl, ha⟩ := hrel
    have HA := Lib.hid ha
    clear ha
    have hlen := hr.ilen
    have HL := Lib.hid hlen
    by_cases hlt : k < q
    · obtain ⟨ad, rfl, hcz⟩ := hr.int hlt
      have hzb := HB.out _ (getD_mem (zs := zs) (k := k) (by omega))
      clear hr hlen
      obtain ⟨z, hz⟩ : ∃ z, z = zs[k]?.getD 0 := ⟨_, rfl⟩
      rw [← hz] at hcz hzb
      have HZ := Lib.hid hz
      have HZB := Lib.hid hzb
      clear hz hzb
      cases ho : (!facB fs z && !kn z)
      · have hs := Lib.hid (any_snoc (p := fun z => (!facB fs z && !kn z)) 0 HA.out (by have := HL.out; omega) (by rw [← HZ.out]; exact ho))
        have HO := Lib.hid ho
        clear ho
        go_wp2_with (go_at_call 60; refine (ip_clo z g _ HC.out HG.out gm g2 kn HM.out HG2.out HZB.out).mono ?_; rintro e w' ⟨rfl, rfl⟩; rw [HO.out])
        go_round
        case rel => exact ⟨k + 1, by omega, by go_num, hs.out⟩
        case measure => simp [intOf]; omega
      · have hfin := Lib.hid (findI_hit (p := fun z => (!facB fs z && !kn z)) 0 HA.out (by have := HL.out; omega) (by rw [← HZ.out]; exact ho))
        have HO := Lib.hid ho
        clear ho
        go_wp2_with (go_at_call 60; refine (ip_clo z g _ HC.out HG.out gm g2 kn HM.out HG2.out HZB.out).mono ?_; rintro e w' ⟨rfl, rfl⟩; rw [HO.out])
        go_ret
        exact ⟨by rw [hfin.out]; rfl, rfl⟩
    · obtain rfl : q = k := by omega
      have hfin := Lib.hid (findI_miss (p := fun z => (!facB fs z && !kn z)) (zs := zs) (by have := HA.out; rwa [List.take_of_length_le (by have := HL.out; omega)] at this))
      clear HA hlen
      go_wp2
      go_ret
      exact ⟨by rw [hfin.out]; rfl, rfl⟩
theorem ip_contains {cb : Nat} {A : Option Addr} {m c : Nat} {B : Option Addr} {k d : Nat} {bp bn : Nat} {rs : List Ru} {fs : List Int} {y n : Int → Bool} {b : Bool} (D : Option Addr) (q e : Nat) (zs : List Int) (g : Nat) (w : World) (hr : Rd w w.heap.size 1 D q (ints zs)) (hq : q ≤ 1048576) (hz : I64s zs)
    (hC : Court w cb A m c B k d bp bn rs fs y n) (hg : w.cell? ⟨g, 0, none⟩ = some (.pointer (some ⟨cb, 0, none⟩))) (gm g2 : Nat) (kn : Int → Bool) (hm : MapB w gm kn) (hg2 : w.cell? ⟨g2, 0, none⟩ = some (.map (some gm))) (h : (zs.any fun z => (!facB fs z && !kn z)) = b) :
    Calls Try.prog 59 #[.slice D q e, .func (.func 60) #[] #[.pointer (some ⟨g, 0, none⟩), .pointer (some ⟨g2, 0, none⟩)]] w fun e w' => e = .returned (.bool b) ∧ w = w' := by
  subst h
  have hfin := Lib.hid (findI_nonneg (p := fun z => (!facB fs z && !kn z)) (zs := zs))
  have H := Lib.hid (ip_index D q e zs g w hr hq hz hC hg gm g2 kn hm hg2)
  clear hr hz hC hg hm hg2
  go_enter Try.func59, Try.ntmps59
  go_wp2_with (go_at_call 87; refine H.out.mono ?_; rintro e w' ⟨rfl, rfl⟩)
  go_ret
  exact ⟨ret_bool (by rw [← hfin.out]), rfl⟩

/-! ### what it says -/
def ruD (ds : List Rl) (i : Int) : Rl := ds[i.toNat]?.getD noRl
def psD (ds : List Rl) (ps : List Int) (k : Nat) : Rl := ruD ds (ps[k]?.getD 0)
def ipOk (ds : List Rl) (fs : List Int) (day : Int) (ps : List Int) (x : Int) : Bool := courtOk ds fs day && (wordB x && allIn ps 0 ((ds.length : Int) - 1))
/-- the heads of the first k -/
def knTo (ds : List Rl) (ps : List Int) : Nat → Int → Bool
  | 0 => fun _ => false
  | k + 1 => putB (knTo ds ps k) (psD ds ps k).hd
noncomputable def ipStep (ds : List Rl) (fs : List Int) (day : Int) (ps : List Int) (k : Nat) : Bool :=
  onB (psD ds ps k) day && (yesB ds fs day (psD ds ps k).hd && (psD ds ps k).ifs.all fun z => facB fs z || knTo ds ps k z)
noncomputable def ipRun (ds : List Rl) (fs : List Int) (day : Int) (ps : List Int) (k : Nat) : Bool := (List.range k).all fun j => ipStep ds fs day ps j
noncomputable def IsProof_r0 (ds : List Rl) (fs : List Int) (day : Int) (ps : List Int) (x : Int) : Bool :=
  ipOk ds fs day ps x && (if ps.length = 0 then facB fs x else ipRun ds fs day ps ps.length && ((psD ds ps (ps.length - 1)).hd == x))
def IsProof_r1 (ds : List Rl) (fs : List Int) (day : Int) (ps : List Int) (x : Int) : Bool := ipOk ds fs day ps x
section
variable {ds : List Rl} {fs ps : List Int} {day x : Int} {k : Nat}
theorem ipOk_iff : ipOk ds fs day ps x = true ↔ courtOk ds fs day = true ∧ wordB x = true ∧ allIn ps 0 ((ds.length : Int) - 1) = true := by simp [ipOk]
theorem ip_no (h : ipOk ds fs day ps x = false) : IsProof_r0 ds fs day ps x = false ∧ IsProof_r1 ds fs day ps x = false := by simp [IsProof_r0, IsProof_r1, h]
theorem ip_none (h : ipOk ds fs day ps x = true) (hn : ps.length = 0) : IsProof_r0 ds fs day ps x = facB fs x ∧ IsProof_r1 ds fs day ps x = true := by simp [IsProof_r0, IsProof_r1, h, hn]
theorem ipRun_succ : ipRun ds fs day ps (k + 1) = (ipRun ds fs day ps k && ipStep ds fs day ps k) := by unfold ipRun; rw [List.range_succ, List.all_append]; simp
theorem ipRun_not (hk : k < ps.length) (h : ipStep ds fs day ps k = false) : ipRun ds fs day ps ps.length = false := by
  unfold ipRun; rw [List.all_eq_false]
  exact ⟨k, List.mem_range.2 hk, by simp [h]⟩
theorem ip_bad (h : ipOk ds fs day ps x = true) (hk : k < ps.length) (hs : ipStep ds fs day ps k = false) : IsProof_r0 ds fs day ps x = false ∧ IsProof_r1 ds fs day ps x = true := by
  have := ipRun_not hk hs
  have h1 : ¬ ps.length = 0 := by omega
  unfold IsProof_r0 IsProof_r1
  rw [h, if_neg h1, this]
  simp
theorem ip_end (h : ipOk ds fs day ps x = true) (hk : k + 1 = ps.length) (hs : ipRun ds fs day ps ps.length = true) : IsProof_r0 ds fs day ps x = ((psD ds ps k).hd == x) ∧ IsProof_r1 ds fs day ps x = true := by
  have h1 : ¬ ps.length = 0 := by omega
  have h2 : ps.length - 1 = k := by omega
  simp [IsProof_r0, IsProof_r1, h, hs, h1, h2]
theorem all_any {f g : Int → Bool} (zs : List Int) : (zs.all fun z => f z || g z) = !(zs.any fun z => !f z && !g z) := by
  rw [List.all_eq_not_any_not]
  congr 2
  funext z
  simp
end
end Go.Proofs.Ytinocfehjdlohaa
