/-
  RULES: ValidRule, AreRules: what the program's and the reference's functions return.
-/
import Derived.Test.YtmfglflahlddbaaRuFn
namespace Go.Proofs.Ytmfglflahlddbaa
open Go.ChangeShapes Go.WideShapes Go.ChangeAt Go.RowKit
set_option linter.unusedVariables false
set_option linter.unusedSimpArgs false

def validB (d : Rl) : Bool := wordB d.hd && ((wordsB d.ifs && decide ((d.ifs.length : Int) ≤ 6)) && (inB d.fr 0 100000 && (inB d.tt 0 100000 && (decide (d.fr ≤ d.tt) && inB d.rk 0 100))))
def rulesB (ds : List Rl) : Bool := decide (ds.length ≤ 24) && ds.all validB
theorem areWords_is {zs : List Int} {mo : Int} {b : Bool} (A : Option Addr) (n c : Nat) (w : World) (hr : Rd w w.heap.size 1 A n (ints zs)) (hn : n ≤ 1048576) (hz : I64s zs) (h : (wordsB zs && decide ((n : Int) ≤ mo)) = b) :
    Calls Try.prog 30 #[.slice A n c, .int .i64 mo] w fun e w' => e = .returned (.bool b) ∧ w = w' := by
  subst h; exact areWords_any A n c zs mo w hr hn hz
set_option maxHeartbeats 3200000 in
theorem validRule_any (hd fr tt rk : Int) (A : Option Addr) (n c : Nat) (ifs : List Int) (w : World) (hr : Rd w w.heap.size 1 A n (ints ifs)) (hn : n ≤ 1048576) (hz : I64s ifs) :
    Calls Try.prog 42 #[.agg #[.int .i64 hd, .slice A n c, .int .i64 fr, .int .i64 tt, .int .i64 rk]] w fun e w' => e = .returned (.bool (validB ⟨hd, ifs, fr, tt, rk⟩)) ∧ Below w.heap.size w w' := by
  have HL := Lib.hid hr.ilen
  have HR := Lib.hid hr
  have HZ := Lib.hid hz
  clear hr hz
  cases h2 : (wordsB ifs && decide ((n : Int) ≤ 6))
  all_goals have H2 := Lib.hid h2
  all_goals rw [← HL.out] at H2
  all_goals cases h1 : wordB hd
  · have hfin := Lib.hid (show validB ⟨hd, ifs, fr, tt, rk⟩ = false by simp [validB, h1])
    go_enter Try.func42, Try.ntmps42
    go_wp2_with (first | (go_at_call 45; refine (isWord_any _ _).mono ?_; rintro e w' ⟨rfl, rfl⟩) | (go_at_call 30; refine (areWords_is _ _ _ _ ((HR.out.alloc (Nat.le_refl _) _).more (by simp)) hn HZ.out h2).mono ?_; rintro e w' ⟨rfl, rfl⟩) | (go_at_call 26; refine (isDate_any _ _).mono ?_; rintro e w' ⟨rfl, rfl⟩) | (go_at_call 43; refine (within_any _ _ _ _).mono ?_; rintro e w' ⟨rfl, rfl⟩))
    go_ret
    exact ⟨by rw [hfin.out]; rfl, (Below.refl _ _).alloc (Nat.le_refl _) _⟩
  · have hfin := Lib.hid (show validB ⟨hd, ifs, fr, tt, rk⟩ = false by simp only [validB, H2.out]; simp)
    go_enter Try.func42, Try.ntmps42
    go_wp2_with (first | (go_at_call 45; refine (isWord_any _ _).mono ?_; rintro e w' ⟨rfl, rfl⟩) | (go_at_call 30; refine (areWords_is _ _ _ _ ((HR.out.alloc (Nat.le_refl _) _).more (by simp)) hn HZ.out h2).mono ?_; rintro e w' ⟨rfl, rfl⟩) | (go_at_call 26; refine (isDate_any _ _).mono ?_; rintro e w' ⟨rfl, rfl⟩) | (go_at_call 43; refine (within_any _ _ _ _).mono ?_; rintro e w' ⟨rfl, rfl⟩))
    go_ret
    exact ⟨by rw [hfin.out]; rfl, (Below.refl _ _).alloc (Nat.le_refl _) _⟩
  · have hfin := Lib.hid (show validB ⟨hd, ifs, fr, tt, rk⟩ = false by simp [validB, h1])
    go_enter Try.func42, Try.ntmps42
    go_wp2_with (first | (go_at_call 45; refine (isWord_any _ _).mono ?_; rintro e w' ⟨rfl, rfl⟩) | (go_at_call 30; refine (areWords_is _ _ _ _ ((HR.out.alloc (Nat.le_refl _) _).more (by simp)) hn HZ.out h2).mono ?_; rintro e w' ⟨rfl, rfl⟩) | (go_at_call 26; refine (isDate_any _ _).mono ?_; rintro e w' ⟨rfl, rfl⟩) | (go_at_call 43; refine (within_any _ _ _ _).mono ?_; rintro e w' ⟨rfl, rfl⟩))
    go_ret
    exact ⟨by rw [hfin.out]; rfl, (Below.refl _ _).alloc (Nat.le_refl _) _⟩
  cases h3 : inB fr 0 100000
  · have hfin := Lib.hid (show validB ⟨hd, ifs, fr, tt, rk⟩ = false by simp [validB, h3])
    go_enter Try.func42, Try.ntmps42
    go_wp2_with (first | (go_at_call 45; refine (isWord_any _ _).mono ?_; rintro e w' ⟨rfl, rfl⟩) | (go_at_call 30; refine (areWords_is _ _ _ _ ((HR.out.alloc (Nat.le_refl _) _).more (by simp)) hn HZ.out h2).mono ?_; rintro e w' ⟨rfl, rfl⟩) | (go_at_call 26; refine (isDate_any _ _).mono ?_; rintro e w' ⟨rfl, rfl⟩) | (go_at_call 43; refine (within_any _ _ _ _).mono ?_; rintro e w' ⟨rfl, rfl⟩))
    go_ret
    exact ⟨by rw [hfin.out]; rfl, (Below.refl _ _).alloc (Nat.le_refl _) _⟩
  cases h4 : inB tt 0 100000
  · have hfin := Lib.hid (show validB ⟨hd, ifs, fr, tt, rk⟩ = false by simp [validB, h4])
    go_enter Try.func42, Try.ntmps42
    go_wp2_with (first | (go_at_call 45; refine (isWord_any _ _).mono ?_; rintro e w' ⟨rfl, rfl⟩) | (go_at_call 30; refine (areWords_is _ _ _ _ ((HR.out.alloc (Nat.le_refl _) _).more (by simp)) hn HZ.out h2).mono ?_; rintro e w' ⟨rfl, rfl⟩) | (go_at_call 26; refine (isDate_any _ _).mono ?_; rintro e w' ⟨rfl, rfl⟩) | (go_at_call 43; refine (within_any _ _ _ _).mono ?_; rintro e w' ⟨rfl, rfl⟩))
    go_ret
    exact ⟨by rw [hfin.out]; rfl, (Below.refl _ _).alloc (Nat.le_refl _) _⟩
  by_cases h5 : fr ≤ tt
  · have hfin := Lib.hid (show validB ⟨hd, ifs, fr, tt, rk⟩ = inB rk 0 100 by simp only [validB, H2.out, h1, h3, h4]; simp [h5])
    go_enter Try.func42, Try.ntmps42
    go_wp2_with (first | (go_at_call 45; refine (isWord_any _ _).mono ?_; rintro e w' ⟨rfl, rfl⟩) | (go_at_call 30; refine (areWords_is _ _ _ _ ((HR.out.alloc (Nat.le_refl _) _).more (by simp)) hn HZ.out h2).mono ?_; rintro e w' ⟨rfl, rfl⟩) | (go_at_call 26; refine (isDate_any _ _).mono ?_; rintro e w' ⟨rfl, rfl⟩) | (go_at_call 43; refine (within_any _ _ _ _).mono ?_; rintro e w' ⟨rfl, rfl⟩))
    go_ret
    exact ⟨by rw [hfin.out]; rfl, (Below.refl _ _).alloc (Nat.le_refl _) _⟩
  · have hfin := Lib.hid (show validB ⟨hd, ifs, fr, tt, rk⟩ = false by simp [validB, h5])
    go_enter Try.func42, Try.ntmps42
    go_wp2_with (first | (go_at_call 45; refine (isWord_any _ _).mono ?_; rintro e w' ⟨rfl, rfl⟩) | (go_at_call 30; refine (areWords_is _ _ _ _ ((HR.out.alloc (Nat.le_refl _) _).more (by simp)) hn HZ.out h2).mono ?_; rintro e w' ⟨rfl, rfl⟩) | (go_at_call 26; refine (isDate_any _ _).mono ?_; rintro e w' ⟨rfl, rfl⟩) | (go_at_call 43; refine (within_any _ _ _ _).mono ?_; rintro e w' ⟨rfl, rfl⟩))
    go_ret
    exact ⟨by rw [hfin.out]; rfl, (Below.refl _ _).alloc (Nat.le_refl _) _⟩
/-- what the walks ask of every rule of a list -/
def RuN (rs : List Ru) : Prop := ∀ r ∈ rs, r.n ≤ 1048576 ∧ I64s r.ifs
theorem areRules1_any (hd fr tt rk : Int) (A : Option Addr) (n c : Nat) (ifs : List Int) (w : World) (hr : Rd w w.heap.size 1 A n (ints ifs)) (hn : n ≤ 1048576) (hz : I64s ifs) {b : Bool} (h : (fun r : Ru => !validB r.dat) ⟨hd, fr, tt, rk, A, n, c, ifs⟩ = b) :
    Calls Try.prog 41 #[.agg #[.int .i64 hd, .slice A n c, .int .i64 fr, .int .i64 tt, .int .i64 rk]] w fun e w' => e = .returned (.bool b) ∧ Below w.heap.size w w' := by
  have hfin := Lib.hid (show (!validB ⟨hd, ifs, fr, tt, rk⟩) = b from h)
  clear h
  go_enter Try.func41, Try.ntmps41
  go_wp2_with (go_at_call 42; refine (validRule_any hd fr tt rk A n c ifs _ ((hr.alloc (Nat.le_refl _) _).more (by simp)) hn hz).mono ?_; rintro e w1 ⟨rfl, hb⟩)
  go_ret
  exact ⟨by rw [← hfin.out]; rfl, ((Below.refl _ _).alloc (Nat.le_refl _) _).trans (hb.mono (by simp))⟩
set_option maxHeartbeats 800000 in
theorem index_areRules (A : Option Addr) (m c : Nat) (rs : List Ru) (w : World) (hr : RRd w w.heap.size A m rs) (hm : m ≤ 1048576) (hB : RuN rs) :
    Calls Try.prog 58 #[.slice A m c, .func (.func 41) #[] #[]] w fun e w' => e = .returned (.int .i64 (findI (fun r : Ru => !validB r.dat) rs)) ∧ Below w.heap.size w w' := by
  have HL := Lib.hid hr.len
  have HN := Lib.hid hB
  clear hB
  go_enter Try.func58, Try.ntmps58
  go_wp2
  go_loopw [5, 8] (fun _ i wr => ∃ k : Nat, k ≤ m ∧ i = .int .i64 k ∧ (rs.take k).any (fun r : Ru => !validB r.dat) = false ∧ Below w.heap.size w wr) (fun _ i _ => m - (intOf i).toNat)
  case atStart => exact ⟨0, Nat.zero_le _, rfl, rfl, Below.refl _ _⟩
  case round =>
    obtain ⟨k, hk, rfl, ha, hb⟩ := hrel
    have HA := Lib.hid ha
    clear ha
    by_cases hlt : k < m
    · obtain ⟨ad, r, rfl, _, hrk, hc0, hc1, hc2, hc3, hc4, hri⟩ := (hr.below hb).row hlt
      obtain ⟨q1, q2⟩ := HN.out r (List.mem_of_getElem? hrk)
      have HRI := Lib.hid (hri.more hb.size)
      have HZ := Lib.hid q2
      have HK := Lib.hid hrk
      have HB := Lib.hid hb
      have hkl : k < rs.length := (List.getElem?_eq_some_iff.1 hrk).1
      have htk := Lib.hid (show rs.take (k + 1) = rs.take k ++ [r] by rw [List.take_add_one, hrk]; rfl)
      have hdd := Lib.hid (show rs[k]?.getD r = r by rw [hrk]; rfl)
      have HKL := Lib.hid hkl
      clear hr hri q2 hrk hb hkl
      obtain ⟨hd, fr, tt, rk, Ai, ni, ci, ifs⟩ := r
      dsimp only at hc0 hc1 hc2 hc3 hc4 q1 HRI HZ
      cases h0 : (fun r : Ru => !validB r.dat) ⟨hd, fr, tt, rk, Ai, ni, ci, ifs⟩
      · have hfin := Lib.hid (show (rs.take (k + 1)).any (fun r : Ru => !validB r.dat) = false by
          rw [htk.out, List.any_append, HA.out]; simpa using h0)
        go_wp2_with (go_at_call 41; refine (areRules1_any hd fr tt rk Ai ni ci ifs _ HRI.out q1 HZ.out h0).mono ?_; rintro e w' ⟨rfl, hb2⟩)
        go_roundw
        case rel => exact ⟨k + 1, by omega, by go_num, hfin.out, below_step HB.out hb2⟩
        case measure => simp [intOf]; omega
      · have hfin := Lib.hid (findI_hit (p := fun r : Ru => !validB r.dat) _ HA.out HKL.out (by rw [hdd.out]; exact h0))
        go_wp2_with (go_at_call 41; refine (areRules1_any hd fr tt rk Ai ni ci ifs _ HRI.out q1 HZ.out h0).mono ?_; rintro e w' ⟨rfl, hb2⟩)
        go_ret
        exact ⟨by rw [hfin.out]; rfl, below_step HB.out hb2⟩
    · obtain rfl : m = k := by omega
      have hfin := Lib.hid (findI_miss (p := fun r : Ru => !validB r.dat) (zs := rs) (by have := HA.out; rwa [List.take_of_length_le (by have := HL.out; omega)] at this))
      clear HA hr
      go_wp2
      go_ret
      exact ⟨by rw [hfin.out]; rfl, hb⟩
theorem contains_areRules (A : Option Addr) (m c : Nat) (rs : List Ru) (w : World) (hr : RRd w w.heap.size A m rs) (hm : m ≤ 1048576) (hB : RuN rs) :
    Calls Try.prog 40 #[.slice A m c, .func (.func 41) #[] #[]] w fun e w' => e = .returned (.bool (rs.any (fun r : Ru => !validB r.dat))) ∧ Below w.heap.size w w' := by
  have hfin := Lib.hid (findI_nonneg (p := fun r : Ru => !validB r.dat) (zs := rs))
  go_enter Try.func40, Try.ntmps40
  go_wp2_with (go_at_call 58; refine (index_areRules _ _ _ rs _ hr hm hB).mono ?_; rintro e w' ⟨rfl, hb2⟩)
  go_ret
  exact ⟨ret_bool (by rw [← hfin.out]), hb2⟩
theorem rules_any (rs : List Ru) : (!rs.any fun r => !validB r.dat) = (rs.map Ru.dat).all validB := by
  simp [List.any_eq_not_all_not, List.all_map, Function.comp_def]
theorem areRules_any (A : Option Addr) (m c : Nat) (rs : List Ru) (w : World) (hr : RRd w w.heap.size A m rs) (hm : m ≤ 1048576) (hB : RuN rs) :
    Calls Try.prog 25 #[.slice A m c] w fun e w' => e = .returned (.bool (rulesB (rs.map Ru.dat))) ∧ Below w.heap.size w w' := by
  have HL := Lib.hid hr.len
  by_cases h : m ≤ 24
  · have hfin := Lib.hid (show rulesB (rs.map Ru.dat) = !rs.any fun r => !validB r.dat by rw [rules_any]; unfold rulesB; rw [List.length_map, HL.out]; simp [h])
    go_enter Try.func25, Try.ntmps25
    go_wp2_with (go_at_call 40; refine (contains_areRules _ _ _ rs _ hr hm hB).mono ?_; rintro e w' ⟨rfl, hb2⟩)
    go_ret
    exact ⟨by rw [hfin.out]; rfl, hb2⟩
  · have hfin := Lib.hid (show rulesB (rs.map Ru.dat) = false by unfold rulesB; rw [List.length_map, HL.out]; simp [h])
    go_enter Try.func25, Try.ntmps25
    go_wp2
    go_ret
    exact ⟨by rw [hfin.out]; rfl, Below.refl _ _⟩
/-- a rule behind a pointer -/
structure AtP (w : World) (p : Addr) (r : Ru) : Prop where
  c0 : w.cell? p = some (.int .i64 r.hd)
  c1 : w.cell? { block := p.block, off := p.off + 1 } = some (.slice r.A r.n r.c)
  c2 : w.cell? { block := p.block, off := p.off + 2 } = some (.int .i64 r.fr)
  c3 : w.cell? { block := p.block, off := p.off + 3 } = some (.int .i64 r.tt)
  c4 : w.cell? { block := p.block, off := p.off + 4 } = some (.int .i64 r.rk)
theorem quietD {P : Program} {f : FuncId} {args : Array Value} {w : World} {n : Nat} {v : Value}
    (h : Calls P f args (w.drewN n) fun e w' => e = .returned v ∧ ∃ m, w' = (w.drewN n).drewN m) : Calls P f args (w.drewN n) fun e w'' => e = .returned v ∧ ∃ m, w'' = w.drewN m :=
  h.mono fun _ _ ⟨he, hm⟩ => ⟨he, drewN_add hm⟩
theorem l05Words_is {zs : List Int} {b : Bool} (A : Option Addr) (n c : Nat) (w : World) (hr : Rd w w.heap.size 1 A n (ints zs)) (hn : n ≤ 1048576) (hz : I64s zs) (h : wordsB zs = b) :
    Calls Try.prog 53 #[.slice A n c] w fun e w' => e = .returned (.bool b) ∧ ∃ m, w' = w.drewN m := by
  subst h; exact l05Words_any A n c zs w hr hn hz
theorem l05Day_is {z : Int} {b : Bool} (h : inB z 0 100000 = b) (w : World) : Calls Try.prog 20 #[.int .i64 z] w fun e w' => e = .returned (.bool b) ∧ w = w' := by
  subst h; exact l05Day_any z w
theorem l00In_is {z lo hi : Int} {b : Bool} (h : inB z lo hi = b) (w : World) : Calls Try.prog 21 #[.int .i64 z, .int .i64 lo, .int .i64 hi] w fun e w' => e = .returned (.bool b) ∧ w = w' := by
  subst h; exact l00In_any z lo hi w
set_option maxHeartbeats 6400000 in
set_option maxRecDepth 100000 in
theorem l05Rule_any (p : Addr) (r : Ru) (w : World) (hp : AtP w p r) (hr : Rd w w.heap.size 1 r.A r.n (ints r.ifs)) (hn : r.n ≤ 1048576) (hz : I64s r.ifs) :
    Calls Try.prog 35 #[.pointer (some p)] w fun e w' => e = .returned (.bool (validB r.dat)) ∧ ∃ m, w' = w.drewN m := by
  obtain ⟨c0, c1, c2, c3, c4⟩ := hp
  have HL := Lib.hid hr.ilen
  have HR := Lib.hid hr
  have HZ := Lib.hid hz
  clear hr hz
  obtain ⟨hd, fr, tt, rk, A, n, c, ifs⟩ := r
  dsimp only at c0 c1 c2 c3 c4 HL HR HZ hn
  show Calls _ _ _ _ fun e w' => e = .returned (.bool (validB ⟨hd, ifs, fr, tt, rk⟩)) ∧ _
  cases h1 : wordB hd
  · have hfin := Lib.hid (show validB ⟨hd, ifs, fr, tt, rk⟩ = false by simp [validB, h1])
    go_enter Try.func35, Try.ntmps35
    go_wp2
    go_quiet (first | (go_at_call_of 52 hd; exact quietL (l05Word_is h1 _)) | fail)
    go_wp2
    go_ret
    exact ⟨by rw [hfin.out]; rfl, _, rfl⟩
  by_cases h6 : n ≤ 6
  case neg =>
    have hfin := Lib.hid (show validB ⟨hd, ifs, fr, tt, rk⟩ = false by
      have := HL.out
      simp only [validB]; rw [this]; simp; omega)
    have d6 : decide ((n : Int) ≤ 6) = false := by simp; omega
    go_enter Try.func35, Try.ntmps35
    go_wp2
    go_quiet (first | (go_at_call_of 52 hd; exact quietL (l05Word_is h1 _)) | fail)
    go_wp2
    go_ret
    exact ⟨by rw [hfin.out]; rfl, _, rfl⟩
  have d6 : decide ((n : Int) ≤ 6) = true := by simp; omega
  cases h2 : wordsB ifs
  · have hfin := Lib.hid (show validB ⟨hd, ifs, fr, tt, rk⟩ = false by simp [validB, h2])
    go_enter Try.func35, Try.ntmps35
    go_wp2
    go_quiet (first | (go_at_call_of 52 hd; exact quietL (l05Word_is h1 _)) | (first | (go_at_call 53; exact quietD (l05Words_is _ _ _ _ (HR.out.drewN _) hn HZ.out h2))))
    go_wp2
    go_ret
    exact ⟨by rw [hfin.out]; rfl, _, rfl⟩
  cases h3 : inB fr 0 100000
  · have hfin := Lib.hid (show validB ⟨hd, ifs, fr, tt, rk⟩ = false by simp [validB, h3])
    go_enter Try.func35, Try.ntmps35
    go_wp2
    go_quiet (first | (go_at_call_of 52 hd; exact quietL (l05Word_is h1 _)) | (first | (go_at_call 53; exact quietD (l05Words_is _ _ _ _ (HR.out.drewN _) hn HZ.out h2)) | (go_at_call_of 20 fr; exact quietL (l05Day_is h3 _))))
    go_wp2
    go_ret
    exact ⟨by rw [hfin.out]; rfl, _, rfl⟩
  cases h4 : inB tt 0 100000
  · have hfin := Lib.hid (show validB ⟨hd, ifs, fr, tt, rk⟩ = false by simp [validB, h4])
    go_enter Try.func35, Try.ntmps35
    go_wp2
    go_quiet (first | (go_at_call_of 52 hd; exact quietL (l05Word_is h1 _)) | (first | (go_at_call 53; exact quietD (l05Words_is _ _ _ _ (HR.out.drewN _) hn HZ.out h2)) | (go_at_call_of 20 fr; exact quietL (l05Day_is h3 _)) | (go_at_call_of 20 tt; exact quietL (l05Day_is h4 _))))
    go_wp2
    go_ret
    exact ⟨by rw [hfin.out]; rfl, _, rfl⟩
  by_cases h5 : fr ≤ tt
  case neg =>
    have hfin := Lib.hid (show validB ⟨hd, ifs, fr, tt, rk⟩ = false by simp [validB, h5])
    have d5 : decide (fr ≤ tt) = false := by simpa using h5
    go_enter Try.func35, Try.ntmps35
    go_wp2
    go_quiet (first | (go_at_call_of 52 hd; exact quietL (l05Word_is h1 _)) | (first | (go_at_call 53; exact quietD (l05Words_is _ _ _ _ (HR.out.drewN _) hn HZ.out h2)) | (go_at_call_of 20 fr; exact quietL (l05Day_is h3 _)) | (go_at_call_of 20 tt; exact quietL (l05Day_is h4 _))))
    go_wp2
    go_ret
    exact ⟨by rw [hfin.out]; rfl, _, rfl⟩
  have d5 : decide (fr ≤ tt) = true := by simpa using h5
  cases h7 : inB rk 0 100
  · have hfin := Lib.hid (show validB ⟨hd, ifs, fr, tt, rk⟩ = false by simp [validB, h7])
    go_enter Try.func35, Try.ntmps35
    go_wp2
    go_quiet (first | (go_at_call_of 52 hd; exact quietL (l05Word_is h1 _)) | (first | (go_at_call 53; exact quietD (l05Words_is _ _ _ _ (HR.out.drewN _) hn HZ.out h2)) | (go_at_call_of 20 fr; exact quietL (l05Day_is h3 _)) | (go_at_call_of 20 tt; exact quietL (l05Day_is h4 _)) | (go_at_call_of 21 rk; exact quietL (l00In_is h7 _))))
    go_wp2
    go_ret
    exact ⟨by rw [hfin.out]; rfl, _, rfl⟩
  · have hfin := Lib.hid (show validB ⟨hd, ifs, fr, tt, rk⟩ = true by
      have := HL.out
      simp only [validB]; rw [this]; simp [h1, h2, h3, h4, h5, h7]; omega)
    go_enter Try.func35, Try.ntmps35
    go_wp2
    go_quiet (first | (go_at_call_of 52 hd; exact quietL (l05Word_is h1 _)) | (first | (go_at_call 53; exact quietD (l05Words_is _ _ _ _ (HR.out.drewN _) hn HZ.out h2)) | (go_at_call_of 20 fr; exact quietL (l05Day_is h3 _)) | (go_at_call_of 20 tt; exact quietL (l05Day_is h4 _)) | (go_at_call_of 21 rk; exact quietL (l00In_is h7 _))))
    go_wp2
    go_ret
    exact ⟨by rw [hfin.out]; rfl, _, rfl⟩
end Go.Proofs.Ytmfglflahlddbaa
