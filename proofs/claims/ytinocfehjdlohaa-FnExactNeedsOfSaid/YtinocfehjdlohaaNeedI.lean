/-
  NeedsOf: the program's function.
-/
import Derived.Test.YtinocfehjdlohaaNeedW
import Derived.Test.YtinocfehjdlohaaDaysW
import Derived.Deep.RegionHeld3
namespace Go.Proofs.Ytinocfehjdlohaa
open Go.ChangeShapes Go.WideShapes Go.ChangeAt Go.RowKit
set_option linter.unusedVariables false
set_option linter.unusedSimpArgs false

/-- the kit's law, with the destination written out -/
theorem take_dst {P : Program} {md : Region.Mode} {ops : Array Oper} {Q : Exit → Act → World → Prop} {S : World → Prop} {i : Nat} {oi : Oper} {v : Value} {fuel : Nat} {listed : Array Bool} {a : Act} {w : World} (d : Option Nat) (hi : ops[i]? = some oi) (hd : oi.dst = d)
    (hs : Region.noSelect ops = true) (hf : Region.free md ops listed i = true) (hr : (Region.ready md ops listed).contains i = true)
    (hQ : ∀ c a w, Q (.panic c) (a.put d v) w → Q (.panic c) a w) (hy : YieldsIf P ops S oi v a) (hS : S w)
    (h : wpAnyH P md ops Q S fuel (listed.setIfInBounds i true) (a.put d v) w) : wpAnyH P md ops Q S (fuel + 1) listed a w := by
  subst hd; exact wpAnyH_take hi hs hf hr hQ hy hS h
theorem atom_is {z : Int} (w : World) (h : wordB z = true) : Calls Try.prog 42 #[.int .i64 z] w fun e w' => e = .returned (.int .i64 (atomI z)) ∧ w = w' := by
  have := wordB_iff.1 h; exact atom_any z w (by omega)
/-- the program's list of atoms: the first p of them are done -/
structure NL (ds : List Rl) (day x : Int) (p : Nat) (ls : List Int) : Prop where
  le : p ≤ ls.length
  nd : ls.Nodup
  wd : ∀ a ∈ ls, 1 ≤ a ∧ a ≤ 16
  so : ∀ a ∈ ls, needB ds day x a = true
  st : atomI x ∈ ls
  cl : ∀ (i : Nat) (a : Int), i < p → ls[i]? = some a → ∀ d ∈ ds, onB d day = true → atomI d.hd = a → ∀ z ∈ d.ifs, atomI z ∈ ls
section
variable {ds : List Rl} {day x : Int} {p : Nat} {ls : List Int} {d : Rl} {a z : Int}
theorem NL.first (h : wordB x = true) : NL ds day x 0 [atomI x] :=
  ⟨by simp, by simp, fun a ha => by rw [List.mem_singleton] at ha; subst ha; exact atom_word h, fun a ha => by rw [List.mem_singleton] at ha; subst ha; exact need_start ds day x, by simp, fun i a hi => absurd hi (by omega)⟩
theorem NL.len (h : NL ds day x p ls) : ls.length ≤ 17 := nodup_len 17 ls h.nd fun a ha => by have := h.wd a ha; constructor <;> omega
theorem NL.more (h : NL ds day x p ls) (hd : d ∈ ds) (ho : onB d day = true) (ha : atomI d.hd ∈ ls) (hz : z ∈ d.ifs) (hw : wordB z = true) (hn : atomI z ∉ ls) : NL ds day x p (ls ++ [atomI z]) := by
  have hle := h.le
  refine ⟨by rw [List.length_append]; omega, ?_, ?_, ?_, List.mem_append_left _ h.st, fun i b hi hb e he ho2 h2 y hy => List.mem_append_left _ ?_⟩
  · rw [List.nodup_append]
    exact ⟨h.nd, by simp, fun a ha b hb => by rw [List.mem_singleton] at hb; subst hb; intro e; subst e; exact hn ha⟩
  · intro a ha
    rw [List.mem_append, List.mem_singleton] at ha
    rcases ha with ha | rfl
    · exact h.wd a ha
    · exact atom_word hw
  · intro a ha2
    rw [List.mem_append, List.mem_singleton] at ha2
    rcases ha2 with ha2 | rfl
    · exact h.so a ha2
    · exact need_step hd ho (h.so _ ha) hz
  · rw [List.getElem?_append_left (by omega)] at hb
    exact h.cl i b hi hb e he ho2 h2 y hy
theorem NL.next (h : NL ds day x p ls) (hp : ls[p]? = some a) (hf : ∀ d ∈ ds, onB d day = true → atomI d.hd = a → ∀ z ∈ d.ifs, atomI z ∈ ls) : NL ds day x (p + 1) ls := by
  have hl := (List.getElem?_eq_some_iff.1 hp).1
  refine ⟨by omega, h.nd, h.wd, h.so, h.st, fun i b hi hb => ?_⟩
  rcases (show i < p ∨ i = p by omega) with h1 | rfl
  · exact h.cl i b h1 hb
  · rw [hp] at hb; injection hb with hb; subst hb; exact hf
theorem NL.done (h : NL ds day x ls.length ls) : srt ls = needL ds day x := by
  refine need_sorted h.nd (fun a ha => by have := h.wd a ha; omega) h.so ⟨h.st, fun d hd h1 h2 z hz => ?_⟩
  obtain ⟨i, hi⟩ := List.getElem?_of_mem h2
  exact h.cl i _ (List.getElem?_eq_some_iff.1 hi).1 hi d hd h1 rfl z hz
end
/-- what the rounds over the rules have done -/
def RDone (ds : List Rl) (day a : Int) (k : Nat) (ls : List Int) : Prop := ∀ d ∈ ds.take k, onB d day = true → atomI d.hd = a → ∀ z ∈ d.ifs, atomI z ∈ ls
theorem RDone.skip {ds : List Rl} {day a : Int} {k : Nat} {ls : List Int} {d : Rl} (h : RDone ds day a k ls) (hd : ds[k]? = some d) (hs : onB d day = true → atomI d.hd = a → ∀ z ∈ d.ifs, atomI z ∈ ls) : RDone ds day a (k + 1) ls := by
  intro y hy h1 h2
  rw [List.take_add_one, hd] at hy
  rcases List.mem_append.1 hy with hy | hy
  · exact h y hy h1 h2
  · simp at hy; subst hy; exact hs h1 h2
theorem RDone.grow {ds : List Rl} {day a y : Int} {k : Nat} {ls : List Int} (h : RDone ds day a k ls) : RDone ds day a k (ls ++ [y]) := fun d hd h1 h2 z hz => List.mem_append_left _ (h d hd h1 h2 z hz)
theorem hasI_mem {ls : List Int} {y : Int} : hasI ls y = true ↔ y ∈ ls := by simp [hasI]
set_option maxRecDepth 100000 in
set_option maxHeartbeats 3200000 in
theorem impl_NeedsOf (A : Option Addr) (m c : Nat) (ds : List Rl) (day x : Int) (w : World) (hr : RsRd w w.heap.size A m ds) (hz : szD ds ≤ 1048576) (hb : ∀ d ∈ ds, RlB d)
    (hday : -9223372036854775808 ≤ day ∧ day ≤ 9223372036854775807) (hx : -9223372036854775808 ≤ x ∧ x ≤ 9223372036854775807) :
    Calls Try.prog 13 #[.slice A m c, .int .i64 day, .int .i64 x] w (SlEnds w (NeedsOf_r0 ds day x) (NeedsOf_r1 ds day x)) := by
  have HR := Lib.hid hr
  have HZ := Lib.hid hz
  have HRB := Lib.hid hb
  clear hr hz hb
  cases h1 : rulesB ds
  case false =>
    have hfin := Lib.hid (ne_no (ds := ds) (day := day) (x := x) (by simp [nOk, h1]))
    go_enter Try.func13, Try.ntmps13
    go_wp2_with fail
    refine (areRules_is _ _ _ _ HR.out HZ.out HRB.out h1).mono ?_
    rintro e w1 ⟨rfl, hb1⟩
    have HB1 := Lib.hid hb1
    clear hb1
    go_wp2_with fail
    go_ret2
    rw [hfin.out.1, hfin.out.2]
    exact sl_no HB1.out
  cases h2 : inB day 0 100000
  case false =>
    have hfin := Lib.hid (ne_no (ds := ds) (day := day) (x := x) (by simp [nOk, h2]))
    go_enter Try.func13, Try.ntmps13
    go_wp2_with fail
    refine (areRules_is _ _ _ _ HR.out HZ.out HRB.out h1).mono ?_
    rintro e w1 ⟨rfl, hb1⟩
    have HB1 := Lib.hid hb1
    clear hb1
    go_wp2_with (go_at_call 40; refine (isDate_is _ h2).mono ?_; rintro e w' ⟨rfl, rfl⟩)
    go_ret2
    rw [hfin.out.1, hfin.out.2]
    exact sl_no HB1.out
  cases h3 : wordB x
  case false =>
    have hfin := Lib.hid (ne_no (ds := ds) (day := day) (x := x) (by simp [nOk, h3]))
    go_enter Try.func13, Try.ntmps13
    go_wp2_with fail
    refine (areRules_is _ _ _ _ HR.out HZ.out HRB.out h1).mono ?_
    rintro e w1 ⟨rfl, hb1⟩
    have HB1 := Lib.hid hb1
    clear hb1
    go_wp2_with (first | (go_at_call 40; refine (isDate_is _ h2).mono ?_; rintro e w' ⟨rfl, rfl⟩) | (go_at_call 41; refine (isWord_is h3 _).mono ?_; rintro e w' ⟨rfl, rfl⟩))
    go_ret2
    rw [hfin.out.1, hfin.out.2]
    exact sl_no HB1.out
  have hfin := Lib.hid (ne_yes (nOk_iff.2 ⟨h1, h2, h3⟩))
  have H1 := Lib.hid h1
  have H3 := Lib.hid h3
  go_enter Try.func13, Try.ntmps13
  go_wp2_with fail
  refine (areRules_is _ _ _ _ HR.out HZ.out HRB.out h1).mono ?_
  rintro e w1 ⟨rfl, hb1⟩
  have HB1 := Lib.hid hb1
  clear hb1 h1
  go_wp2_with (first | (go_at_call 40; refine (isDate_is _ h2).mono ?_; rintro e w' ⟨rfl, rfl⟩) | (go_at_call 41; refine (isWord_is H3.out _).mono ?_; rintro e w' ⟨rfl, rfl⟩) | (go_at_call 42; refine (atom_is _ H3.out).mono ?_; rintro e w' ⟨rfl, rfl⟩))
  have HO0 := Lib.hid (own_one w1 (atomI x))
  obtain ⟨rs, hrr, hdat⟩ := HR.out
  have hml := hrr.len
  have HRR := Lib.hid hrr
  have HD := Lib.hid hdat
  have HRN := Lib.hid (ruN_of hrr.nlen (by rw [hdat]; exact HZ.out) (by rw [hdat]; exact HRB.out))
  have HML := Lib.hid (show ds.length = m by rw [← hdat, List.length_map]; exact hml)
  have hm24 : m ≤ 24 := by have := rules_len H1.out; have := HML.out; omega
  clear hrr hdat hml
  go_loopw [8, 9, 11, 13] (fun v i _ _ wr => ∃ (p : Nat) (ls : List Int), p ≤ 17 ∧ i = .int .i64 p ∧ wr.ownsRow w.heap.size tI 1 v ls.length (ints ls) ∧ Below w.heap.size w wr ∧ NL ds day x p ls) (fun _ i _ _ _ => 17 - (intOf i).toNat)
  case atStart => exact ⟨0, [atomI x], by omega, rfl, own_base HO0.out HB1.out.size, HB1.out.alloc HB1.out.size _, .first H3.out⟩
  case round =>
    clear HO0
    obtain ⟨p, ls, hp, rfl, ho, hb, hN⟩ := hrel
    have hll := hN.len
    obtain ⟨A1, c1, rfl, _⟩ := own_form ho
    have HO := Lib.hid ho
    have HB := Lib.hid hb
    have HN := Lib.hid hN
    clear ho hb hN
    by_cases hlt : p < ls.length
    · obtain ⟨a, hpa⟩ : ∃ a, ls[p]? = some a := ⟨_, List.getElem?_eq_getElem hlt⟩
      have HPA := Lib.hid hpa
      clear hpa
      go_wp2_with fail
      go_loopw [8, 11, 13, 38] (fun v _ _ i wx => ∃ (k : Nat) (ls : List Int), k ≤ m ∧ i = .int .i64 k ∧ ls[p]? = some a ∧ wx.ownsRow w.heap.size tI 1 v ls.length (ints ls) ∧ Below w.heap.size w wx ∧ NL ds day x p ls ∧ RDone ds day a k ls) (fun _ _ _ i _ => m - (intOf i).toNat)
      case atStart => exact ⟨0, ls, by omega, rfl, HPA.out, HO.out, HB.out, HN.out, fun d hd => by simp at hd⟩
      case round =>
        clear HO HB HN HPA hlt hll
        obtain ⟨k, ls, hk, rfl, hpa, ho, hb, hN, hD⟩ := hrel
        have hll := hN.len
        have hpl : p < ls.length := (List.getElem?_eq_some_iff.1 hpa).1
        obtain ⟨A1, c1, rfl, _⟩ := own_form ho
        have HO := Lib.hid ho
        have HB := Lib.hid hb
        have HN := Lib.hid hN
        have HRD := Lib.hid hD
        have HPA := Lib.hid hpa
        by_cases hlt : k < m
        · obtain ⟨ad, r, rfl, hrk, ha, hri⟩ := (HRR.out.below hb).at hlt
          have hdk : ds[k]? = some r.dat := by rw [← HD.out, List.getElem?_map, hrk]; rfl
          have hvi := valid_ifs H1.out (List.mem_of_getElem? hdk)
          have hrn := (HRN.out r (List.mem_of_getElem? hrk)).1
          have hri2 := hri.more hb.size
          have hwd : wordB r.hd = true := hvi.2
          obtain ⟨ao, rfl, hba, hco⟩ := (Rd.of_own ho).intB hpl
          rw [show ls[p]?.getD 0 = a by rw [hpa]; rfl] at hco
          obtain ⟨hd, fr, tt, rk, Ai, ni, ci, ifs⟩ := r
          simp only at hri2 hrn hwd
          obtain ⟨c0, c1', c2, c3, c4⟩ := ha
          simp only at c0 c1' c2 c3 c4
          obtain ⟨bx, hbx⟩ : ∃ bx, bx = wr.alloc (.cells #[.int .i64 hd, .slice Ai ni ci, .int .i64 fr, .int .i64 tt, .int .i64 rk] tR) := ⟨_, rfl⟩
          have hbb : Below wr.heap.size wr bx := by rw [hbx]; exact bl_a _
          have KEEP := Lib.hid (fun (w' : World) (h : Below bx.heap.size bx w') => show (fun w' => w'.cell? ⟨wr.heap.size, 0, none⟩ = some (.int .i64 hd) ∧ w'.cell? ⟨wr.heap.size, 1, none⟩ = some (.slice Ai ni ci) ∧ w'.cell? ⟨wr.heap.size, 2, none⟩ = some (.int .i64 fr) ∧ w'.cell? ⟨wr.heap.size, 3, none⟩ = some (.int .i64 tt) ∧ w'.cell? ⟨wr.heap.size, 4, none⟩ = some (.int .i64 rk) ∧ w'.cell? (ao.add p) = some (.int .i64 a)) w' from
            ⟨(h.cell (p := ⟨wr.heap.size, 0, none⟩) (by rw [hbx]; simp)).trans (by rw [hbx]; go_simp), (h.cell (p := ⟨wr.heap.size, 1, none⟩) (by rw [hbx]; simp)).trans (by rw [hbx]; go_simp), (h.cell (p := ⟨wr.heap.size, 2, none⟩) (by rw [hbx]; simp)).trans (by rw [hbx]; go_simp), (h.cell (p := ⟨wr.heap.size, 3, none⟩) (by rw [hbx]; simp)).trans (by rw [hbx]; go_simp), (h.cell (p := ⟨wr.heap.size, 4, none⟩) (by rw [hbx]; simp)).trans (by rw [hbx]; go_simp),
              (h.cell (p := ao.add p) (by rw [hbx]; simp; omega)).trans ((hbb.cell (p := ao.add p) hba).trans hco)⟩)
          have HBX := Lib.hid hbb
          rw [hbx] at KEEP HBX
          have HVI := Lib.hid hvi
          have HDK := Lib.hid hdk
          have HRK := Lib.hid hrk
          have HLI := Lib.hid hri2.ilen
          have HWD := Lib.hid hwd
          have i1 : (0 : Int) ≤ k := by omega
          have i2 : (k : Int) < m := by omega
          have i3 : (0 : Int) ≤ p := by omega
          have i4 : (p : Int) < ls.length := by omega
          clear ho hb hN hD hpa hri hri2 hrk hdk hvi hba hco hbb hbx hwd
          cases hon : onB ⟨hd, ifs, fr, tt, rk⟩ day
          · have HON := Lib.hid hon
            clear hon
            go_wp2_with fail
            refine wp_region_held_drew (S := (fun w' => w'.cell? ⟨wr.heap.size, 0, none⟩ = some (.int .i64 hd) ∧ w'.cell? ⟨wr.heap.size, 1, none⟩ = some (.slice Ai ni ci) ∧ w'.cell? ⟨wr.heap.size, 2, none⟩ = some (.int .i64 fr) ∧ w'.cell? ⟨wr.heap.size, 3, none⟩ = some (.int .i64 tt) ∧ w'.cell? ⟨wr.heap.size, 4, none⟩ = some (.int .i64 rk) ∧ w'.cell? (ao.add p) = some (.int .i64 a))) (by kernel_rfl) (KEEP.out _ (below_drewN (Below.refl _ _) 1)) (fun hHeld => ?_)
            (refine take_dst (i := 0) (v := _) (some 42) rfl rfl (by kernel_rfl) (by kernel_rfl) (by kernel_rfl) (fun _ _ _ h => h) (Or.inl ⟨by rfl, by (intro w3 hw; (try dsimp only at hw); go_simp; try with_reducible rfl)⟩) (by assumption) ?_; try simp only [Act.put, List.setIfInBounds_toArray, List.set_cons_zero, List.set_cons_succ])
            (refine take_dst (i := 1) (v := _) (some 43) rfl rfl (by kernel_rfl) (by kernel_rfl) (by kernel_rfl) (fun _ _ _ h => h) (Or.inl ⟨by rfl, by (intro w3 hw; (try dsimp only at hw); go_simp; try with_reducible rfl)⟩) (by assumption) ?_; try simp only [Act.put, List.setIfInBounds_toArray, List.set_cons_zero, List.set_cons_succ])
            (refine wpAnyH_ready (rs := [2]) (by kernel_rfl) (by simp) (AllReadyH.cons (i := 2) rfl (fun K hK => ?_) AllReadyH.nil); go_simp)
            refine (isActive_is hd fr tt rk Ai ni ci ifs day _ HON.out).mono ?_
            rintro e w3 ⟨rfl, hb2⟩
            go_wp2_with fail
            refine hK.out _ _ (KEEP.out _ ⟨hb2.os, hb2.tape, hb2.output, hb2.size, hb2.block⟩) (fun hHeld => ?_)
            clear hK K
            try simp only [Act.put, List.setIfInBounds_toArray, List.set_cons_zero, List.set_cons_succ]
            (refine take_dst (i := 3) (v := _) (some 45) rfl rfl (by kernel_rfl) (by kernel_rfl) (by kernel_rfl) (fun _ _ _ h => h) (Or.inl ⟨by rfl, by (intro w3 hw; (try dsimp only at hw); go_simp; try with_reducible rfl)⟩) (by assumption) ?_; try simp only [Act.put, List.setIfInBounds_toArray, List.set_cons_zero, List.set_cons_succ])
            (refine take_dst (i := 4) (v := _) (some 46) rfl rfl (by kernel_rfl) (by kernel_rfl) (by kernel_rfl) (fun _ _ _ h => h) (Or.inl ⟨by rfl, by (intro w3 hw; (try dsimp only at hw); go_simp; try with_reducible rfl)⟩) (by assumption) ?_; try simp only [Act.put, List.setIfInBounds_toArray, List.set_cons_zero, List.set_cons_succ])
            (refine take_dst (i := 5) (v := undef) (some 47) rfl rfl (by kernel_rfl) (by kernel_rfl) (by kernel_rfl) (fun _ _ _ h => h) (Or.inr ⟨by rfl, rfl⟩) (by assumption) ?_; try simp only [Act.put, List.setIfInBounds_toArray, List.set_cons_zero, List.set_cons_succ])
            (refine take_dst (i := 6) (v := undef) (some 48) rfl rfl (by kernel_rfl) (by kernel_rfl) (by kernel_rfl) (fun _ _ _ h => h) (Or.inr ⟨by rfl, rfl⟩) (by assumption) ?_; try simp only [Act.put, List.setIfInBounds_toArray, List.set_cons_zero, List.set_cons_succ])
            (refine take_dst (i := 7) (v := undef) (some 49) rfl rfl (by kernel_rfl) (by kernel_rfl) (by kernel_rfl) (fun _ _ _ h => h) (Or.inr ⟨by rfl, rfl⟩) (by assumption) ?_; try simp only [Act.put, List.setIfInBounds_toArray, List.set_cons_zero, List.set_cons_succ])
            (refine take_dst (i := 8) (v := undef) (some 50) rfl rfl (by kernel_rfl) (by kernel_rfl) (by kernel_rfl) (fun _ _ _ h => h) (Or.inr ⟨by rfl, rfl⟩) (by assumption) ?_; try simp only [Act.put, List.setIfInBounds_toArray, List.set_cons_zero, List.set_cons_succ])
            (refine take_dst (i := 9) (v := undef) (some 51) rfl rfl (by kernel_rfl) (by kernel_rfl) (by kernel_rfl) (fun _ _ _ h => h) (Or.inr ⟨by rfl, rfl⟩) (by assumption) ?_; try simp only [Act.put, List.setIfInBounds_toArray, List.set_cons_zero, List.set_cons_succ])
            (refine take_dst (i := 10) (v := undef) (some 52) rfl rfl (by kernel_rfl) (by kernel_rfl) (by kernel_rfl) (fun _ _ _ h => h) (Or.inr ⟨by rfl, rfl⟩) (by assumption) ?_; try simp only [Act.put, List.setIfInBounds_toArray, List.set_cons_zero, List.set_cons_succ])
            (refine take_dst (i := 11) (v := undef) (some 53) rfl rfl (by kernel_rfl) (by kernel_rfl) (by kernel_rfl) (fun _ _ _ h => h) (Or.inr ⟨by rfl, rfl⟩) (by assumption) ?_; try simp only [Act.put, List.setIfInBounds_toArray, List.set_cons_zero, List.set_cons_succ])
            (refine take_dst (i := 12) (v := undef) (some 54) rfl rfl (by kernel_rfl) (by kernel_rfl) (by kernel_rfl) (fun _ _ _ h => h) (Or.inr ⟨by rfl, rfl⟩) (by assumption) ?_; try simp only [Act.put, List.setIfInBounds_toArray, List.set_cons_zero, List.set_cons_succ])
            (refine take_dst (i := 13) (v := _) (some 55) rfl rfl (by kernel_rfl) (by kernel_rfl) (by kernel_rfl) (fun _ _ _ h => h) (Or.inl ⟨by rfl, by (intro w3 hw; (try dsimp only at hw); go_simp; try with_reducible rfl)⟩) (by assumption) ?_; try simp only [Act.put, List.setIfInBounds_toArray, List.set_cons_zero, List.set_cons_succ])
            refine wpAnyH_done (by kernel_rfl) ?_ _
            have hb3 := below_step HBX.out ((below_drewN (Below.refl _ _) 1).trans (hb2.mono (Nat.le_refl _)))
            have HO3 := Lib.hid (own_on HO.out hb3)
            have HB3 := Lib.hid (below_step HB.out hb3)
            clear hb2 hb3
            go_wp2_with fail
            go_roundw
            case rel => exact ⟨k + 1, ls, by omega, by go_num, HPA.out, HO3.out, HB3.out, HN.out, HRD.out.skip HDK.out fun h => absurd (h.symm.trans HON.out) (by decide)⟩
            case measure => simp [intOf]; omega
          · have HON := Lib.hid hon
            clear hon
            by_cases he : atomI hd = a
            case neg =>
              have hq : (atomI hd != a) = true := by simpa using he
              go_wp2_with fail
              refine wp_region_held_drew (S := (fun w' => w'.cell? ⟨wr.heap.size, 0, none⟩ = some (.int .i64 hd) ∧ w'.cell? ⟨wr.heap.size, 1, none⟩ = some (.slice Ai ni ci) ∧ w'.cell? ⟨wr.heap.size, 2, none⟩ = some (.int .i64 fr) ∧ w'.cell? ⟨wr.heap.size, 3, none⟩ = some (.int .i64 tt) ∧ w'.cell? ⟨wr.heap.size, 4, none⟩ = some (.int .i64 rk) ∧ w'.cell? (ao.add p) = some (.int .i64 a))) (by kernel_rfl) (KEEP.out _ (below_drewN (Below.refl _ _) 1)) (fun hHeld => ?_)
              (refine take_dst (i := 0) (v := _) (some 42) rfl rfl (by kernel_rfl) (by kernel_rfl) (by kernel_rfl) (fun _ _ _ h => h) (Or.inl ⟨by rfl, by (intro w3 hw; (try dsimp only at hw); go_simp; try with_reducible rfl)⟩) (by assumption) ?_; try simp only [Act.put, List.setIfInBounds_toArray, List.set_cons_zero, List.set_cons_succ])
              (refine take_dst (i := 1) (v := _) (some 43) rfl rfl (by kernel_rfl) (by kernel_rfl) (by kernel_rfl) (fun _ _ _ h => h) (Or.inl ⟨by rfl, by (intro w3 hw; (try dsimp only at hw); go_simp; try with_reducible rfl)⟩) (by assumption) ?_; try simp only [Act.put, List.setIfInBounds_toArray, List.set_cons_zero, List.set_cons_succ])
              (refine wpAnyH_ready (rs := [2]) (by kernel_rfl) (by simp) (AllReadyH.cons (i := 2) rfl (fun K hK => ?_) AllReadyH.nil); go_simp)
              refine (isActive_is hd fr tt rk Ai ni ci ifs day _ HON.out).mono ?_
              rintro e w3 ⟨rfl, hb2⟩
              go_wp2_with fail
              refine hK.out _ _ (KEEP.out _ ⟨hb2.os, hb2.tape, hb2.output, hb2.size, hb2.block⟩) (fun hHeld => ?_)
              clear hK K
              try simp only [Act.put, List.setIfInBounds_toArray, List.set_cons_zero, List.set_cons_succ]
              (refine take_dst (i := 3) (v := _) (some 45) rfl rfl (by kernel_rfl) (by kernel_rfl) (by kernel_rfl) (fun _ _ _ h => h) (Or.inl ⟨by rfl, by (intro w3 hw; (try dsimp only at hw); go_simp; try with_reducible rfl)⟩) (by assumption) ?_; try simp only [Act.put, List.setIfInBounds_toArray, List.set_cons_zero, List.set_cons_succ])
              (refine take_dst (i := 4) (v := _) (some 46) rfl rfl (by kernel_rfl) (by kernel_rfl) (by kernel_rfl) (fun _ _ _ h => h) (Or.inl ⟨by rfl, by (intro w3 hw; (try dsimp only at hw); go_simp; try with_reducible rfl)⟩) (by assumption) ?_; try simp only [Act.put, List.setIfInBounds_toArray, List.set_cons_zero, List.set_cons_succ])
              (refine take_dst (i := 5) (v := _) (some 47) rfl rfl (by kernel_rfl) (by kernel_rfl) (by kernel_rfl) (fun _ _ _ h => h) (Or.inl ⟨by rfl, by (intro w3 hw; (try dsimp only at hw); go_simp; try with_reducible rfl)⟩) (by assumption) ?_; try simp only [Act.put, List.setIfInBounds_toArray, List.set_cons_zero, List.set_cons_succ])
              (refine take_dst (i := 6) (v := _) (some 48) rfl rfl (by kernel_rfl) (by kernel_rfl) (by kernel_rfl) (fun _ _ _ h => h) (Or.inl ⟨by rfl, by (intro w3 hw; (try dsimp only at hw); go_simp; try with_reducible rfl)⟩) (by assumption) ?_; try simp only [Act.put, List.setIfInBounds_toArray, List.set_cons_zero, List.set_cons_succ])
              (refine take_dst (i := 8) (v := _) (some 50) rfl rfl (by kernel_rfl) (by kernel_rfl) (by kernel_rfl) (fun _ _ _ h => h) (Or.inl ⟨by rfl, by (intro w3 hw; (try dsimp only at hw); go_simp; try with_reducible rfl)⟩) (by assumption) ?_; try simp only [Act.put, List.setIfInBounds_toArray, List.set_cons_zero, List.set_cons_succ])
              (refine take_dst (i := 9) (v := _) (some 51) rfl rfl (by kernel_rfl) (by kernel_rfl) (by kernel_rfl) (fun _ _ _ h => h) (Or.inl ⟨by rfl, by (intro w3 hw; (try dsimp only at hw); go_simp; try with_reducible rfl)⟩) (by assumption) ?_; try simp only [Act.put, List.setIfInBounds_toArray, List.set_cons_zero, List.set_cons_succ])
              (refine take_dst (i := 10) (v := _) (some 52) rfl rfl (by kernel_rfl) (by kernel_rfl) (by kernel_rfl) (fun _ _ _ h => h) (Or.inl ⟨by rfl, by (intro w3 hw; (try dsimp only at hw); go_simp; try with_reducible rfl)⟩) (by assumption) ?_; try simp only [Act.put, List.setIfInBounds_toArray, List.set_cons_zero, List.set_cons_succ])
              (refine take_dst (i := 11) (v := _) (some 53) rfl rfl (by kernel_rfl) (by kernel_rfl) (by kernel_rfl) (fun _ _ _ h => h) (Or.inl ⟨by rfl, by (intro w3 hw; (try dsimp only at hw); go_simp; try with_reducible rfl)⟩) (by assumption) ?_; try simp only [Act.put, List.setIfInBounds_toArray, List.set_cons_zero, List.set_cons_succ])
              (refine wpAnyH_ready (rs := [7]) (by kernel_rfl) (by simp) (AllReadyH.cons (i := 7) rfl (fun K hK => ?_) AllReadyH.nil); go_simp)
              refine (atom_is _ HWD.out).mono ?_
              rintro e w' ⟨rfl, rfl⟩
              go_wp2_with fail
              refine hK.out _ _ hHeld (fun hHeld => ?_)
              clear hK K
              try simp only [Act.put, List.setIfInBounds_toArray, List.set_cons_zero, List.set_cons_succ]
              (refine take_dst (i := 12) (v := _) (some 54) rfl rfl (by kernel_rfl) (by kernel_rfl) (by kernel_rfl) (fun _ _ _ h => h) (Or.inl ⟨by rfl, by (intro w3 hw; (try dsimp only at hw); go_simp; try with_reducible rfl)⟩) (by assumption) ?_; try simp only [Act.put, List.setIfInBounds_toArray, List.set_cons_zero, List.set_cons_succ])
              (refine take_dst (i := 13) (v := _) (some 55) rfl rfl (by kernel_rfl) (by kernel_rfl) (by kernel_rfl) (fun _ _ _ h => h) (Or.inl ⟨by rfl, by (intro w3 hw; (try dsimp only at hw); go_simp; try with_reducible rfl)⟩) (by assumption) ?_; try simp only [Act.put, List.setIfInBounds_toArray, List.set_cons_zero, List.set_cons_succ])
              refine wpAnyH_done (by kernel_rfl) ?_ _
              have hb3 := below_step HBX.out ((below_drewN (Below.refl _ _) 1).trans (hb2.mono (Nat.le_refl _)))
              have HO3 := Lib.hid (own_on HO.out hb3)
              have HB3 := Lib.hid (below_step HB.out hb3)
              have HE := Lib.hid he
              clear hb2 hb3 hHeld he
              go_wp2_with fail
              go_roundw
              case rel => exact ⟨k + 1, ls, by omega, by go_num, HPA.out, HO3.out, HB3.out, HN.out, HRD.out.skip HDK.out fun _ h => absurd h HE.out⟩
              case measure => simp [intOf]; omega
            subst he
            go_wp2_with fail
            refine wp_region_held_drew (S := (fun w' => w'.cell? ⟨wr.heap.size, 0, none⟩ = some (.int .i64 hd) ∧ w'.cell? ⟨wr.heap.size, 1, none⟩ = some (.slice Ai ni ci) ∧ w'.cell? ⟨wr.heap.size, 2, none⟩ = some (.int .i64 fr) ∧ w'.cell? ⟨wr.heap.size, 3, none⟩ = some (.int .i64 tt) ∧ w'.cell? ⟨wr.heap.size, 4, none⟩ = some (.int .i64 rk) ∧ w'.cell? (ao.add p) = some (.int .i64 (atomI hd)))) (by kernel_rfl) (KEEP.out _ (below_drewN (Below.refl _ _) 1)) (fun hHeld => ?_)
            (refine take_dst (i := 0) (v := _) (some 42) rfl rfl (by kernel_rfl) (by kernel_rfl) (by kernel_rfl) (fun _ _ _ h => h) (Or.inl ⟨by rfl, by (intro w3 hw; (try dsimp only at hw); go_simp; try with_reducible rfl)⟩) (by assumption) ?_; try simp only [Act.put, List.setIfInBounds_toArray, List.set_cons_zero, List.set_cons_succ])
            (refine take_dst (i := 1) (v := _) (some 43) rfl rfl (by kernel_rfl) (by kernel_rfl) (by kernel_rfl) (fun _ _ _ h => h) (Or.inl ⟨by rfl, by (intro w3 hw; (try dsimp only at hw); go_simp; try with_reducible rfl)⟩) (by assumption) ?_; try simp only [Act.put, List.setIfInBounds_toArray, List.set_cons_zero, List.set_cons_succ])
            (refine wpAnyH_ready (rs := [2]) (by kernel_rfl) (by simp) (AllReadyH.cons (i := 2) rfl (fun K hK => ?_) AllReadyH.nil); go_simp)
            refine (isActive_is hd fr tt rk Ai ni ci ifs day _ HON.out).mono ?_
            rintro e w3 ⟨rfl, hb2⟩
            go_wp2_with fail
            refine hK.out _ _ (KEEP.out _ ⟨hb2.os, hb2.tape, hb2.output, hb2.size, hb2.block⟩) (fun hHeld => ?_)
            clear hK K
            try simp only [Act.put, List.setIfInBounds_toArray, List.set_cons_zero, List.set_cons_succ]
            (refine take_dst (i := 3) (v := _) (some 45) rfl rfl (by kernel_rfl) (by kernel_rfl) (by kernel_rfl) (fun _ _ _ h => h) (Or.inl ⟨by rfl, by (intro w3 hw; (try dsimp only at hw); go_simp; try with_reducible rfl)⟩) (by assumption) ?_; try simp only [Act.put, List.setIfInBounds_toArray, List.set_cons_zero, List.set_cons_succ])
            (refine take_dst (i := 4) (v := _) (some 46) rfl rfl (by kernel_rfl) (by kernel_rfl) (by kernel_rfl) (fun _ _ _ h => h) (Or.inl ⟨by rfl, by (intro w3 hw; (try dsimp only at hw); go_simp; try with_reducible rfl)⟩) (by assumption) ?_; try simp only [Act.put, List.setIfInBounds_toArray, List.set_cons_zero, List.set_cons_succ])
            (refine take_dst (i := 5) (v := _) (some 47) rfl rfl (by kernel_rfl) (by kernel_rfl) (by kernel_rfl) (fun _ _ _ h => h) (Or.inl ⟨by rfl, by (intro w3 hw; (try dsimp only at hw); go_simp; try with_reducible rfl)⟩) (by assumption) ?_; try simp only [Act.put, List.setIfInBounds_toArray, List.set_cons_zero, List.set_cons_succ])
            (refine take_dst (i := 6) (v := _) (some 48) rfl rfl (by kernel_rfl) (by kernel_rfl) (by kernel_rfl) (fun _ _ _ h => h) (Or.inl ⟨by rfl, by (intro w3 hw; (try dsimp only at hw); go_simp; try with_reducible rfl)⟩) (by assumption) ?_; try simp only [Act.put, List.setIfInBounds_toArray, List.set_cons_zero, List.set_cons_succ])
            (refine take_dst (i := 8) (v := _) (some 50) rfl rfl (by kernel_rfl) (by kernel_rfl) (by kernel_rfl) (fun _ _ _ h => h) (Or.inl ⟨by rfl, by (intro w3 hw; (try dsimp only at hw); go_simp; try with_reducible rfl)⟩) (by assumption) ?_; try simp only [Act.put, List.setIfInBounds_toArray, List.set_cons_zero, List.set_cons_succ])
            (refine take_dst (i := 9) (v := _) (some 51) rfl rfl (by kernel_rfl) (by kernel_rfl) (by kernel_rfl) (fun _ _ _ h => h) (Or.inl ⟨by rfl, by (intro w3 hw; (try dsimp only at hw); go_simp; try with_reducible rfl)⟩) (by assumption) ?_; try simp only [Act.put, List.setIfInBounds_toArray, List.set_cons_zero, List.set_cons_succ])
            (refine take_dst (i := 10) (v := _) (some 52) rfl rfl (by kernel_rfl) (by kernel_rfl) (by kernel_rfl) (fun _ _ _ h => h) (Or.inl ⟨by rfl, by (intro w3 hw; (try dsimp only at hw); go_simp; try with_reducible rfl)⟩) (by assumption) ?_; try simp only [Act.put, List.setIfInBounds_toArray, List.set_cons_zero, List.set_cons_succ])
            (refine take_dst (i := 11) (v := _) (some 53) rfl rfl (by kernel_rfl) (by kernel_rfl) (by kernel_rfl) (fun _ _ _ h => h) (Or.inl ⟨by rfl, by (intro w3 hw; (try dsimp only at hw); go_simp; try with_reducible rfl)⟩) (by assumption) ?_; try simp only [Act.put, List.setIfInBounds_toArray, List.set_cons_zero, List.set_cons_succ])
            (refine wpAnyH_ready (rs := [7]) (by kernel_rfl) (by simp) (AllReadyH.cons (i := 7) rfl (fun K hK => ?_) AllReadyH.nil); go_simp)
            refine (atom_is _ HWD.out).mono ?_
            rintro e w' ⟨rfl, rfl⟩
            go_wp2_with fail
            refine hK.out _ _ hHeld (fun hHeld => ?_)
            clear hK K
            try simp only [Act.put, List.setIfInBounds_toArray, List.set_cons_zero, List.set_cons_succ]
            (refine take_dst (i := 12) (v := _) (some 54) rfl rfl (by kernel_rfl) (by kernel_rfl) (by kernel_rfl) (fun _ _ _ h => h) (Or.inl ⟨by rfl, by (intro w3 hw; (try dsimp only at hw); go_simp; try with_reducible rfl)⟩) (by assumption) ?_; try simp only [Act.put, List.setIfInBounds_toArray, List.set_cons_zero, List.set_cons_succ])
            (refine take_dst (i := 13) (v := _) (some 55) rfl rfl (by kernel_rfl) (by kernel_rfl) (by kernel_rfl) (fun _ _ _ h => h) (Or.inl ⟨by rfl, by (intro w3 hw; (try dsimp only at hw); go_simp; try with_reducible rfl)⟩) (by assumption) ?_; try simp only [Act.put, List.setIfInBounds_toArray, List.set_cons_zero, List.set_cons_succ])
            refine wpAnyH_done (by kernel_rfl) ?_ _
            have hb3 := below_step HBX.out ((below_drewN (Below.refl _ _) 1).trans (hb2.mono (Nat.le_refl _)))
            have HO3 := Lib.hid (own_on HO.out hb3)
            have HB3 := Lib.hid (below_step HB.out hb3)
            have e1 := hHeld.2.1
            clear hb2 hb3 hHeld
            go_wp2_with fail
            go_loopw [8, 13, 59] (fun v _ i wx => ∃ (t : Nat) (ls : List Int), t ≤ ni ∧ i = .int .i64 t ∧ ls[p]? = some (atomI hd) ∧ wx.ownsRow w.heap.size tI 1 v ls.length (ints ls) ∧ Below w.heap.size w wx ∧ NL ds day x p ls ∧ RDone ds day (atomI hd) k ls ∧ (∀ z ∈ ifs.take t, atomI z ∈ ls)) (fun _ _ i _ => ni - (intOf i).toNat)
            case atStart => exact ⟨0, ls, by omega, rfl, HPA.out, HO3.out, HB3.out, HN.out, HRD.out, fun z hz => by simp at hz⟩
            case round =>
              clear HO HB HN HRD HPA HO3 HB3 hpl i4 hll e1 c0 c1' c2 c3 c4 KEEP HBX
              obtain ⟨t, ls, ht, rfl, hpa, ho, hb, hN, hD, hT⟩ := hrel
              have hll := hN.len
              obtain ⟨A1, c1, rfl, _⟩ := own_form ho
              have HO := Lib.hid ho
              have HB := Lib.hid hb
              have HN := Lib.hid hN
              have HRD := Lib.hid (And.intro hD hT)
              have HPA := Lib.hid hpa
              by_cases htl : t < ni
              · obtain ⟨ad2, r2, hE, hrk2, _, hri⟩ := (HRR.out.below hb).at hlt
                cases hE
                obtain rfl : (⟨hd, fr, tt, rk, Ai, ni, ci, ifs⟩ : Ru) = r2 := by
                  have h := HRK.out
                  rw [hrk2] at h
                  injection h with h; exact h.symm
                obtain ⟨ai, hAi, hcz⟩ := hri.int htl
                simp only at hAi
                subst hAi
                obtain ⟨z, hz⟩ : ∃ z, z = ifs[t]?.getD 0 := ⟨_, rfl⟩
                rw [← hz] at hcz
                have htl2 : t < ifs.length := by have := HLI.out; omega
                have hzm : z ∈ ifs := by rw [hz]; exact getD_mem htl2
                have htk := Lib.hid (show ifs.take (t + 1) = ifs.take t ++ [z] by rw [hz]; exact take_snoc _ _ 0 htl2)
                have hwz : wordB z = true := HVI.out.1 z hzm
                have HWZ := Lib.hid hwz
                have HZM := Lib.hid hzm
                have HTL := Lib.hid htl
                have HRO := Lib.hid (Rd.of_own ho)
                have i3 : (0 : Int) ≤ t := by omega
                have i4 : (t : Int) < ni := by omega
                clear hri hrk2 hz hzm hwz htl htl2 ho hb hN hD hT hpa
                cases hc : hasI ls (atomI z)
                · have HC := Lib.hid hc
                  clear hc
                  have HN2 := Lib.hid (HN.out.more (List.mem_of_getElem? HDK.out) HON.out (List.mem_of_getElem? HPA.out) HZM.out HWZ.out (fun h => by have := hasI_mem.2 h; rw [HC.out] at this; cases this))
                  go_wp2_with (first | (go_at_call 42; refine (atom_is _ HWZ.out).mono ?_; rintro e w' ⟨rfl, rfl⟩) | (go_at_call 44; refine (containsI_is _ _ _ ls _ _ HRO.out (by omega) HC.out).mono ?_; rintro e w' ⟨rfl, rfl⟩) | (at_builtin; refine append_int rfl (.tmp 68) (.tmp 71) rfl w _ _ _ rfl (World.ownsRow.alloc HO.out _) (Below.alloc HB.out (Below.size HB.out) _) _ _ (atomI z) rfl (cell_new _ _ _) (by omega) ?_; intro v' w' ho2 hb2))
                  go_roundw
                  case rel => exact ⟨t + 1, ls ++ [atomI z], by have := HTL.out; omega, by go_num, by rw [List.getElem?_append_left (List.getElem?_eq_some_iff.1 HPA.out).1]; exact HPA.out, by rw [List.length_append]; exact ho2, hb2, HN2.out, HRD.out.1.grow, fun y hy => by
                    rw [htk.out, List.mem_append, List.mem_singleton] at hy
                    rcases hy with hy | rfl
                    · exact List.mem_append_left _ (HRD.out.2 y hy)
                    · simp⟩
                  case measure => simp [intOf]; have := HTL.out; omega
                · have HC := Lib.hid hc
                  clear hc
                  go_wp2_with (first | (go_at_call 42; refine (atom_is _ HWZ.out).mono ?_; rintro e w' ⟨rfl, rfl⟩) | (go_at_call 44; refine (containsI_is _ _ _ ls _ _ HRO.out (by omega) HC.out).mono ?_; rintro e w' ⟨rfl, rfl⟩))
                  go_roundw
                  case rel => exact ⟨t + 1, ls, by have := HTL.out; omega, by go_num, HPA.out, HO.out, HB.out, HN.out, HRD.out.1, fun y hy => by
                    rw [htk.out, List.mem_append, List.mem_singleton] at hy
                    rcases hy with hy | rfl
                    · exact HRD.out.2 y hy
                    · exact hasI_mem.1 HC.out⟩
                  case measure => simp [intOf]; have := HTL.out; omega
              · obtain rfl : t = ni := by omega
                clear ho hb hN hD hT hpa
                go_wp2_with fail
                go_roundw
                case rel => exact ⟨k + 1, ls, by omega, by go_num, HPA.out, HO.out, HB.out, HN.out, HRD.out.1.skip HDK.out fun _ _ z hz => HRD.out.2 z (by rw [List.take_of_length_le (by have := HLI.out; omega)]; exact hz)⟩
                case measure => simp [intOf]; omega
        · obtain rfl : k = m := by omega
          clear ho hb hN hD
          go_wp2_with fail
          go_roundw
          case rel => exact ⟨p + 1, ls, by omega, by go_num, HO.out, HB.out, HN.out.next HPA.out fun d hd => HRD.out d (by rw [List.take_of_length_le (by have := HML.out; omega)]; exact hd)⟩
          case measure => simp [intOf]; omega
    · obtain rfl : p = ls.length := by have := HN.out.le; omega
      go_wp2_with fail
      refine (sortI_any _ HO.out (by omega)).mono ?_
      rintro e w2 ⟨rfl, ho2, hg2⟩
      have HB2 := Lib.hid (HB.out.grown hg2 HB.out.size fun g hg => (HO.out.lt g hg).1)
      rw [show srt ls = needL ds day x from HN.out.done] at ho2
      have HO2 := Lib.hid ho2
      have HL := Lib.hid (show (needL ds day x).length = ls.length by rw [← HN.out.done, srt_len])
      clear ho2 hg2
      go_wp2_with fail
      go_ret2
      rw [hfin.out.1, hfin.out.2]
      exact sl_yes HL.out HO2.out HB2.out
end Go.Proofs.Ytinocfehjdlohaa
