/-
  COPIES OF RULES: append of a rule, cloneRule, cloneRules, l05OwnRules.
-/
import Derived.Test.YtkdiegplbloccaaRuAct
import Derived.Test.YtkdiegplbloccaaCopy
import Derived.Deep.Upon
namespace Go.Proofs.Ytkdiegplbloccaa
open Go.ChangeShapes Go.WideShapes Go.ChangeAt Go.RowKit Go.Deep
set_option linter.unusedVariables false
set_option linter.unusedSimpArgs false

theorem append_intsA {ops : Array Oper} {rest : List Oper} {o : Oper} {a : Act} {Q : Exit → Act → World → Prop} {w1 : World} (hgd : o.guard = none) (s x : Operand)
    (ho : o.op = .call { callee := .builtin .append, args := #[s, x], argTypes := #[51, 51] }) (W : World) (v : Value) (n : Nat) (zs : List Int) (hs : a.eval s = v)
    (hown : w1.ownsRow W.heap.size 2 1 v n (ints zs)) (hb : Below W.heap.size W w1) (A : Option Addr) (m c : Nat) (ys : List Int) (hx : a.eval x = .slice A m c) {B : Nat} (hr : Rd w1 B 1 A m (ints ys)) (hn : n + m ≤ 4194304)
    (h : ∀ v' w', w'.ownsRow W.heap.size 2 1 v' (n + m) (ints (zs ++ ys)) → Below W.heap.size W w' → wpList Try.prog ops Q rest (a.put o.dst v') w') : wpList Try.prog ops Q (o :: rest) a w1 := by
  cases A with
  | some ad => exact append_ints hgd s x ho W v n zs hs hown hb ad m c ys hx hr hn fun v' w' h1 h2 _ => h v' w' h1 h2
  | none =>
    obtain rfl : m = 0 := by
      rcases Nat.eq_zero_or_pos m with h0 | h0
      · exact h0
      · obtain ⟨ad, e, _⟩ := hr.2 h0; cases e
    obtain rfl : ys = [] := by have := hr.ilen; exact List.length_eq_zero_iff.1 (by omega)
    obtain ⟨A', c', rfl, hle, _⟩ := own_form hown
    obtain ⟨i0, hi, hz0, hz1, hz2⟩ := info_parts info_int
    refine wpList_plain hgd fun K hK => ?_
    have hrun := run_append_nothing (P := Try.prog) w1 51 51 o.type 2 i0 Try.underlying51 hi A' n c' hle (.slice none 0 c) (Src.ofNil w1 Try.underlying51 c)
    unfold Oper.wp execOp
    simp only [ho, resolve, invoke, builtin, Sem.run_bind, Sem.run_pure, Result.andThen_ok, List.map_toArray, List.map_cons, List.map_nil, hs, hx, hrun]
    exact hK _ _ (h _ w1 (by simpa using hown) hb)
theorem own_empty2 (w : World) (e : TypeId) {g : Nat} (hg : g = w.heap.size) : (w.alloc (.cells #[] e)).ownsRow w.heap.size e 1 (.slice (some ⟨g, 0, none⟩) 0 0) 0 [] := by subst hg; exact own_empty w e
theorem cell_new5 (w : World) (r : Ru) (t : TypeId) : ∀ j, j < 5 → (w.alloc (.cells #[.int .i64 r.hd, .slice r.A r.n r.c, .int .i64 r.fr, .int .i64 r.tt, .int .i64 r.rk] t)).cell? ⟨w.heap.size, j, none⟩ = r.cells[j]? := by
  intro j hj
  rw [World.cell?_alloc_at _ _ _ _ rfl]
  match j, hj with
  | 0, _ => rfl
  | 1, _ => rfl
  | 2, _ => rfl
  | 3, _ => rfl
  | 4, _ => rfl
theorem cells_one (r : Ru) : ∀ u ∈ r.cells, u.oneCell' = true := by
  have := flat_cell1 [r]
  simpa [flat] using this
theorem append_flat {ops : Array Oper} {rest : List Oper} {o : Oper} {a : Act} {Q : Exit → Act → World → Prop} {w1 : World} (hgd : o.guard = none) (s x : Operand)
    (ho : o.op = .call { callee := .builtin .append, args := #[s, x], argTypes := #[46, 46] }) (W : World) (v : Value) (m : Nat) (xs : List Value) (hs : a.eval s = v)
    (hown : w1.ownsRow W.heap.size tR 5 v m xs) (hb : Below W.heap.size W w1) (g c : Nat) (r : Ru) (hx : a.eval x = .slice (some ⟨g, 0, none⟩) 1 c) (hc : ∀ j, j < 5 → w1.cell? ⟨g, j, none⟩ = r.cells[j]?) (hn : m ≤ 2097152)
    (h : ∀ v' w', w'.ownsRow W.heap.size tR 5 v' (m + 1) (xs ++ r.cells) → Below W.heap.size W w' → w1.grownBy w' v.ownBlock → wpList Try.prog ops Q rest (a.put o.dst v') w') : wpList Try.prog ops Q (o :: rest) a w1 := by
  obtain ⟨i0, hi, hz0, hz1, hz2⟩ := info_parts info_rule
  refine wpList_append_own w1 hgd s x 46 ho W.heap.size tR i0 (.agg #[.int .i64 0, .slice none 0 0, .int .i64 0, .int .i64 0, .int .i64 0]) 5 56 Try.underlying46 hi hz0 hz1 hz2 rfl (by decide) v m xs hs hown ⟨g, 0, none⟩ 1 c r.cells hx rfl ?_ (cells_one r) ?_ ?_ hb.size ?_
  · intro j u hj
    have hlt : j < 5 := (List.getElem?_eq_some_iff.1 hj).1
    have := hc j hlt
    rw [hj] at this
    have e : (⟨g, 0, none⟩ : Addr).add j = ⟨g, j, none⟩ := by cases j <;> simp [Addr.add]
    rw [e]; exact this
  · unfold maxLen; omega
  · omega
  · intro v' w' h1 h2 _
    exact h v' w' h1 (hb.grown h2 hb.size fun k hk => (hown.lt k hk).1) h2
theorem OwnRs.allocd {w : World} {lo m : Nat} {v : Value} {rs : List Ru} (h : OwnRs w lo v m rs) (o : Go.Obj) : OwnRs (w.alloc o) lo v m rs := h.on ((Below.refl _ _).alloc (Nat.le_refl _) o)
theorem flat_snoc (rs : List Ru) (r : Ru) : flat (rs ++ [r]) = flat rs ++ r.cells := by rw [flat_append]; simp [flat]
/-- a rule with conditions of its own is appended -/
theorem append_rule {ops : Array Oper} {rest : List Oper} {o : Oper} {a : Act} {Q : Exit → Act → World → Prop} {w1 : World} (hgd : o.guard = none) (s x : Operand)
    (ho : o.op = .call { callee := .builtin .append, args := #[s, x], argTypes := #[46, 46] }) (W : World) (v : Value) (m : Nat) (rs : List Ru) (hs : a.eval s = v)
    (hown : OwnRs w1 W.heap.size v m rs) (hb : Below W.heap.size W w1) (g c : Nat) (r : Ru) (hx : a.eval x = .slice (some ⟨g, 0, none⟩) 1 c) (hc : ∀ j, j < 5 → w1.cell? ⟨g, j, none⟩ = r.cells[j]?) (hn : m ≤ 2097152)
    {h' : Nat} (hi : w1.ownsRow h' tI 1 r.V r.n (ints r.ifs)) (hh : W.heap.size ≤ h') (hlt : ∀ a ∈ rs, ∀ g, a.V.ownBlock = some g → g < h')
    (h : ∀ v' w', OwnRs w' W.heap.size v' (m + 1) (rs ++ [r]) → Below W.heap.size W w' → wpList Try.prog ops Q rest (a.put o.dst v') w') : wpList Try.prog ops Q (o :: rest) a w1 := by
  refine append_flat hgd s x ho W v m (flat rs) hs hown.outer hb g c r hx hc hn fun v' w' h1 h2 h3 => ?_
  refine h v' w' ⟨by rw [flat_snoc]; exact h1, fun a ha => ?_, apart_snoc (w := w1) (lo := W.heap.size) hown.apart hlt fun g hg => (hi.lt g hg).1⟩ h2
  rcases List.mem_append.1 ha with ha | ha
  · exact World.ownsRow.kept (hown.inner a ha) h3 (own_kinds (hown.inner a ha) hown.outer (Ne.symm tR_ne_tI))
  · rw [List.mem_singleton.1 ha]
    exact World.ownsRow.kept (own_base hi hh) h3 (own_kinds hi hown.outer (Ne.symm tR_ne_tI))
theorem own_emptyR (w : World) : (w.alloc (.cells #[] tR)).ownsRow w.heap.size tR 5 (.slice (some ⟨w.heap.size, 0, none⟩) 0 0) 0 [] :=
  World.ownsRow_lit w #[] 0 (Nat.le_refl _) (Nat.zero_le _) (by simp)
theorem ownRs_empty (w : World) : OwnRs (w.alloc (.cells #[] tR)) w.heap.size (.slice (some ⟨w.heap.size, 0, none⟩) 0 0) 0 [] :=
  ⟨own_emptyR w, fun r hr => (by cases hr), fun i j a b h => by simp at h⟩
set_option maxHeartbeats 800000 in
theorem cloneRule_any (hd fr tt rk : Int) (A : Option Addr) (n c : Nat) (ifs : List Int) (w : World) (hr : Rd w w.heap.size 1 A n (ints ifs)) (hn : n ≤ 1048576) :
    Calls Try.prog 92 #[.agg #[.int .i64 hd, .slice A n c, .int .i64 fr, .int .i64 tt, .int .i64 rk]] w fun e w' => ∃ A' c', e = .returned (.agg #[.int .i64 hd, .slice A' n c', .int .i64 fr, .int .i64 tt, .int .i64 rk]) ∧
      w'.ownsRow w.heap.size tI 1 (.slice A' n c') n (ints ifs) ∧ Below w.heap.size w w' := by
  have HR := Lib.hid hr
  clear hr
  go_enter Try.func92, Try.ntmps92
  go_wp2_with (at_builtin; go_loud (refine append_intsA rfl (.tmp 3) (.tmp 5) rfl _ (.slice (some ⟨w.heap.size + 1 + 1, 0, none⟩) 0 0) 0 [] rfl (own_empty2 _ _ (by simp)) ((Below.refl _ _).alloc (Nat.le_refl _) _) A n c ifs rfl (B := w.heap.size) (((HR.out.alloc (Nat.le_refl _) _).alloc (by simp) _).alloc (by simp; omega) _) (by omega) ?_; intro v' w' h1 h2; obtain ⟨A', c', hv', _⟩ := own_form h1; subst hv'; obtain ⟨hc, hf⟩ := bcell h2; have hz : w.heap.size + 1 < w'.heap.size := (by have := h2.size; simp at this; omega); have k1 : w'.cell? ⟨w.heap.size, 1, none⟩ = some (.slice A n c) := ((hc _ _ (by first | (simp; done) | (simp; omega))).trans (by first | (go_simp; done) | (simp; done))); have H1 := Lib.hid h1; have H2 := Lib.hid h2; clear h1 h2; go_wp2_with fail))
  (try simp only [Exit.inBlock, Exit.then])
  refine bodyPost_ret (v := .agg #[.int .i64 hd, .slice A' n c', .int .i64 fr, .int .i64 tt, .int .i64 rk]) (results_cell1 rfl _ _ rfl ?_) rfl ⟨_, _, rfl, ?_, ?_⟩
  · go_simp
  · refine own_base (base := w.heap.size + 2) ?_ (by omega)
    repeat (refine own_far ?_ (by simp only; omega) _)
    have := H1.out
    simp only [Nat.zero_add, List.nil_append] at this
    exact own_base this (by simp)
  · repeat (refine Below.setCell ?_ (by simp only; omega) _)
    exact (((Below.refl _ _).alloc (Nat.le_refl _) _).alloc (by simp) _).trans (H2.out.mono (by simp; omega))
theorem dat_more {rs rs' : List Ru} {k : Nat} {r r' : Ru} (h : rs'.map Ru.dat = (rs.take k).map Ru.dat) (hr : rs[k]? = some r) (e : r'.dat = r.dat) : (rs' ++ [r']).map Ru.dat = (rs.take (k + 1)).map Ru.dat := by
  rw [take_more hr, List.map_append, List.map_append, h, List.map_cons, List.map_cons, e]
set_option maxHeartbeats 1600000 in
theorem cloneRules_any (A : Option Addr) (m c : Nat) (ds : List Rl) (w : World) (hr : RsRd w w.heap.size A m ds) (hz : szD ds ≤ 1048576) (hb : ∀ d ∈ ds, RlB d) :
    Calls Try.prog 119 #[.slice A m c] w fun e w' => ∃ v rs', e = .returned v ∧ OwnRs w' w.heap.size v m rs' ∧ rs'.map Ru.dat = ds ∧ Below w.heap.size w w' := by
  have hm := sz_len hz hr.len
  obtain ⟨rs, hr, rfl⟩ := hr
  have HN := Lib.hid (ruN_of hr.nlen hz hb)
  have HL := Lib.hid hr.len
  clear hb hz
  go_enter Try.func119, Try.ntmps119
  go_wp2_with fail
  go_loopw [3, 5, 9] (fun v _ i wr => ∃ k : Nat, k ≤ m ∧ i = .int .i64 k ∧ (∃ rs', OwnRs wr w.heap.size v k rs' ∧ rs'.map Ru.dat = (rs.take k).map Ru.dat) ∧ Below w.heap.size w wr) (fun _ _ i _ => m - (intOf i).toNat)
  case atStart => exact ⟨0, Nat.zero_le _, rfl, ⟨[], ownRs_empty w, rfl⟩, (Below.refl _ _).alloc (Nat.le_refl _) _⟩
  case round =>
    obtain ⟨k, hk, rfl, ⟨rs', hown, hdat⟩, hbw⟩ := hrel
    by_cases hlt : k < m
    · obtain ⟨ad, r, rfl, ka, hrk, hc0, hc1, hc2, hc3, hc4, hri⟩ := (hr.below hbw).row hlt
      have q1 := (HN.out r (List.mem_of_getElem? hrk)).1
      have HK := Lib.hid hrk
      have HRI := Lib.hid (hri.more hbw.size)
      have HO := Lib.hid hown
      have HW := Lib.hid hbw
      have HD := Lib.hid hdat
      obtain ⟨hd, fr, tt, rk, Ai, ni, ci, ifs⟩ := r
      dsimp only at hc0 hc1 hc2 hc3 hc4 q1 HRI
      clear hr hrk hri hown hbw hdat ka
      go_wp2_with fail
      refine (cloneRule_any hd fr tt rk Ai ni ci ifs _ ((HRI.out.alloc (Nat.le_refl _) _).more (by simp)) q1).mono ?_
      rintro e w2 ⟨A', c', rfl, ho, hb2⟩
      have HO2 := Lib.hid ((HO.out.allocd _).on hb2)
      have HW2 := Lib.hid (below_step (HW.out.alloc HW.out.size _) hb2)
      have HI2 := Lib.hid (own_base ho (Nat.le_refl _))
      have hlt2 := Lib.hid (fun a ha g hg => Nat.lt_of_lt_of_le (((HO.out.inner a ha).lt g hg).2) (show wr.heap.size ≤ (wr.alloc (.cells #[.int .i64 hd, .slice Ai ni ci, .int .i64 fr, .int .i64 tt, .int .i64 rk] tR)).heap.size by simp))
      clear ho hb2
      go_wp2_with (at_builtin; refine append_rule rfl (.tmp 13) (.tmp 16) rfl w _ k rs' rfl (HO2.out.allocd _) (HW2.out.alloc HW2.out.size _) w2.heap.size _ ⟨hd, fr, tt, rk, A', ni, c', ifs⟩ rfl (cell_new5 _ ⟨hd, fr, tt, rk, A', ni, c', ifs⟩ _) (by omega) (World.ownsRow.alloc HI2.out _) (by have := HW.out.size; simp; omega) hlt2.out ?_; intro v' w' ho2 hb2)
      go_roundw
      case rel => exact ⟨k + 1, by omega, by go_num, ⟨_, ho2, dat_more HD.out HK.out rfl⟩, hb2⟩
      case measure => simp [intOf]; omega
    · obtain rfl : m = k := by omega
      have ht := Lib.hid (show rs.take m = rs from List.take_of_length_le (by have := HL.out; omega))
      clear hr
      go_wp2_with fail
      go_ret
      exact ⟨_, rs', rfl, hown, by rw [hdat, ht.out], hbw⟩
theorem own_setfar {w : World} {base : Nat} {e : TypeId} {size n : Nat} {v : Value} {xs : List Value} (h : w.ownsRow base e size v n xs) {p : Addr} (hp : ∀ g, v.ownBlock = some g → g ≠ p.block) (u : Value) : (w.setCell p u).ownsRow base e size v n xs := by
  refine ⟨h.1, ?_⟩
  rcases h.2 with hn | ⟨g, cap, cur, rfl, hg, hgg, rest⟩
  · exact .inl hn
  · have := hp g rfl
    exact .inr ⟨g, cap, cur, rfl, hg, (Below.heap_setCell w p u g (by omega)).trans hgg, rest⟩
theorem OwnRs.setfar {w : World} {lo hi m : Nat} {v : Value} {rs : List Ru} (h : OwnRs w lo v m rs) (hI : InR hi v rs) {p : Addr} (hp : hi ≤ p.block) (u : Value) : OwnRs (w.setCell p u) lo v m rs :=
  ⟨own_setfar h.outer (fun g hg => by have := hI.1 g hg; omega) u, fun r hr => own_setfar (h.inner r hr) (fun g hg => by have := hI.2 r hr g hg; omega) u, h.apart⟩
set_option maxHeartbeats 1600000 in
theorem l05OwnRules_any (A : Option Addr) (m c : Nat) (ds : List Rl) (w : World) (hr : RsRd w w.heap.size A m ds) (hz : szD ds ≤ 1048576) (hb : ∀ d ∈ ds, RlB d) :
    Calls Try.prog 86 #[.slice A m c] w fun e w' => ∃ v rs', e = .returned v ∧ OwnRs w' w.heap.size v m rs' ∧ rs'.map Ru.dat = ds ∧ Below w.heap.size w w' := by
  have hm := sz_len hz hr.len
  obtain ⟨rs, hr, rfl⟩ := hr
  have HN := Lib.hid (ruN_of hr.nlen hz hb)
  have HL := Lib.hid hr.len
  clear hb hz
  go_enter Try.func86, Try.ntmps86
  go_wp2_with fail
  go_loopw [3, 4, 5, 9] (fun v _ _ i wr => ∃ k : Nat, k ≤ m ∧ i = .int .i64 k ∧ (∃ rs', OwnRs wr w.heap.size v k rs' ∧ rs'.map Ru.dat = (rs.take k).map Ru.dat) ∧ Below w.heap.size w wr) (fun _ _ _ i _ => m - (intOf i).toNat)
  case atStart => exact ⟨0, Nat.zero_le _, rfl, ⟨[], ownRs_empty w, rfl⟩, (Below.refl _ _).alloc (Nat.le_refl _) _⟩
  case round =>
    obtain ⟨k, hk, rfl, ⟨rs', hown, hdat⟩, hbw⟩ := hrel
    by_cases hlt : k < m
    · obtain ⟨ad, r, rfl, ka, hrk, hc0, hc1, hc2, hc3, hc4, hri⟩ := (hr.below hbw).row hlt
      have q1 := (HN.out r (List.mem_of_getElem? hrk)).1
      have HK := Lib.hid hrk
      have HRI := Lib.hid (hri.more hbw.size)
      have HO := Lib.hid hown
      have HW := Lib.hid hbw
      have HD := Lib.hid hdat
      have hz' : (0 : Int) ≤ k := by omega
      have hlt' : (k : Int) < m := by omega
      obtain ⟨hd, fr, tt, rk, Ai, ni, ci, ifs⟩ := r
      dsimp only at hc0 hc1 hc2 hc3 hc4 q1 HRI
      clear hr hrk hri hown hbw hdat ka
      go_wp2_with (
        at_builtin
        refine append_intsA rfl (.tmp 16) (.tmp 18) rfl (wr.alloc (.cells #[.int .i64 hd, .slice Ai ni ci, .int .i64 fr, .int .i64 tt, .int .i64 rk] tR)) (.slice (some ⟨wr.heap.size + 1, 0, none⟩) 0 0) 0 [] rfl (own_empty2 _ _ (by simp)) ((Below.refl _ _).alloc (Nat.le_refl _) _) Ai ni ci ifs rfl (B := wr.heap.size) ((HRI.out.alloc (Nat.le_refl _) _).alloc (by simp) _) (by omega) ?_
        intro v1 w1 h1 h2
        obtain ⟨A', c', hv', _⟩ := own_form h1
        subst hv'
        simp only [Nat.zero_add, List.nil_append] at h1
        have k0 : w1.cell? ⟨wr.heap.size, 0, none⟩ = some (.int .i64 hd) := ((h2.cell (p := ⟨wr.heap.size, 0, none⟩) (by simp)).trans (cell_new5 wr ⟨hd, fr, tt, rk, Ai, ni, ci, ifs⟩ tR 0 (by omega)))
        have k1 : w1.cell? ⟨wr.heap.size, 1, none⟩ = some (.slice Ai ni ci) := ((h2.cell (p := ⟨wr.heap.size, 1, none⟩) (by simp)).trans (cell_new5 wr ⟨hd, fr, tt, rk, Ai, ni, ci, ifs⟩ tR 1 (by omega)))
        have k2 : w1.cell? ⟨wr.heap.size, 2, none⟩ = some (.int .i64 fr) := ((h2.cell (p := ⟨wr.heap.size, 2, none⟩) (by simp)).trans (cell_new5 wr ⟨hd, fr, tt, rk, Ai, ni, ci, ifs⟩ tR 2 (by omega)))
        have k3 : w1.cell? ⟨wr.heap.size, 3, none⟩ = some (.int .i64 tt) := ((h2.cell (p := ⟨wr.heap.size, 3, none⟩) (by simp)).trans (cell_new5 wr ⟨hd, fr, tt, rk, Ai, ni, ci, ifs⟩ tR 3 (by omega)))
        have k4 : w1.cell? ⟨wr.heap.size, 4, none⟩ = some (.int .i64 rk) := ((h2.cell (p := ⟨wr.heap.size, 4, none⟩) (by simp)).trans (cell_new5 wr ⟨hd, fr, tt, rk, Ai, ni, ci, ifs⟩ tR 4 (by omega)))
        obtain ⟨_, hf⟩ := bcell h2
        have hz : wr.heap.size < w1.heap.size := (by have := h2.size; simp at this; omega)
        have HO2 := Lib.hid (((HO.out.allocd _).on h2).setfar (hi := wr.heap.size) HO.out.inR (p := ⟨wr.heap.size, 1, none⟩) (Nat.le_refl _) (.slice A' ni c'))
        have HW2 := Lib.hid (Below.setCell (below_step (HW.out.alloc HW.out.size _) h2) (p := ⟨wr.heap.size, 1, none⟩) HW.out.size (.slice A' ni c'))
        have HI2 := Lib.hid (own_far h1 (p := ⟨wr.heap.size, 1, none⟩) (by simp) (.slice A' ni c'))
        clear h1 h2
        go_wp2_with (at_builtin; refine append_rule rfl (.tmp 21) (.tmp 23) rfl w _ k rs' rfl (HO2.out.allocd _) (HW2.out.alloc HW2.out.size _) w1.heap.size _ ⟨hd, fr, tt, rk, A', ni, c', ifs⟩ rfl (by rw [← World.size_setCell (w := w1) (a := ⟨wr.heap.size, 1, none⟩) (v := .slice A' ni c')]; exact cell_new5 _ ⟨hd, fr, tt, rk, A', ni, c', ifs⟩ _) (by omega) (World.ownsRow.alloc HI2.out _) (by have := HW.out.size; simp; omega) (fun a ha g hg => by have := HO.out.inR.2 a ha g hg; simp; omega) ?_; intro v' w' ho2 hb2))
      go_roundw
      case rel => exact ⟨k + 1, by omega, by go_num, ⟨_, ho2, dat_more HD.out HK.out rfl⟩, hb2⟩
      case measure => simp [intOf]; omega
    · obtain rfl : m = k := by omega
      have ht := Lib.hid (show rs.take m = rs from List.take_of_length_le (by have := HL.out; omega))
      clear hr
      go_wp2_with fail
      go_ret
      exact ⟨_, rs', rfl, hown, by rw [hdat, ht.out], hbw⟩
end Go.Proofs.Ytkdiegplbloccaa
