/-
  READING RULES: append of a rule, what a function that gives rules returns (parts of other texts, for this seat); the program's ReadRules.
-/
import Derived.Test.YtinocfehjdlohaaDoorRrP
import Derived.Test.YtinocfehjdlohaaDoorReadI
import Derived.Test.YtinocfehjdlohaaDoorCopy
import Derived.Deep.Upon
namespace Go.Proofs.YtinocfehjdlohaaDoor
open Go.ChangeShapes Go.WideShapes Go.ChangeAt Go.RowKit Go.Deep
set_option linter.unusedVariables false
set_option linter.unusedSimpArgs false

theorem cells_one (r : Ru) : ∀ u ∈ r.cells, u.oneCell' = true := by
  have := flat_cell1 [r]
  simpa [flat] using this
theorem append_flat {ops : Array Oper} {rest : List Oper} {o : Oper} {a : Act} {Q : Exit → Act → World → Prop} {w1 : World} (hgd : o.guard = none) (s x : Operand)
    (ho : o.op = .call { callee := .builtin .append, args := #[s, x], argTypes := #[35, 35] }) (W : World) (v : Value) (m : Nat) (xs : List Value) (hs : a.eval s = v)
    (hown : w1.ownsRow W.heap.size tR 5 v m xs) (hb : Below W.heap.size W w1) (g c : Nat) (r : Ru) (hx : a.eval x = .slice (some ⟨g, 0, none⟩) 1 c) (hc : ∀ j, j < 5 → w1.cell? ⟨g, j, none⟩ = r.cells[j]?) (hn : m ≤ 2097152)
    (h : ∀ v' w', w'.ownsRow W.heap.size tR 5 v' (m + 1) (xs ++ r.cells) → Below W.heap.size W w' → w1.grownBy w' v.ownBlock → wpList Tryd.prog ops Q rest (a.put o.dst v') w') : wpList Tryd.prog ops Q (o :: rest) a w1 := by
  obtain ⟨i0, hi, hz0, hz1, hz2⟩ := info_parts info_rule
  refine wpList_append_own w1 hgd s x 35 ho W.heap.size tR i0 (.agg #[.int .i64 0, .slice none 0 0, .int .i64 0, .int .i64 0, .int .i64 0]) 5 56 Tryd.underlying35 hi hz0 hz1 hz2 rfl (by decide) v m xs hs hown ⟨g, 0, none⟩ 1 c r.cells hx rfl ?_ (cells_one r) ?_ ?_ hb.size ?_
  · intro j u hj
    have hlt : j < 5 := (List.getElem?_eq_some_iff.1 hj).1
    have := hc j hlt
    rw [hj] at this
    have e : (⟨g, 0, none⟩ : Addr).add j = ⟨g, j, none⟩ := by cases j <;> simp [Addr.add]
    rw [e]; exact this
  · unfold maxLen; omega
  · omega
  · intro v' w' h1 h2 _
    exact h v' w' h1 (hb.grown h2 hb.size fun k hk => (hown.lt k hk).1) h2
theorem OwnRs.allocd {w : World} {lo m : Nat} {v : Value} {rs : List Ru} (h : OwnRs w lo v m rs) (o : Go.Obj) : OwnRs (w.alloc o) lo v m rs := h.on ((Below.refl _ _).alloc (Nat.le_refl _) o)
theorem flat_snoc (rs : List Ru) (r : Ru) : flat (rs ++ [r]) = flat rs ++ r.cells := by rw [flat_append]; simp [flat]
theorem append_rule {ops : Array Oper} {rest : List Oper} {o : Oper} {a : Act} {Q : Exit → Act → World → Prop} {w1 : World} (hgd : o.guard = none) (s x : Operand)
    (ho : o.op = .call { callee := .builtin .append, args := #[s, x], argTypes := #[35, 35] }) (W : World) (v : Value) (m : Nat) (rs : List Ru) (hs : a.eval s = v)
    (hown : OwnRs w1 W.heap.size v m rs) (hb : Below W.heap.size W w1) (g c : Nat) (r : Ru) (hx : a.eval x = .slice (some ⟨g, 0, none⟩) 1 c) (hc : ∀ j, j < 5 → w1.cell? ⟨g, j, none⟩ = r.cells[j]?) (hn : m ≤ 2097152)
    {h' : Nat} (hi : w1.ownsRow h' tI 1 r.V r.n (ints r.ifs)) (hh : W.heap.size ≤ h') (hlt : ∀ a ∈ rs, ∀ g, a.V.ownBlock = some g → g < h')
    (h : ∀ v' w', OwnRs w' W.heap.size v' (m + 1) (rs ++ [r]) → Below W.heap.size W w' → wpList Tryd.prog ops Q rest (a.put o.dst v') w') : wpList Tryd.prog ops Q (o :: rest) a w1 := by
  refine append_flat hgd s x ho W v m (flat rs) hs hown.outer hb g c r hx hc hn fun v' w' h1 h2 h3 => ?_
  refine h v' w' ⟨by rw [flat_snoc]; exact h1, fun a ha => ?_, apart_snoc (w := w1) (lo := W.heap.size) hown.apart hlt fun g hg => (hi.lt g hg).1⟩ h2
  rcases List.mem_append.1 ha with ha | ha
  · exact World.ownsRow.kept (hown.inner a ha) h3 (own_kinds (hown.inner a ha) hown.outer (Ne.symm tR_ne_tI))
  · rw [List.mem_singleton.1 ha]
    exact World.ownsRow.kept (own_base hi hh) h3 (own_kinds hi hown.outer (Ne.symm tR_ne_tI))
theorem own_emptyR (w : World) : (w.alloc (.cells #[] tR)).ownsRow w.heap.size tR 5 (.slice (some ⟨w.heap.size, 0, none⟩) 0 0) 0 [] :=
  World.ownsRow_lit w #[] 0 (Nat.le_refl _) (Nat.zero_le _) (by simp)
theorem ownRs_empty (w : World) : OwnRs (w.alloc (.cells #[] tR)) w.heap.size (.slice (some ⟨w.heap.size, 0, none⟩) 0 0) 0 [] :=
  ⟨own_emptyR w, fun r hr => (by cases hr), fun i j a b h => by simp at h⟩
def RsEnds (W : World) (ds : List Rl) (ok : Bool) (E : Ending) (w' : World) : Prop :=
  ∃ v, E = .returned (.tuple #[v, .bool ok]) ∧ Obj w' W.heap.size w'.heap.size v ds.length ds ∧ Below W.heap.size W w'
theorem rs_no {W w' : World} (hb : Below W.heap.size W w') : RsEnds W [] false (.returned (.tuple #[.slice none 0 0, .bool false])) w' :=
  ⟨_, rfl, ⟨[], OwnRs.nil_, ⟨fun g h => (by cases h), fun r h => (by cases h)⟩, rfl⟩, hb⟩
theorem rs_yes {W w' : World} {rs : List Ru} {ds : List Rl} {v : Value} {n : Nat} (ho : OwnRs w' W.heap.size v n rs) (hd : rs.map Ru.dat = ds) (hb : Below W.heap.size W w') : RsEnds W ds true (.returned (.tuple #[v, .bool true])) w' := by
  have hl := ho.len
  subst hd
  rw [← hl] at ho
  exact ⟨_, rfl, by rw [List.length_map]; exact Obj.mk' ho, hb⟩
theorem rlB_valid {d : Rl} (h : validB d = true) : RlB d := by
  have V := rlV h
  have b1 := V.fr; have b2 := V.tt; have b3 := V.rk; have b4 := V.hd; have b5 := V.n
  refine ⟨?_, ?_, ?_, ?_, V.i64, by omega⟩ <;> (unfold I64b; omega)
theorem sz_valid {ds : List Rl} (h : ds.all validB = true) : szD ds ≤ 7 * ds.length := by
  induction ds with
  | nil => simp [szD, sumD]
  | cons d ds ih =>
    rw [List.all_cons, Bool.and_eq_true] at h
    have h1 := ih h.2
    have h2 := (rlV h.1).n
    simp only [szD, sumD, List.length_cons, List.map_cons, List.sum_cons] at h1 ⊢
    omega
theorem good_valid {s : List UInt8} (h : goodB s = true) : validB (parseR s) = true ∧ ReadRule_r0 s = parseR s ∧ ReadRule_r1 s = true := by
  obtain ⟨d, hv, hd⟩ := good_iff.1 h
  refine ⟨by rw [← hd, parseR_tx hv, hv], ?_, ?_⟩
  · unfold ReadRule_r0; rw [h, if_pos rfl]
  · unfold ReadRule_r1; exact h
theorem all_map_valid {ls : List (List UInt8)} (h : ls.all goodB = true) : (ls.map parseR).all validB = true := by
  rw [List.all_eq_true] at h ⊢
  intro d hd
  obtain ⟨x, hx, rfl⟩ := List.mem_map.1 hd
  exact (good_valid (h x hx)).1
theorem preL_at {s : List UInt8} {m k : Nat} (hm : (lns s).length = m + 1) (hk : k < m) : (preL s)[k]? = (lns s)[k]? := by
  unfold preL
  rw [List.dropLast_eq_take, hm, List.getElem?_take, if_pos (by omega)]
theorem preL_length {s : List UInt8} {m : Nat} (hm : (lns s).length = m + 1) : (preL s).length = m := by
  unfold preL; rw [List.length_dropLast, hm]; omega
theorem lns_pos (s : List UInt8) : ∃ m, (lns s).length = m + 1 := by
  refine ⟨(lns s).length - 1, ?_⟩
  have : (lns s).length ≠ 0 := by
    unfold lns Lib.split
    cases Lib.count s [10] with
    | zero => simp [Lib.splitK]
    | succ k =>
      unfold Lib.splitK
      split <;> simp
  omega
theorem take_more' {α : Type} {l : List α} {k : Nat} {x : α} (h : l[k]? = some x) : l.take (k + 1) = l.take k ++ [x] := by
  rw [List.take_add_one, h]; rfl
theorem all_no {ls : List (List UInt8)} {k : Nat} {x : List UInt8} (h : ls[k]? = some x) (hb : goodB x = false) : ls.all goodB = false := by
  cases e : ls.all goodB with
  | false => rfl
  | true =>
    rw [List.all_eq_true] at e
    rw [e x (List.mem_of_getElem? h)] at hb; cases hb
set_option maxRecDepth 100000 in
set_option maxHeartbeats 2000000 in
theorem impl_ReadRules (l : List UInt8) (w : World) (hl : l.length ≤ 1048576) (hw : RW w) : Calls Tryd.prog 22 #[.string (txB l)] w (RsEnds w (ReadRules_r0 l) (ReadRules_r1 l)) := by
  have hz : (txB l).size = l.length := txB_size l
  by_cases hl2 : l.length ≤ 4800
  case neg =>
    have hfin := Lib.hid (rr_false (rr_long (s := l) (by omega)))
    have i0 : (4800 : Int) < l.length := by omega
    go_enter Tryd.func22, Tryd.ntmps22
    go_wp2_with fail
    go_ret2
    rw [hfin.out.1, hfin.out.2]
    exact rs_no (Below.refl _ _)
  have i0 : ¬ (4800 : Int) < l.length := by omega
  have HW := Lib.hid hw
  obtain ⟨m, hm⟩ := lns_pos l
  have HM := Lib.hid hm
  have hsw := split_words (s := l) (sep := [10])
  have HSW := Lib.hid hsw.1
  have hm2 : m ≤ 4801 := by have := hsw.2; unfold lns at hm; omega
  clear hw hm hsw
  go_enter Tryd.func22, Tryd.ntmps22
  go_wp2_with fail
  refine (split_is l ⟨#[10]⟩ [10] rfl (by decide) _ HW.out hl).mono ?_
  rintro e w2 ⟨nw, rfl, hnw, hw2⟩
  obtain rfl : nw = m + 1 := by have := HM.out; unfold lns at this; omega
  have hbs : Below w.heap.size w w2 := by rw [hw2]; exact (Below.refl _ _).alloc (Nat.le_refl _) _
  have hcs : ∀ (j : Nat) x, (lns l)[j]? = some x → w2.cell? ⟨w.heap.size, j, none⟩ = some (.string (txB x)) := fun j x hx => by
    rw [hw2, World.cell?_alloc_at _ _ _ _ rfl]
    have : (strs (Lib.split l [10]))[j]? = some (.string (txB x)) := by rw [strs_at]; unfold lns at hx; rw [hx]; rfl
    simpa using this
  have hsz : w2.heap.size = w.heap.size + 1 := by rw [hw2]; simp
  have HBS := Lib.hid hbs
  have HCS := Lib.hid hcs
  have HSZ := Lib.hid hsz
  obtain ⟨gs, hgs⟩ : ∃ x, x = w.heap.size := ⟨_, rfl⟩
  rw [← hgs] at HCS HSZ ⊢
  clear hnw hw2 hbs hcs hsz hgs
  have i1 : ((m + 1 : Nat) : Int) - 1 = m := by omega
  go_wp2_with fail
  go_loopw [5, 7, 8, 9, 24] (fun v _ _ _ i wr => ∃ (k : Nat) (rs : List Ru), k ≤ m ∧ i = .int .i64 k ∧ OwnRs wr w2.heap.size v k rs ∧ rs.map Ru.dat = ((preL l).take k).map parseR ∧ ((preL l).take k).all goodB = true ∧ Below w2.heap.size w2 wr) (fun _ _ _ _ i _ => m - (intOf i).toNat)
  case atStart => exact ⟨0, [], Nat.zero_le _, rfl, ownRs_empty w2, rfl, rfl, (Below.refl _ _).alloc (Nat.le_refl _) _⟩
  case round =>
    obtain ⟨k, rs, hk, rfl, hown, hdat, hall, hb⟩ := hrel
    have HO := Lib.hid hown
    have HD := Lib.hid hdat
    have HA := Lib.hid hall
    have HB := Lib.hid hb
    clear hown hdat hall hb
    by_cases hlt : k < m
    · obtain ⟨x, hx⟩ : ∃ x, (lns l)[k]? = some x := ⟨_, List.getElem?_eq_getElem (by rw [HM.out]; omega)⟩
      have hxp : (preL l)[k]? = some x := by rw [preL_at HM.out hlt, hx]
      have hxl := HSW.out x (List.mem_of_getElem? hx)
      have hcx := (HB.out.cell (p := ⟨gs, k, none⟩) (by have := HSZ.out; show gs < _; omega)).trans (HCS.out k x hx)
      have HXP := Lib.hid hxp
      have i2 : (0 : Int) ≤ k := by omega
      have i3 : (k : Int) < m := by omega
      have HBW := Lib.hid (below_step HBS.out HB.out)
      clear hx hxp
      cases hg : goodB x
      · have hfin := Lib.hid (rr_false (show rrB l = false by unfold rrB; rw [all_no HXP.out hg]; rfl))
        have HI := Lib.hid (show ∀ W : World, RW W → Calls Tryd.prog 18 #[.string (txB x)] W (ReadEnds W (ReadRule_r0 x) false) from fun W hW => by
          have := impl_ReadRule x W (by omega) hW
          rw [show ReadRule_r1 x = false from hg] at this; exact this)
        clear hg
        go_wp2_with fail
        refine (HI.out _ (HW.out.on HBW.out)).mono ?_
        rintro e w5 ⟨A, n, c, rfl, ho, hb5⟩
        have HB5 := Lib.hid ((below_step HBW.out hb5).alloc (below_step HBW.out hb5).size (.cells #[.int .i64 (ReadRule_r0 x).hd, .slice A n c, .int .i64 (ReadRule_r0 x).fr, .int .i64 (ReadRule_r0 x).tt, .int .i64 (ReadRule_r0 x).rk] 28))
        clear ho hb5 hcx
        go_wp2_with fail
        (try simp only [Exit.inBlock, Exit.then])
        go_ret2
        rw [hfin.out.1, hfin.out.2]
        exact rs_no HB5.out
      · have hgv := good_valid hg
        have HG := Lib.hid hg
        obtain ⟨d, hd⟩ : ∃ d, parseR x = d := ⟨_, rfl⟩
        have HI := Lib.hid (show ∀ W : World, RW W → Calls Tryd.prog 18 #[.string (txB x)] W (ReadEnds W d true) from fun W hW => by
          have := impl_ReadRule x W (by omega) hW
          rw [hgv.2.1, hgv.2.2, hd] at this; exact this)
        have HPD := Lib.hid hd
        clear hg hgv hd
        obtain ⟨hh, zs, fr, tt, rk⟩ := d
        go_wp2_with fail
        refine (HI.out _ (HW.out.on HBW.out)).mono ?_
        rintro e w5 ⟨A, n, c, rfl, ho, hb5⟩
        dsimp only at ho
        have N5 := BoxF.new w5 ⟨hh, fr, tt, rk, A, n, c, zs⟩ 28
        obtain ⟨x0, x1, x2, x3, x4⟩ := N5.box
        dsimp only at x0 x1 x2 x3 x4
        have HO6 := Lib.hid ((HO.out.on hb5).allocd (.cells #[.int .i64 hh, .slice A n c, .int .i64 fr, .int .i64 tt, .int .i64 rk] 28))
        have HB6 := Lib.hid ((below_step HB.out hb5).alloc (below_step HB.out hb5).size (.cells #[.int .i64 hh, .slice A n c, .int .i64 fr, .int .i64 tt, .int .i64 rk] 28))
        have HI6 := Lib.hid (ho.alloc (.cells #[.int .i64 hh, .slice A n c, .int .i64 fr, .int .i64 tt, .int .i64 rk] 28))
        have HLT := Lib.hid (fun a (ha : a ∈ rs) g hg => ((HO.out.inner a ha).lt g hg).2)
        have HSL := Lib.hid HB.out.size
        have hk9 : k ≤ 2097152 := by omega
        have HC5 := Lib.hid (show ∀ j, j < 5 → ((w5.alloc (.cells #[.int .i64 hh, .slice A n c, .int .i64 fr, .int .i64 tt, .int .i64 rk] 28)).alloc (.cells #[.int .i64 hh, .slice A n c, .int .i64 fr, .int .i64 tt, .int .i64 rk] 28)).cell? ⟨w5.heap.size + 1, j, none⟩ = (⟨hh, fr, tt, rk, A, n, c, zs⟩ : Ru).cells[j]? from fun j hj => by
          have h := cell_new5 (w5.alloc (.cells #[.int .i64 hh, .slice A n c, .int .i64 fr, .int .i64 tt, .int .i64 rk] 28)) ⟨hh, fr, tt, rk, A, n, c, zs⟩ 28 j hj
          rw [World.size_alloc] at h
          exact h)
        clear ho hb5 hcx N5 HO HI
        go_wp2_with (at_builtin; go_loud (refine append_rule rfl (.tmp 35) (.tmp 37) rfl w2 _ k rs rfl (HO6.out.allocd _) (HB6.out.alloc HB6.out.size _) _ _ ⟨hh, fr, tt, rk, A, n, c, zs⟩ rfl HC5.out hk9 (World.ownsRow.alloc HI6.out _) HSL.out HLT.out ?_; intro v' w' ho2 hb2; have HO9 := Lib.hid ho2; have HB9 := Lib.hid hb2; clear ho2 hb2))
        go_roundw
        case rel => exact ⟨k + 1, rs ++ [⟨hh, fr, tt, rk, A, n, c, zs⟩], by omega, by go_num, HO9.out, by rw [take_more' HXP.out, List.map_append, List.map_append, HD.out, List.map_singleton, List.map_singleton, HPD.out]; rfl, by rw [take_more' HXP.out, List.all_append, HA.out]; simp [HG.out], HB9.out⟩
        case measure => simp [intOf]; omega
    · obtain rfl : k = m := by omega
      have hpl := preL_length HM.out
      have htk : (preL l).take k = preL l := List.take_of_length_le (by omega)
      rw [htk] at HD HA
      have hval := all_map_valid HA.out
      have HDS := Lib.hid (show rs.map Ru.dat = rrDs l from HD.out)
      have HVA := Lib.hid (show (rrDs l).all validB = true from hval)
      have hdl : (rrDs l).length = k := by unfold rrDs; rw [List.length_map, hpl]
      have HBW := Lib.hid (below_step HBS.out HB.out)
      obtain ⟨A, c, rfl⟩ := HO.out.form
      have HSZD := Lib.hid (show szD (rrDs l) ≤ 1048576 by have := sz_valid HVA.out; omega)
      have HRLB := Lib.hid (show ∀ d ∈ rrDs l, RlB d from fun d hd => rlB_valid (List.all_eq_true.1 HVA.out d hd))
      have HRD := Lib.hid (show RsRd wr wr.heap.size A k (rrDs l) from ⟨rs, HO.out.rrd, HDS.out⟩)
      clear hval htk hpl hdl
      go_wp2_with fail
      refine (impl_RulesText A k c (rrDs l) _ HRD.out HSZD.out HRLB.out (HW.out.on HBW.out).tab).mono ?_
      rintro e w5 ⟨rfl, hb5⟩
      have HB5 := Lib.hid (below_step HBW.out hb5)
      have HO5 := Lib.hid (HO.out.on hb5)
      clear hb5
      have hgood : rrB l = (rulesB (rrDs l) && (rulesTx (rrDs l) == l)) := by unfold rrB; rw [HA.out]; rfl
      cases hv : rulesB (rrDs l)
      · have hr := rst_no hv
        rw [hr.1, hr.2]
        have hfin := Lib.hid (rr_false (show rrB l = false by rw [hgood, hv]; rfl))
        clear hr hv hgood
        go_wp2_with fail
        (try simp only [Exit.inBlock, Exit.then])
        go_ret2
        rw [hfin.out.1, hfin.out.2]
        exact rs_no HB5.out
      · have hr := rst_yes hv
        rw [hr.1, hr.2]
        have hte := tx_eq (rulesTx (rrDs l)) l
        obtain ⟨tb, htb⟩ : ∃ b, (rulesTx (rrDs l) == l) = b := ⟨_, rfl⟩
        rw [htb] at hte hgood
        rw [hv] at hgood
        obtain ⟨st, hst⟩ : ∃ s, txB (rulesTx (rrDs l)) = s := ⟨_, rfl⟩
        rw [hst] at hte ⊢
        cases tb
        · have hfin := Lib.hid (rr_false (show rrB l = false by rw [hgood]; rfl))
          clear hr hv hst htb hgood
          go_wp2_with fail
          (try simp only [Exit.inBlock, Exit.then])
          go_ret2
          rw [hfin.out.1, hfin.out.2]
          exact rs_no HB5.out
        · have hfin := Lib.hid (show ReadRules_r0 l = rrDs l ∧ ReadRules_r1 l = true by unfold ReadRules_r0 ReadRules_r1; rw [hgood]; exact ⟨rfl, rfl⟩)
          clear hr hv hst htb hgood
          go_wp2_with fail
          (try simp only [Exit.inBlock, Exit.then])
          go_ret2
          rw [hfin.out.1, hfin.out.2]
          exact rs_yes (HO5.out.base HBS.out.size) HDS.out HB5.out
end Go.Proofs.YtinocfehjdlohaaDoor
