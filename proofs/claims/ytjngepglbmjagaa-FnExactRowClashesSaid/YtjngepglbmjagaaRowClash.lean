/-
  RowClashes: what the program's and the reference's function return.
-/
import Derived.Test.YtjngepglbmjagaaRowGaps
import Derived.Test.YtjngepglbmjagaaCopy
namespace Go.Proofs.Ytjngepglbmjagaa
open Go.ChangeShapes Go.WideShapes Go.ChangeAt Go.RowKit
set_option linter.unusedVariables false

/-! ### two rows clash -/
def clashB (a b : Int × Int × Int) : Bool := (a.2.2 != b.2.2) && (bits .and .i64 (bits .and .i64 (bits .xor .i64 a.2.1 b.2.1) a.1) b.1 == 0)
def clashG (a b : Int × Int × Int) : Bool := (a.2.2 != b.2.2) && (bits .and .i64 a.2.1 (bits .and .i64 a.1 b.1) == bits .and .i64 b.2.1 (bits .and .i64 a.1 b.1))
theorem bv_clash (x y c d : BitVec 64) : ((x ^^^ y) &&& c &&& d = 0#64) ↔ (x &&& (c &&& d) = y &&& (c &&& d)) := by
  constructor
  · intro h
    apply BitVec.eq_of_getLsbD_eq
    intro k hk
    have h3 := congrArg (fun v => v.getLsbD k) h
    simp only [BitVec.getLsbD_and]
    simp only [BitVec.getLsbD_and, BitVec.getLsbD_xor, BitVec.getLsbD_zero] at h3
    revert h3
    cases x.getLsbD k <;> cases y.getLsbD k <;> cases c.getLsbD k <;> cases d.getLsbD k <;> decide
  · intro h
    apply BitVec.eq_of_getLsbD_eq
    intro k hk
    have h3 := congrArg (fun v => v.getLsbD k) h
    simp only [BitVec.getLsbD_and] at h3
    simp only [BitVec.getLsbD_and, BitVec.getLsbD_xor, BitVec.getLsbD_zero]
    revert h3
    cases x.getLsbD k <;> cases y.getLsbD k <;> cases c.getLsbD k <;> cases d.getLsbD k <;> decide
theorem clash_eq (a b : Int × Int × Int) : clashB a b = clashG a b := by
  obtain ⟨c, x, r⟩ := a
  obtain ⟨d, y, s⟩ := b
  unfold clashB clashG
  dsimp only
  congr 1
  rw [Bool.eq_iff_iff, beq_iff_eq, beq_iff_eq]
  have eL : bits .and .i64 (bits .and .i64 (bits .xor .i64 x y) c) d = IntKind.i64.wrap (((((BitVec.ofInt 64 x ^^^ BitVec.ofInt 64 y) &&& BitVec.ofInt 64 c) &&& BitVec.ofInt 64 d).toNat : Nat) : Int) := by
    show IntKind.i64.wrap (((BitVec.ofInt 64 (IntKind.i64.wrap (((BitVec.ofInt 64 (IntKind.i64.wrap (((BitVec.ofInt 64 x ^^^ BitVec.ofInt 64 y)).toNat : Int)) &&& BitVec.ofInt 64 c)).toNat : Int)) &&& BitVec.ofInt 64 d)).toNat : Int) = _
    rw [ofInt_wrap, ofInt_wrap]
  have eR : ∀ z : Int, bits .and .i64 z (bits .and .i64 c d) = IntKind.i64.wrap (((BitVec.ofInt 64 z &&& (BitVec.ofInt 64 c &&& BitVec.ofInt 64 d)).toNat : Nat) : Int) := by
    intro z
    show IntKind.i64.wrap (((BitVec.ofInt 64 z &&& BitVec.ofInt 64 (IntKind.i64.wrap (((BitVec.ofInt 64 c &&& BitVec.ofInt 64 d)).toNat : Int)))).toNat : Int) = _
    rw [ofInt_wrap]
  have e0 : (0 : Int) = IntKind.i64.wrap ((0#64).toNat : Int) := rfl
  rw [eL, eR x, eR y, e0]
  constructor
  · intro h
    rw [(bv_clash _ _ _ _).1 (wrap_inj h)]
  · intro h
    rw [(bv_clash _ _ _ _).2 (wrap_inj h)]

/-! ### the list -/
def rowT (zs : List Int) (k : Nat) : Int × Int × Int := (fld zs k 0, fld zs k 1, fld zs k 2)
def clashIn (zs : List Int) (i : Nat) : Nat → List Int
  | 0 => []
  | m + 1 => if clashB (rowT zs i) (rowT zs (i + 1 + m)) then clashIn zs i m ++ [(i : Int), ((i + 1 + m : Nat) : Int)] else clashIn zs i m
def clashTo (zs : List Int) (n : Nat) : Nat → List Int
  | 0 => []
  | i + 1 => clashTo zs n i ++ clashIn zs i (n - (i + 1))
theorem clashIn_len (zs : List Int) (i m : Nat) : (clashIn zs i m).length ≤ 2 * m := by
  induction m with
  | zero => simp [clashIn]
  | succ m ih =>
    unfold clashIn
    split
    · rw [List.length_append]; simp; omega
    · omega
theorem clashTo_len (zs : List Int) (n k : Nat) (hn : n ≤ 32) : (clashTo zs n k).length ≤ 64 * k := by
  induction k with
  | zero => simp [clashTo]
  | succ k ih =>
    unfold clashTo
    have := clashIn_len zs k (n - (k + 1))
    rw [List.length_append]
    omega
def RowClashes_r0 (cs : Int) (zs : List Int) : List Int := if tableOk cs zs (rn zs) then clashTo zs (rn zs) (rn zs) else []
def RowClashes_r1 (cs : Int) (zs : List Int) : Bool := tableOk cs zs (rn zs)
theorem RowClashes_len (cs : Int) (zs : List Int) : (RowClashes_r0 cs zs).length ≤ 2048 := by
  unfold RowClashes_r0
  split
  · rename_i h
    have h2 := (table_c h).2
    have := clashTo_len zs (rn zs) (rn zs) h2
    omega
  · simp
theorem rx_no {cs : Int} {zs : List Int} (h : tableOk cs zs (rn zs) = false) : RowClashes_r0 cs zs = [] ∧ RowClashes_r1 cs zs = false := by unfold RowClashes_r0 RowClashes_r1; rw [h]; exact ⟨rfl, rfl⟩
theorem rx_yes {cs : Int} {zs : List Int} {n : Nat} (h : tableOk cs zs n = true) (hn : rn zs = n) : RowClashes_r0 cs zs = clashTo zs n n ∧ RowClashes_r1 cs zs = true := by
  subst hn; unfold RowClashes_r0 RowClashes_r1; rw [h]; exact ⟨rfl, rfl⟩
theorem rd_two (w : World) (a b : Int) (t : TypeId) : Rd (w.alloc (.cells #[.int .i64 a, .int .i64 b] t)) (w.heap.size + 1) 1 (some ⟨w.heap.size, 0, none⟩) 2 (ints [a, b]) := by
  refine ⟨rfl, fun _ => ⟨_, rfl, by simp, fun j u hu => ?_⟩⟩
  match j, hu with
  | 0, hu => simp [ints] at hu; subst hu; rw [show (Addr.add ⟨w.heap.size, 0, none⟩ 0) = ⟨w.heap.size, 0, none⟩ from rfl, World.cell?_alloc_at _ _ _ _ rfl]; rfl
  | 1, hu => simp [ints] at hu; subst hu; rw [show (Addr.add ⟨w.heap.size, 0, none⟩ 1) = ⟨w.heap.size, 1, none⟩ from rfl, World.cell?_alloc_at _ _ _ _ rfl]; rfl
theorem append_ints_g {ops : Array Oper} {rest : List Oper} {o : Oper} {a : Act} {Q : Exit → Act → World → Prop} {w1 : World} (hgd : o.guard = none) (s x : Operand)
    (ho : o.op = .call { callee := .builtin .append, args := #[s, x], argTypes := #[22, 22] }) (W : World) (v : Value) (n : Nat) (zs : List Int) (hs : a.eval s = v)
    (hown : w1.ownsRow W.heap.size 2 1 v n (ints zs)) (hb : Below W.heap.size W w1) (ad : Addr) (m c : Nat) (ys : List Int) (hx : a.eval x = .slice (some ad) m c) {B : Nat} (hr : Rd w1 B 1 (some ad) m (ints ys)) (hn : n + m ≤ 4194304)
    (h : ∀ v' w', w'.ownsRow W.heap.size 2 1 v' (n + m) (ints (zs ++ ys)) → Below W.heap.size W w' → (v'.ownBlock = v.ownBlock ∨ v'.ownBlock = some w1.heap.size) → w1.grownBy w' v.ownBlock → wpList Try.prog ops Q rest (a.put o.dst v') w') : wpList Try.prog ops Q (o :: rest) a w1 := by
  obtain ⟨i0, hi, hz0, hz1, hz2⟩ := info_parts info_int
  refine wpList_append_own_at w1 hgd s x 22 ho W.heap.size 2 i0 (.int .i64 0) 1 8 Try.underlying22 hi hz0 hz1 hz2 rfl (by decide) v n (ints zs) hs hown ad m c (ints ys) hx hr.1 ?_ (ints_cells ys) ?_ ?_ hb.size ?_
  · intro j u hj
    rcases Nat.eq_zero_or_pos m with h0 | h0
    · subst h0
      have := hr.1
      rw [List.getElem?_eq_none (by omega)] at hj
      cases hj
    · obtain ⟨ad', e, _, hc⟩ := hr.2 h0
      cases e
      exact hc j u hj
  · unfold maxLen; omega
  · omega
  · intro v' w' h1 h2 _ h3
    rw [← ints_append] at h1
    exact h v' w' h1 (hb.grown h2 hb.size fun k hk => (hown.lt k hk).1) h3 h2
/-- a row in a block of its own -/
def RowAt (w : World) (g : Nat) (a b c : Int) : Prop := g < w.heap.size ∧ w.cell? ⟨g, 0, none⟩ = some (.int .i64 a) ∧ w.cell? ⟨g, 1, none⟩ = some (.int .i64 b) ∧ w.cell? ⟨g, 2, none⟩ = some (.int .i64 c)
theorem RowAt.alloc {w : World} {g : Nat} {a b c : Int} (h : RowAt w g a b c) (o : Obj) : RowAt (w.alloc o) g a b c :=
  ⟨by have := h.1; rw [World.size_alloc]; omega, (World.cell?_alloc_lt w o _ h.1).trans h.2.1, (World.cell?_alloc_lt w o _ h.1).trans h.2.2.1, (World.cell?_alloc_lt w o _ h.1).trans h.2.2.2⟩
theorem RowAt.grown {w w' : World} {g : Nat} {a b c : Int} {row : Option Nat} (h : RowAt w g a b c) (hg : w.grownBy w' row) (hne : row ≠ some g) : RowAt w' g a b c :=
  ⟨Nat.lt_of_lt_of_le h.1 hg.size, hg.cell h.2.1 (fun e => hne e.symm), hg.cell h.2.2.1 (fun e => hne e.symm), hg.cell h.2.2.2 (fun e => hne e.symm)⟩
theorem RowAt.new (w : World) (a b c : Int) (t : TypeId) : RowAt (w.alloc (.cells #[.int .i64 a, .int .i64 b, .int .i64 c] t)) w.heap.size a b c := by
  refine ⟨by rw [World.size_alloc]; omega, ?_, ?_, ?_⟩ <;> rw [World.cell?_alloc_at _ _ _ _ rfl] <;> rfl
set_option maxRecDepth 100000 in
set_option maxHeartbeats 3200000 in
theorem spec_RowClashes (cs : Int) (A : Option Addr) (n c : Nat) (zs : List Int) (w : World) (b0 : -9223372036854775808 ≤ cs ∧ cs ≤ 9223372036854775807) (hr : Rd w w.heap.size 3 A n (ints zs)) (hn : n ≤ 1048576) (hz : I64s zs) :
    Calls Try.prog 38 #[.int .i64 cs, .slice A n c] w (SlEnds w (RowClashes_r0 cs zs) (RowClashes_r1 cs zs)) := by
  have HN := Lib.hid hr.rn3
  have hB : Below w.heap.size w w := Below.refl _ _
  cases h1 : tableOk cs zs n
  · have hfin := Lib.hid (rx_no (cs := cs) (zs := zs) (by rw [HN.out]; exact h1))
    go_enter Try.func38, Try.ntmps38
    go_wp2_with fail
    refine (l05Rows_any _ _ _ _ zs _ hr (by omega)).mono ?_
    rintro e w1 ⟨rfl, hb⟩
    rw [h1]
    go_wp2_with fail
    go_ret2
    rw [hfin.out.1, hfin.out.2]
    exact sl_no hb
  obtain ⟨_, n32⟩ := table_c h1
  have hfin := Lib.hid (rx_yes (zs := zs) h1 HN.out)
  go_enter Try.func38, Try.ntmps38
  go_wp2_with fail
  refine (l05Rows_any _ _ _ _ zs _ hr (by omega)).mono ?_
  rintro e w1 ⟨rfl, hb⟩
  replace hB := below_step hB hb
  rw [h1]
  clear h1 hb b0 hz
  go_wp2_with fail
  go_loopw [6, 7, 8, 9, 17] (fun v _ _ _ i wr => ∃ k : Nat, k ≤ n ∧ i = .int .i64 k ∧ wr.ownsRow w.heap.size 2 1 v (clashTo zs n k).length (ints (clashTo zs n k)) ∧ Below w.heap.size w wr) (fun _ _ _ _ i _ => n - (intOf i).toNat)
  case atStart => exact ⟨0, Nat.zero_le _, rfl, own_base (own_empty _ _) hB.size, hB.alloc hB.size _⟩
  case round =>
    obtain ⟨k, hk, rfl, hown, hbw⟩ := hrel
    clear hB
    by_cases hlt : k < n
    · have hl := clashTo_len zs n k n32
      have hst := Lib.hid (show clashTo zs n (k + 1) = clashTo zs n k ++ clashIn zs k (n - (k + 1)) from rfl)
      obtain ⟨ls, hls⟩ : ∃ ls, ls = clashTo zs n k := ⟨_, rfl⟩
      rw [← hls] at hown hl hst
      clear hls
      go_wp2_with fail
      obtain ⟨wo, rfl⟩ : ∃ wo : World, wo = wr := ⟨_, rfl⟩
      go_loopw [6, 8, 9] (fun v kv _ wi => ∃ m : Nat, k + 1 + m ≤ n ∧ kv = .int .i64 ((k + 1 + m : Nat) : Int) ∧ wi.ownsRow w.heap.size 2 1 v (ls ++ clashIn zs k m).length (ints (ls ++ clashIn zs k m)) ∧ Below w.heap.size w wi) (fun _ kv _ _ => n - (intOf kv).toNat)
      case atStart => exact ⟨0, by omega, by go_num, by simpa [clashIn] using hown, hbw⟩
      case round =>
        obtain ⟨m, hm, rfl, howni, hbi⟩ := hrel
        clear hown hbw
        by_cases hml : k + 1 + m < n
        · obtain ⟨ad, rfl, _, hc0, hc1, hc2⟩ := (hr.below hbi).row hlt
          obtain ⟨ae, hE, _, hd0, hd1, hd2⟩ := (hr.below hbi).row hml
          cases hE
          have hli := clashIn_len zs k m
          have hs2 := Lib.hid (show clashIn zs k (m + 1) = if clashB (rowT zs k) (rowT zs (k + 1 + m)) then clashIn zs k m ++ [(k : Int), ((k + 1 + m : Nat) : Int)] else clashIn zs k m from rfl)
          obtain ⟨t, ht⟩ : ∃ t, t = k + 1 + m := ⟨_, rfl⟩
          rw [← ht] at hml hd0 hd1 hd2 hs2 ⊢
          have HT := Lib.hid ht
          have htl : t ≤ n := by omega
          obtain ⟨a0, ea0⟩ : ∃ x, x = fld zs k 0 := ⟨_, rfl⟩
          obtain ⟨a1, ea1⟩ : ∃ x, x = fld zs k 1 := ⟨_, rfl⟩
          obtain ⟨a2, ea2⟩ : ∃ x, x = fld zs k 2 := ⟨_, rfl⟩
          obtain ⟨d0, ed0⟩ : ∃ x, x = fld zs t 0 := ⟨_, rfl⟩
          obtain ⟨d1, ed1⟩ : ∃ x, x = fld zs t 1 := ⟨_, rfl⟩
          obtain ⟨d2, ed2⟩ : ∃ x, x = fld zs t 2 := ⟨_, rfl⟩
          have hs3 := hs2.out
          rw [show rowT zs k = (a0, a1, a2) by rw [ea0, ea1, ea2]; rfl, show rowT zs t = (d0, d1, d2) by rw [ed0, ed1, ed2]; rfl, clash_eq] at hs3
          have HS := Lib.hid hs3
          rw [← ea0] at hc0
          rw [← ea1] at hc1
          rw [← ea2] at hc2
          rw [← ed0] at hd0
          rw [← ed1] at hd1
          rw [← ed2] at hd2
          have i1 : (0 : Int) ≤ k := by omega
          have i2 : (k : Int) < n := by omega
          have i3 : (0 : Int) ≤ t := by omega
          have i4 : (t : Int) < n := by omega
          clear ht ea0 ea1 ea2 ed0 ed1 ed2 hs2 hs3 hr
          rcases Bool.eq_false_or_eq_true (a2 != d2) with t1 | t1
          · rcases Bool.eq_false_or_eq_true (bits .and .i64 a1 (bits .and .i64 a0 d0) == bits .and .i64 d1 (bits .and .i64 a0 d0)) with t2 | t2
            · have hv := Lib.hid (show clashIn zs k (m + 1) = clashIn zs k m ++ [(k : Int), (t : Int)] by rw [HS.out, if_pos (by unfold clashG; dsimp only; rw [t1, t2]; rfl)])
              obtain ⟨ol, hol⟩ : ∃ ol, ol = ls ++ clashIn zs k m := ⟨_, rfl⟩
              have hls : ol.length ≤ 4096 := by rw [hol, List.length_append]; omega
              rw [← hol] at howni
              have HOL := Lib.hid hol
              clear hol
              go_wp2_with fail
              go_quiet (fail)
              obtain ⟨n1, rfl⟩ : ∃ n1, n1 = nq := ⟨_, rfl⟩
              go_wp2_with fail
              go_quiet (fail)
              have hown6 := own_drewN howni (n1 + nq)
              have hbi6 := below_drewN hbi (n1 + nq)
              clear howni hbi hc0 hc1 hc2 hd0 hd1 hd2
              go_wp2_with (at_builtin; refine append_ints rfl (.tmp 67) (.tmp 70) rfl w _ ol.length ol rfl (hown6.alloc _) (hbi6.alloc hbi6.size _) _ 2 2 [(k : Int), (t : Int)] rfl (rd_two _ _ _ _) (by omega) ?_; intro v' w' ho2 hb2 _)
              go_roundw
              case rel => exact ⟨m + 1, by have := HT.out; omega, by rw [HT.out]; go_num, by rw [hv.out, ← List.append_assoc, ← HOL.out]; simpa using ho2, hb2⟩
              case measure => simp [intOf]; omega
            · have hv := Lib.hid (show clashIn zs k (m + 1) = clashIn zs k m by rw [HS.out, if_neg (by unfold clashG; dsimp only; rw [t1, t2]; simp)])
              go_wp2_with fail
              go_quiet (fail)
              go_wp2_with fail
              go_quiet (fail)
              go_wp2_with fail
              go_roundw
              case rel => exact ⟨m + 1, by have := HT.out; omega, by rw [HT.out]; go_num, by rw [hv.out]; exact howni, below_drewN hbi _⟩
              case measure => simp [intOf]; omega
          · have hv := Lib.hid (show clashIn zs k (m + 1) = clashIn zs k m by rw [HS.out, if_neg (by unfold clashG; dsimp only; rw [t1]; simp)])
            go_wp2_with fail
            go_quiet (fail)
            go_wp2_with fail
            go_quiet (fail)
            go_wp2_with fail
            go_roundw
            case rel => exact ⟨m + 1, by have := HT.out; omega, by rw [HT.out]; go_num, by rw [hv.out]; exact howni, below_drewN hbi _⟩
            case measure => simp [intOf]; omega
        · have hmn : m = n - (k + 1) := by omega
          have HMN := Lib.hid hmn
          clear hmn hr
          go_wp2_with fail
          go_roundw
          case rel => exact ⟨k + 1, by omega, by go_num, by rw [hst.out, ← HMN.out]; exact howni, hbi⟩
          case measure => simp [intOf]; omega
    · obtain rfl : n = k := by omega
      clear hr
      go_wp2_with fail
      go_ret2
      rw [hfin.out.1, hfin.out.2]
      exact sl_yes rfl hown hbw

set_option maxRecDepth 100000 in
set_option maxHeartbeats 3200000 in
theorem impl_RowClashes (cs : Int) (A : Option Addr) (n c : Nat) (zs : List Int) (w : World) (b0 : -9223372036854775808 ≤ cs ∧ cs ≤ 9223372036854775807) (hr : Rd w w.heap.size 3 A n (ints zs)) (hn : n ≤ 1048576) (hz : I64s zs) :
    Calls Try.prog 39 #[.int .i64 cs, .slice A n c] w (SlEnds w (RowClashes_r0 cs zs) (RowClashes_r1 cs zs)) := by
  have HN := Lib.hid hr.rn3
  have hB : Below w.heap.size w w := Below.refl _ _
  cases h1 : tableOk cs zs n
  · have hfin := Lib.hid (rx_no (cs := cs) (zs := zs) (by rw [HN.out]; exact h1))
    go_enter Try.func39, Try.ntmps39
    go_wp2_with fail
    refine (AreRows_any _ _ _ _ zs _ hr (by omega)).mono ?_
    rintro e w1 ⟨rfl, hb⟩
    rw [h1]
    go_wp2_with fail
    go_ret2
    rw [hfin.out.1, hfin.out.2]
    exact sl_no hb
  obtain ⟨_, n32⟩ := table_c h1
  have hfin := Lib.hid (rx_yes (zs := zs) h1 HN.out)
  go_enter Try.func39, Try.ntmps39
  go_wp2_with fail
  refine (AreRows_any _ _ _ _ zs _ hr (by omega)).mono ?_
  rintro e w1 ⟨rfl, hb⟩
  replace hB := below_step hB hb
  rw [h1]
  clear h1 hb b0 hz
  go_wp2_with fail
  go_loopw [6, 7, 8, 9, 10, 18] (fun v _ _ _ _ i wr => ∃ k : Nat, k ≤ n ∧ i = .int .i64 k ∧ wr.ownsRow w.heap.size 2 1 v (clashTo zs n k).length (ints (clashTo zs n k)) ∧ Below w.heap.size w wr) (fun _ _ _ _ _ i _ => n - (intOf i).toNat)
  case atStart => exact ⟨0, Nat.zero_le _, rfl, own_base (own_empty _ _) hB.size, hB.alloc hB.size _⟩
  case round =>
    obtain ⟨k, hk, rfl, hown, hbw⟩ := hrel
    clear hB
    by_cases hlt : k < n
    · obtain ⟨ad, rfl, _, hc0, hc1, hc2⟩ := (hr.below hbw).row hlt
      have hl := clashTo_len zs n k n32
      have hst := Lib.hid (show clashTo zs n (k + 1) = clashTo zs n k ++ clashIn zs k (n - (k + 1)) from rfl)
      obtain ⟨ls, hls⟩ : ∃ ls, ls = clashTo zs n k := ⟨_, rfl⟩
      rw [← hls] at hown hl hst
      clear hls
      obtain ⟨a0, ea0⟩ : ∃ x, x = fld zs k 0 := ⟨_, rfl⟩
      obtain ⟨a1, ea1⟩ : ∃ x, x = fld zs k 1 := ⟨_, rfl⟩
      obtain ⟨a2, ea2⟩ : ∃ x, x = fld zs k 2 := ⟨_, rfl⟩
      have HRK := Lib.hid (show rowT zs k = (a0, a1, a2) by rw [ea0, ea1, ea2]; rfl)
      rw [← ea0] at hc0
      rw [← ea1] at hc1
      rw [← ea2] at hc2
      clear ea0 ea1 ea2
      have HRA := Lib.hid (RowAt.new wr a0 a1 a2 63)
      have hownA := hown.alloc (.cells #[.int .i64 a0, .int .i64 a1, .int .i64 a2] 63)
      have hbA := hbw.alloc hbw.size (.cells #[.int .i64 a0, .int .i64 a1, .int .i64 a2] 63)
      have HNE := Lib.hid (show u6.ownBlock ≠ some wr.heap.size from fun e => absurd (hown.lt _ e).2 (by omega))
      go_wp2_with fail
      obtain ⟨ga, hga⟩ : ∃ ga, ga = wr.heap.size := ⟨_, rfl⟩
      obtain ⟨wo, hwo⟩ : ∃ wo, wo = wr.alloc (.cells #[.int .i64 a0, .int .i64 a1, .int .i64 a2] 63) := ⟨_, rfl⟩
      rw [← hga] at HRA HNE ⊢
      rw [← hwo] at HRA hownA hbA ⊢
      clear hga hwo hown hbw hc0 hc1 hc2
      go_loopw [6, 9, 10] (fun v kv _ wi => ∃ m : Nat, k + 1 + m ≤ n ∧ kv = .int .i64 ((k + 1 + m : Nat) : Int) ∧ wi.ownsRow w.heap.size 2 1 v (ls ++ clashIn zs k m).length (ints (ls ++ clashIn zs k m)) ∧ Below w.heap.size w wi ∧ RowAt wi ga a0 a1 a2 ∧ v.ownBlock ≠ some ga) (fun _ kv _ _ => n - (intOf kv).toNat)
      case atStart => exact ⟨0, by omega, by go_num, by simpa [clashIn] using hownA, hbA, HRA.out, HNE.out⟩
      case round =>
        obtain ⟨m, hm, rfl, howni, hbi, hra, hne⟩ := hrel
        clear hownA hbA HRA HNE
        by_cases hml : k + 1 + m < n
        · obtain ⟨ae, hE, _, hd0, hd1, hd2⟩ := (hr.below hbi).row hml
          cases hE
          have hli := clashIn_len zs k m
          have hs2 := Lib.hid (show clashIn zs k (m + 1) = if clashB (rowT zs k) (rowT zs (k + 1 + m)) then clashIn zs k m ++ [(k : Int), ((k + 1 + m : Nat) : Int)] else clashIn zs k m from rfl)
          obtain ⟨t, ht⟩ : ∃ t, t = k + 1 + m := ⟨_, rfl⟩
          rw [← ht] at hml hd0 hd1 hd2 hs2 ⊢
          have HT := Lib.hid ht
          have htl : t ≤ n := by omega
          obtain ⟨d0, ed0⟩ : ∃ x, x = fld zs t 0 := ⟨_, rfl⟩
          obtain ⟨d1, ed1⟩ : ∃ x, x = fld zs t 1 := ⟨_, rfl⟩
          obtain ⟨d2, ed2⟩ : ∃ x, x = fld zs t 2 := ⟨_, rfl⟩
          have hs3 := hs2.out
          rw [HRK.out, show rowT zs t = (d0, d1, d2) by rw [ed0, ed1, ed2]; rfl] at hs3
          have HS := Lib.hid hs3
          rw [← ed0] at hd0
          rw [← ed1] at hd1
          rw [← ed2] at hd2
          have hra2 := hra.alloc (.cells #[.int .i64 d0, .int .i64 d1, .int .i64 d2] 63)
          obtain ⟨q0, q1, q2, q3⟩ := hra2
          have HRA := Lib.hid hra
          have HNE := Lib.hid hne
          clear ht ed0 ed1 ed2 hs2 hs3 hr hra hne
          rcases Bool.eq_false_or_eq_true (a2 != d2) with t1 | t1
          · rcases Bool.eq_false_or_eq_true (bits .and .i64 (bits .and .i64 (bits .xor .i64 a1 d1) a0) d0 == 0) with t2 | t2
            · have hv := Lib.hid (show clashIn zs k (m + 1) = clashIn zs k m ++ [(k : Int), (t : Int)] by rw [HS.out, if_pos (by unfold clashB; dsimp only; rw [t1, t2]; rfl)])
              obtain ⟨ol, hol⟩ : ∃ ol, ol = ls ++ clashIn zs k m := ⟨_, rfl⟩
              have hls : ol.length ≤ 4096 := by rw [hol, List.length_append]; omega
              rw [← hol] at howni
              have HOL := Lib.hid hol
              clear hol
              have HRD := Lib.hid (rd_two (wr.alloc (.cells #[.int .i64 d0, .int .i64 d1, .int .i64 d2] 63)) k t 2)
              rw [World.size_alloc] at HRD
              have hbi1 := hbi.alloc hbi.size (.cells #[.int .i64 d0, .int .i64 d1, .int .i64 d2] 63)
              have HBI := Lib.hid (hbi1.alloc hbi1.size (.cells #[.int .i64 k, .int .i64 t] 2))
              have HOI := Lib.hid ((howni.alloc (.cells #[.int .i64 d0, .int .i64 d1, .int .i64 d2] 63)).alloc (.cells #[.int .i64 k, .int .i64 t] 2))
              clear hbi1
              go_wp2_with (at_builtin; refine append_ints_g rfl (.tmp 54) (.tmp 57) rfl w _ ol.length ol rfl HOI.out HBI.out _ 2 2 [(k : Int), (t : Int)] rfl HRD.out (by omega) ?_; intro v' w' ho2 hb2 h3 hg)
              have HRB := Lib.hid (((HRA.out.alloc _).alloc _).grown hg HNE.out)
              have HNB := Lib.hid (show v'.ownBlock ≠ some ga by
                intro e
                rcases h3 with h3 | h3
                · exact HNE.out (h3.symm.trans e)
                · rw [h3] at e
                  injection e with e
                  have := HRA.out.1
                  simp at e
                  omega)
              go_roundw
              case rel => exact ⟨m + 1, by have := HT.out; omega, by rw [HT.out]; go_num, by rw [hv.out, ← List.append_assoc, ← HOL.out]; simpa using ho2, hb2, HRB.out, HNB.out⟩
              case measure => simp [intOf]; omega
            · have hv := Lib.hid (show clashIn zs k (m + 1) = clashIn zs k m by rw [HS.out, if_neg (by unfold clashB; dsimp only; rw [t1, t2]; simp)])
              go_wp2_with fail
              go_roundw
              case rel => exact ⟨m + 1, by have := HT.out; omega, by rw [HT.out]; go_num, by rw [hv.out]; exact howni.alloc _, hbi.alloc hbi.size _, HRA.out.alloc _, HNE.out⟩
              case measure => simp [intOf]; omega
          · have hv := Lib.hid (show clashIn zs k (m + 1) = clashIn zs k m by rw [HS.out, if_neg (by unfold clashB; dsimp only; rw [t1]; simp)])
            go_wp2_with fail
            go_roundw
            case rel => exact ⟨m + 1, by have := HT.out; omega, by rw [HT.out]; go_num, by rw [hv.out]; exact howni.alloc _, hbi.alloc hbi.size _, HRA.out.alloc _, HNE.out⟩
            case measure => simp [intOf]; omega
        · have hmn : m = n - (k + 1) := by omega
          have HMN := Lib.hid hmn
          clear hmn hr
          go_wp2_with fail
          go_roundw
          case rel => exact ⟨k + 1, by omega, by go_num, by rw [hst.out, ← HMN.out]; exact howni, hbi⟩
          case measure => simp [intOf]; omega
    · obtain rfl : n = k := by omega
      clear hr
      go_wp2_with fail
      go_ret2
      rw [hfin.out.1, hfin.out.2]
      exact sl_yes rfl hown hbw
end Go.Proofs.Ytjngepglbmjagaa
