/-
  DrawnReturns: what the program's and the reference's function return.
-/
import Derived.Test.YtefoebaoejoamaaAreF
import Derived.Test.YtefoebaoejoamaaAppF
namespace Go.Proofs.Ytefoebaoejoamaa
open Fl
open Go.ChangeShapes Go.WideShapes Go.ChangeAt Go.RowKit
set_option linter.unusedVariables false

/-! ### times 2^-24 is divided by 2^24 -/
theorem word_ext {x y : Nat} (hx : x < 4294967296) (hy : y < 4294967296) (h : rk x = rk y) (hs : sn x = sn y) : x = y := by
  rw [rk_eq, rk_eq] at h
  have h1 : (x / Ieee.single.signWeight % 2 == 1) = (y / Ieee.single.signWeight % 2 == 1) := hs
  rw [s_sw] at h1
  have h2 : x / 2147483648 % 2 = 1 ↔ y / 2147483648 % 2 = 1 := by
    constructor
    · intro a; rw [a] at h1; simpa using h1.symm
    · intro a; rw [a] at h1; simpa using h1
  omega
theorem mag_c1 : mag 864026624 = 2 ^ 125 := by
  rw [mag_eq, rk_eq]
  have h := mg_at (P := 8388608) (E := 102) (F := 0) (by decide)
  have p23 : (2 : Nat) ^ 23 = 8388608 := by decide
  rw [show (102 + 1) * 8388608 + 0 = 864026624 by decide, Nat.add_zero] at h
  rw [show 864026624 % 2147483648 = 864026624 by decide, h, ← p23, ← Nat.pow_add 2 23 102]
theorem mag_c2 : mag 1266679808 = 2 ^ 173 := by
  rw [mag_eq, rk_eq]
  have h := mg_at (P := 8388608) (E := 150) (F := 0) (by decide)
  have p23 : (2 : Nat) ^ 23 = 8388608 := by decide
  rw [show (150 + 1) * 8388608 + 0 = 1266679808 by decide, Nat.add_zero] at h
  rw [show 1266679808 % 2147483648 = 1266679808 by decide, h, ← p23, ← Nat.pow_add 2 23 150]
theorem F_c1 : F 864026624 := F_iff.2 (by rw [rk_eq]; decide)
theorem F_c2 : F 1266679808 := F_iff.2 (by rw [rk_eq]; decide)
theorem powD {a E D : Nat} (h : D ≤ E) : a * 2 ^ (E - D) * 2 ^ D = a * 2 ^ E := by
  rw [Nat.mul_assoc, ← Nat.pow_add]
  congr 2; omega
theorem down24 {x : Nat} (h : rk x = 0 ∨ 209715200 ≤ rk x) : ∃ b, b ≤ rk x ∧ mg 8388608 b * 2 ^ 24 = mag x := by
  rcases h with h | h
  · refine ⟨0, Nat.zero_le _, ?_⟩
    rw [mag_eq, h]; rfl
  · refine ⟨rk x - 201326592, by omega, ?_⟩
    rw [mag_eq]
    generalize rk x = y at h ⊢
    rcases rung_parts (P := 8388608) (by decide) y with hl | ⟨E, Fr, hF, rfl⟩
    · omega
    · have e : (E + 1) * 8388608 + Fr - 201326592 = (E - 24 + 1) * 8388608 + Fr := by omega
      have g1 := mg_at (E := E - 24) hF
      have g2 := mg_at (E := E) hF
      rw [e]
      refine (congrArg (· * 2 ^ 24) g1).trans (Eq.trans ?_ g2.symm)
      exact powD (D := 24) (by omega)
theorem scale24 {x : Nat} (hx : F x) (h : rk x = 0 ∨ 209715200 ≤ rk x) : okM x 864026624 ∧ okD x 1266679808 ∧ fmul x 864026624 = fdiv x 1266679808 := by
  obtain ⟨r, h1, h2⟩ := mul_res s_lp hx F_c1
  obtain ⟨q, k1, k2⟩ := div_res s_lp hx F_c2 (by show mag 1266679808 ≠ 0; rw [mag_c2]; exact Nat.pos_iff_ne_zero.1 (Nat.two_pow_pos _))
  obtain ⟨a, b⟩ := okM_of h1
  obtain ⟨c, d⟩ := okD_of k1
  refine ⟨a, c, ?_⟩
  rw [b, d]
  obtain ⟨bb, hb1, hb2⟩ := down24 h
  have hbi : bb < 2139095040 := Nat.lt_of_le_of_lt hb1 (F_iff.1 hx)
  have e1 : vm Ieee.single x * vm Ieee.single 864026624 = mg Ieee.single.binade bb * 2 ^ 149 := by
    show mag x * mag 864026624 = _
    rw [mag_c1, ← hb2, s_bin, Nat.mul_assoc, ← Nat.pow_add]
  have e2 : vm Ieee.single x * 2 ^ 149 = mg Ieee.single.binade bb * vm Ieee.single 1266679808 := by
    show mag x * _ = _ * mag 1266679808
    rw [mag_c2, ← hb2, s_bin, Nat.mul_assoc, ← Nat.pow_add]
  have r1 : rk r = bb := Nat.le_antisymm (h2.le bb (by rw [s_inf]; exact hbi) (Nat.le_of_eq e1)) (h2.ge bb (by rw [s_inf]; omega) (Nat.le_of_eq e1.symm))
  have r2 : rk q = bb := Nat.le_antisymm (k2.le bb (by rw [s_inf]; exact hbi) (Nat.le_of_eq e2)) (k2.ge bb (by rw [s_inf]; omega) (Nat.le_of_eq e2.symm))
  refine word_ext (by have := h2.wd; rwa [s_wd] at this) (by have := k2.wd; rwa [s_wd] at this) (r1.trans r2.symm) ?_
  show sg _ r = sg _ q
  rw [h2.sgn, k2.sgn]
  have : sg Ieee.single 864026624 = sg Ieee.single 1266679808 := by decide
  rw [this]
theorem ofI_small {k : Int} (h0 : 0 ≤ k) (h1 : k < 16777216) : Bd 24 (ofI k) ∧ (rk (ofI k) = 0 ∨ 209715200 ≤ rk (ofI k)) := by
  have hb : Bd 24 (ofI k) := fint_bd (by decide) (by omega)
  refine ⟨hb, ?_⟩
  have hr := int_res s_lp k
  have hr' : Res Ieee.single (decide (k < 0)) (k.natAbs * 2 ^ 149) 1 (ofI k) := hr
  by_cases hk : k = 0
  · left
    have := hr'.le 0 (by rw [s_inf]; decide) (by rw [hk]; simp)
    exact Nat.le_zero.1 this
  · right
    have := hr'.ge 1065353216 (by rw [s_inf]; decide) (by
      rw [s_bin, show mg 8388608 1065353216 = 2 ^ 149 from mg_pw 0, Nat.mul_one]
      have : 1 * 2 ^ 149 ≤ k.natAbs * 2 ^ 149 := Nat.mul_le_mul_right _ (by omega)
      omega)
    have h3 : 1065353216 ≤ rk (ofI k) := this
    omega

/-! ### the draws -/
def seedAt (s : Int) : Nat → Int
  | 0 => s
  | k + 1 => (1664525 * seedAt s k + 1013904223) % 4294967296
theorem seed_bd {s : Int} (h : 0 ≤ s ∧ s ≤ 4294967295) : ∀ k, 0 ≤ seedAt s k ∧ seedAt s k ≤ 4294967295
  | 0 => h
  | k + 1 => by
    show 0 ≤ (1664525 * seedAt s k + 1013904223) % 4294967296 ∧ (1664525 * seedAt s k + 1013904223) % 4294967296 ≤ 4294967295
    omega
def drawOf (s : Int) : Nat := fsub (fmul (ofI (s / 256)) 864026624) 1056964608
theorem F_half : F 1056964608 := F_iff.2 (by rw [rk_eq]; decide)
theorem Bd_half : Bd 0 1056964608 := ⟨by decide, by rw [rk_eq]; decide⟩
theorem Bd_c1 : Bd 0 864026624 := ⟨by decide, by rw [rk_eq]; decide⟩
theorem draw_ok {s : Int} (h : 0 ≤ s ∧ s ≤ 4294967295) : okM (ofI (s / 256)) 864026624 ∧ okD (ofI (s / 256)) 1266679808 ∧ fdiv (ofI (s / 256)) 1266679808 = fmul (ofI (s / 256)) 864026624 ∧ okS (fmul (ofI (s / 256)) 864026624) 1056964608 ∧ Bd 25 (drawOf s) := by
  obtain ⟨b, c⟩ := ofI_small (k := s / 256) (by omega) (by omega)
  obtain ⟨o1, o2, e⟩ := scale24 (b.fin (by decide)) c
  obtain ⟨_, b2⟩ := fmul_bd b Bd_c1 (by decide)
  obtain ⟨o3, b3⟩ := fsub_bd (M := 24) b2 Bd_half (by decide) (by decide) (by decide)
  exact ⟨o1, o2, e.symm, o3, b3⟩
/-- the sum of the first j of the draws behind place m -/
def dsumAt (s : Int) (m : Nat) : Nat → Nat
  | 0 => 0
  | j + 1 => fadd (dsumAt s m j) (drawOf (seedAt s (m + j + 1)))
theorem dsum_bd {s : Int} (h : 0 ≤ s ∧ s ≤ 4294967295) (m : Nat) : ∀ j, j ≤ 4 → Bd (25 + j) (dsumAt s m j)
  | 0, _ => In1_zero.bd.mono (by decide)
  | j + 1, hj => (fadd_bd (M := 25 + j) (dsum_bd h m j (by omega)) (draw_ok (seed_bd h (m + j + 1))).2.2.2.2 (Nat.le_refl _) (by omega) (by omega)).2
theorem dsum_ok {s : Int} (h : 0 ≤ s ∧ s ≤ 4294967295) (m j : Nat) (hj : j < 4) : okA (dsumAt s m j) (drawOf (seedAt s (m + j + 1))) :=
  (fadd_bd (M := 25 + j) (dsum_bd h m j (by omega)) (draw_ok (seed_bd h (m + j + 1))).2.2.2.2 (Nat.le_refl _) (by omega) (by omega)).1
/-- a sum of a finite word and one that is no NaN -/
theorem okA_num {x y : Nat} (hx : F x) (hy : nan32 y = false) : okA x y := by
  by_cases hf : F y
  · exact okA_fin hx hf
  · have h1 : ¬ rk y < 2139095040 := fun a => hf (F_iff.2 a)
    have h2 : ¬ 2139095040 < rk y := fun a => by rw [nan_iff.2 a] at hy; cases hy
    obtain ⟨m, e, hr, _⟩ := read_fi hx
    have : Ieee.single.add x y = some (Ieee.single.write (.infinity (sn y))) := by
      unfold Ieee.Format.add
      rw [hr, read_inf (by omega)]; rfl
    exact (okA_of this).1
theorem mul_num {x y : Nat} (hx : F x) (hy : F y) : okM x y ∧ nan32 (fmul x y) = false := by
  obtain ⟨r, h1, h2⟩ := mul_res s_lp hx hy
  obtain ⟨a, b⟩ := okM_of h1
  refine ⟨a, ?_⟩
  rw [b]
  have h3 : rk r ≤ 2139095040 := by have := h2.top; rwa [s_inf] at this
  cases hn : nan32 r with
  | false => rfl
  | true => have := nan_iff.1 hn; omega
def itemOf (me wi : Nat) (s : Int) (k : Nat) : Nat := fadd me (fmul wi (dsumAt s (4 * k) 4))
def itemsTo (me wi : Nat) (s : Int) (k : Nat) : List Nat := (List.range k).map (itemOf me wi s)
theorem itemsTo_length (me wi : Nat) (s : Int) (k : Nat) : (itemsTo me wi s k).length = k := by simp [itemsTo]
theorem itemsTo_succ (me wi : Nat) (s : Int) (k : Nat) : itemsTo me wi s (k + 1) = itemsTo me wi s k ++ [itemOf me wi s k] := by simp [itemsTo, List.range_succ]
def drPre (me wi : Nat) (s c : Int) : Bool := finB me && (finB wi && (inB s 0 4294967295 && inB c 1 64))
def drOk (me wi : Nat) (s c : Int) : Bool := drPre me wi s c && allFin (itemsTo me wi s c.toNat)
def DrawnReturns_r0 (me wi : Nat) (s c : Int) : List Nat := if drOk me wi s c then itemsTo me wi s c.toNat else []
def DrawnReturns_r1 (me wi : Nat) (s c : Int) : Int := if drOk me wi s c then seedAt s (4 * c.toNat) else 0
def DrawnReturns_r2 (me wi : Nat) (s c : Int) : Bool := drOk me wi s c
theorem DrawnReturns_len (me wi : Nat) (s c : Int) : (DrawnReturns_r0 me wi s c).length ≤ 64 := by
  unfold DrawnReturns_r0
  cases h : drOk me wi s c
  · simp
  · rw [if_pos rfl, itemsTo_length]
    simp [drOk, drPre, inB] at h
    omega
def DrIs (W : World) (me wi : Nat) (s c : Int) (E : Ending) (w' : World) : Prop :=
  ∃ v, E = .returned (.tuple #[v, .int .i64 (DrawnReturns_r1 me wi s c), .bool (DrawnReturns_r2 me wi s c)]) ∧ w'.ownsRow W.heap.size 26 1 v (DrawnReturns_r0 me wi s c).length (flts (DrawnReturns_r0 me wi s c)) ∧ Below W.heap.size W w'
theorem dr_no {W w' : World} {me wi : Nat} {s c : Int} (h : drOk me wi s c = false) (hb : Below W.heap.size W w') : DrIs W me wi s c (.returned (.tuple #[.slice none 0 0, .int .i64 0, .bool false])) w' := by
  unfold DrIs DrawnReturns_r0 DrawnReturns_r1 DrawnReturns_r2
  rw [h]
  exact ⟨_, rfl, ⟨by simp [flts], .inl ⟨rfl, rfl⟩⟩, hb⟩
theorem dr_yes {W w' : World} {me wi R : Nat} {s : Int} {v : Value} (h : drOk me wi s R = true) (ho : w'.ownsRow W.heap.size 26 1 v R (flts (itemsTo me wi s R))) (hb : Below W.heap.size W w') :
    DrIs W me wi s R (.returned (.tuple #[v, .int .i64 (seedAt s (4 * R)), .bool true])) w' := by
  unfold DrIs DrawnReturns_r0 DrawnReturns_r1 DrawnReturns_r2
  rw [h, Int.toNat_natCast]
  exact ⟨_, rfl, by simpa [itemsTo_length] using ho, hb⟩
set_option maxHeartbeats 6400000 in
set_option maxRecDepth 100000 in
theorem impl_dr_yes (me wi R : Nat) (s : Int) (w : World) (h1 : finB me = true) (h2 : finB wi = true) (h3 : inB s 0 4294967295 = true) (h4 : inB (R : Int) 1 64 = true) :
    Calls Try.prog 45 #[.float .f32 me, .float .f32 wi, .int .i64 s, .int .i64 R] w (DrIs w me wi s R) := by
  have hs := inB_iff.1 h3
  have hR := inB_iff.1 h4
  have HS := Lib.hid hs
  have HM := Lib.hid (finB_iff.1 h1)
  have HW := Lib.hid (finB_iff.1 h2)
  have hpre : drPre me wi s R = true := by simp [drPre, h1, h2, h3, h4]
  have hno := Lib.hid (fun w' (ha : allFin (itemsTo me wi s R) = false) hb => dr_no (W := w) (w' := w') (me := me) (wi := wi) (s := s) (c := (R : Int)) (by rw [drOk, hpre, Int.toNat_natCast, ha]; rfl) hb)
  have hyes := Lib.hid (fun v w' (ha : allFin (itemsTo me wi s R) = true) ho hb => dr_yes (W := w) (w' := w') (me := me) (wi := wi) (s := s) (v := v) (R := R) (by rw [drOk, hpre, Int.toNat_natCast, ha]; rfl) ho hb)
  have hB : Below w.heap.size w w := Below.refl _ _
  clear hpre
  go_enter Try.func45, Try.ntmps45
  go_wp2_with (first | (go_at_call_of 71 me; refine (isFinite_any me _).mono ?_; rintro e w1 ⟨rfl, hb1⟩; replace hB := below_step hB hb1; clear hb1) | (go_at_call_of 71 wi; refine (isFinite_any wi _).mono ?_; rintro e w1' ⟨rfl, hb1⟩; replace hB := below_step hB hb1; clear hb1) | (go_at_call 59; refine (within_any _ _ _ _).mono ?_; rintro e w' ⟨rfl, rfl⟩))
  obtain ⟨W1, rfl⟩ : ∃ W1, W1 = w1' := ⟨_, rfl⟩
  have HBW := Lib.hid hB
  have hB2 : Below W1.heap.size W1 W1 := Below.refl _ _
  clear hB h1 h2 h3 h4
  go_loopw [2, 11, 12, 13, 34, 36] (fun sd v _ _ i _ wr => ∃ k : Nat, k ≤ R ∧ i = .int .i64 k ∧ sd = .int .i64 (seedAt s (4 * k)) ∧ wr.ownsRow W1.heap.size 26 1 v k (flts (itemsTo me wi s k)) ∧ Below W1.heap.size W1 wr) (fun _ _ _ _ i _ _ => R - (intOf i).toNat)
  case atStart => exact ⟨0, Nat.zero_le _, rfl, rfl, own_base (own_empty _ _) hB2.size, hB2.alloc hB2.size _⟩
  case round =>
    clear hB2 hs
    obtain ⟨k, hk, rfl, rfl, hown, hbw⟩ := hrel
    by_cases hlt : k < R
    · have hk4 : k + 1 ≤ 4194304 := by first | omega | (have := HK.out; omega)
      have HOWN := Lib.hid hown
      have HBR := Lib.hid hbw
      have hsz := hbw.size
      obtain ⟨wo, rfl⟩ : ∃ wo : World, wo = wr := ⟨_, rfl⟩
      go_wp2_with fail
      go_loop [2, 12, 13, 36] (fun sd x _ i => ∃ q : Nat, q ≤ 4 ∧ i = .int .i64 q ∧ sd = .int .i64 (seedAt s (4 * k + q)) ∧ x = .float .f32 (dsumAt s (4 * k) q)) (fun _ _ _ i => 4 - (intOf i).toNat)
      case atStart => exact ⟨0, Nat.zero_le _, rfl, rfl, rfl⟩
      case round =>
        obtain ⟨q, hq, rfl, rfl, rfl⟩ := hrel
        clear hown hbw
        by_cases hq4 : q < 4
        · have sb := seed_bd HS.out (4 * k + q)
          have sb2 := seed_bd HS.out (4 * k + q + 1)
          have hst := Lib.hid (show seedAt s (4 * k + q + 1) = (1664525 * seedAt s (4 * k + q) + 1013904223) % 4294967296 from rfl)
          obtain ⟨o1, o2, oe, o3, _⟩ := draw_ok sb2
          have o4 := dsum_ok HS.out (4 * k) q hq4
          unfold drawOf at o4
          have hv := Lib.hid (show dsumAt s (4 * k) (q + 1) = fadd (dsumAt s (4 * k) q) (fsub (fmul (ofI (seedAt s (4 * k + q + 1) / 256)) 864026624) 1056964608) from rfl)
          rw [hst.out] at o1 o2 oe o3 o4 hv
          obtain ⟨sd, hsd⟩ : ∃ sd, sd = seedAt s (4 * k + q) := ⟨_, rfl⟩
          obtain ⟨ds, hds⟩ : ∃ ds, ds = dsumAt s (4 * k) q := ⟨_, rfl⟩
          rw [← hsd] at sb o1 o2 oe o3 o4 hv hst ⊢
          rw [← hds] at o4 hv ⊢
          have q1 := fun (t : TypeId) (w : World) => run_fmul (P := Try.prog) t o1 w
          have q2 := fun (t : TypeId) (w : World) => run_fdiv (P := Try.prog) t o2 w
          have q3 := fun (t : TypeId) (w : World) => run_fsub (P := Try.prog) t o3 w
          have q4 := fun (t : TypeId) (w : World) => run_fadd (P := Try.prog) t o4 w
          rw [oe] at q2
          clear o1 o2 oe o3 o4 hsd hds sb2
          go_wp2_with fail
          go_round
          case rel => exact ⟨q + 1, by omega, by go_num, by rw [← Nat.add_assoc, hst.out], by rw [hv.out]⟩
          case measure => simp [intOf]; omega
        · obtain rfl : q = 4 := by omega
          obtain ⟨o1, n1⟩ := mul_num HW.out ((dsum_bd HS.out (4 * k) 4 (by decide)).fin (by decide))
          have o2 := okA_num HM.out n1
          have q1 := fun (t : TypeId) (w : World) => run_fmul (P := Try.prog) t o1 w
          have q2 := fun (t : TypeId) (w : World) => run_fadd (P := Try.prog) t o2 w
          have hst := Lib.hid (itemsTo_succ me wi s k)
          have hown := HOWN.out
          have hbw := HBR.out
          have e44 : 4 * k + 4 = 4 * (k + 1) := by omega
          rw [e44]
          clear o1 o2 n1 e44
          go_wp2_with (at_builtin; refine append_flt rfl (.tmp 51) (.tmp 57) rfl W1 _ k (itemsTo me wi s k) rfl (hown.alloc _) (hbw.alloc hbw.size _) _ _ (fadd me (fmul wi (dsumAt s (4 * k) 4))) rfl (cell_new _ _ _) hk4 ?_; intro v' w' ho2 hb2)
          go_roundw
          case rel => exact ⟨k + 1, by omega, by go_num, rfl, by rw [hst.out]; exact ho2, hb2⟩
          case measure => simp [intOf]; omega
    · obtain rfl : R = k := by omega
      obtain ⟨A3, c3, rfl, hr3⟩ := own_rd hown rfl
      have hR2 : R ≤ 1048576 := by omega
      have HB3 := Lib.hid (below_step HBW.out hbw)
      have HOWN := Lib.hid (own_base hown HBW.out.size)
      clear hown hbw
      cases hal : allFin (itemsTo me wi s R)
      · go_wp2_with (go_at_call 72; refine (areFinite_any _ _ _ (itemsTo me wi s R) _ hr3 hR2).mono ?_; rintro e w4 ⟨rfl, hb4⟩)
        go_ret3
        exact hno.out _ hal (below_step HB3.out hb4)
      · go_wp2_with (go_at_call 72; refine (areFinite_any _ _ _ (itemsTo me wi s R) _ hr3 hR2).mono ?_; rintro e w4 ⟨rfl, hb4⟩)
        go_ret3
        exact hyes.out _ _ hal (own_on HOWN.out hb4) (below_step HB3.out hb4)
set_option maxHeartbeats 6400000 in
set_option maxRecDepth 100000 in
theorem spec_dr_yes (me wi R : Nat) (s : Int) (w : World) (h1 : finB me = true) (h2 : finB wi = true) (h3 : inB s 0 4294967295 = true) (h4 : inB (R : Int) 1 64 = true) :
    Calls Try.prog 44 #[.float .f32 me, .float .f32 wi, .int .i64 s, .int .i64 R] w (DrIs w me wi s R) := by
  have hs := inB_iff.1 h3
  have hR := inB_iff.1 h4
  have HS := Lib.hid hs
  have HM := Lib.hid (finB_iff.1 h1)
  have HW := Lib.hid (finB_iff.1 h2)
  have hpre : drPre me wi s R = true := by simp [drPre, h1, h2, h3, h4]
  have hno := Lib.hid (fun w' (ha : allFin (itemsTo me wi s R) = false) hb => dr_no (W := w) (w' := w') (me := me) (wi := wi) (s := s) (c := (R : Int)) (by rw [drOk, hpre, Int.toNat_natCast, ha]; rfl) hb)
  have hyes := Lib.hid (fun v w' (ha : allFin (itemsTo me wi s R) = true) ho hb => dr_yes (W := w) (w' := w') (me := me) (wi := wi) (s := s) (v := v) (R := R) (by rw [drOk, hpre, Int.toNat_natCast, ha]; rfl) ho hb)
  have hB : Below w.heap.size w w := Below.refl _ _
  clear hpre
  go_enter Try.func44, Try.ntmps44
  go_wp2_with (first | (go_at_call_of 61 me; refine (l01Finite_any me _).mono ?_; rintro e w1 ⟨rfl, hb1⟩; replace hB := below_step hB hb1; clear hb1) | (go_at_call_of 61 wi; refine (l01Finite_any wi _).mono ?_; rintro e w1' ⟨rfl, hb1⟩; replace hB := below_step hB hb1; clear hb1) | (go_at_call 58; refine (l00In_any _ _ _ _).mono ?_; rintro e w' ⟨rfl, rfl⟩))
  obtain ⟨W1, rfl⟩ : ∃ W1, W1 = w1' := ⟨_, rfl⟩
  have HBW := Lib.hid hB
  have hB2 : Below W1.heap.size W1 W1 := Below.refl _ _
  clear hB h1 h2 h3 h4
  go_loopw [2, 3, 11, 12, 13] (fun sd i v _ _ wr => ∃ j : Nat, j ≤ R ∧ i = .int .i64 j ∧ sd = .int .i64 (seedAt s (4 * (R - j))) ∧ wr.ownsRow W1.heap.size 26 1 v (R - j) (flts (itemsTo me wi s (R - j))) ∧ Below W1.heap.size W1 wr) (fun _ i _ _ _ _ => (intOf i).toNat)
  case atStart => exact ⟨R, Nat.le_refl _, rfl, by rw [Nat.sub_self]; rfl, by rw [Nat.sub_self]; exact own_base (own_empty _ _) hB2.size, hB2.alloc hB2.size _⟩
  case round =>
    clear hB2 hs
    obtain ⟨j, hj, rfl, rfl, hown, hbw⟩ := hrel
    obtain ⟨k, hk⟩ : ∃ k, k = R - j := ⟨_, rfl⟩
    rw [← hk] at hown ⊢
    have HK := Lib.hid hk
    clear hk
    by_cases hlt : 0 < j
    · have hk4 : k + 1 ≤ 4194304 := by first | omega | (have := HK.out; omega)
      have HOWN := Lib.hid hown
      have HBR := Lib.hid hbw
      have hsz := hbw.size
      obtain ⟨wo, rfl⟩ : ∃ wo : World, wo = wr := ⟨_, rfl⟩
      go_wp2_with fail
      go_loop [2, 12, 13] (fun sd x i => ∃ q : Nat, q ≤ 4 ∧ i = .int .i64 q ∧ sd = .int .i64 (seedAt s (4 * k + q)) ∧ x = .float .f32 (dsumAt s (4 * k) q)) (fun _ _ i => 4 - (intOf i).toNat)
      case atStart => exact ⟨0, Nat.zero_le _, rfl, rfl, rfl⟩
      case round =>
        obtain ⟨q, hq, rfl, rfl, rfl⟩ := hrel
        clear hown hbw
        by_cases hq4 : q < 4
        · have sb := seed_bd HS.out (4 * k + q)
          have sb2 := seed_bd HS.out (4 * k + q + 1)
          have hst := Lib.hid (show seedAt s (4 * k + q + 1) = (1664525 * seedAt s (4 * k + q) + 1013904223) % 4294967296 from rfl)
          obtain ⟨o1, o2, oe, o3, _⟩ := draw_ok sb2
          have o4 := dsum_ok HS.out (4 * k) q hq4
          unfold drawOf at o4
          have hv := Lib.hid (show dsumAt s (4 * k) (q + 1) = fadd (dsumAt s (4 * k) q) (fsub (fmul (ofI (seedAt s (4 * k + q + 1) / 256)) 864026624) 1056964608) from rfl)
          rw [hst.out] at o1 o2 oe o3 o4 hv
          obtain ⟨sd, hsd⟩ : ∃ sd, sd = seedAt s (4 * k + q) := ⟨_, rfl⟩
          obtain ⟨ds, hds⟩ : ∃ ds, ds = dsumAt s (4 * k) q := ⟨_, rfl⟩
          rw [← hsd] at sb o1 o2 oe o3 o4 hv hst ⊢
          rw [← hds] at o4 hv ⊢
          have q1 := fun (t : TypeId) (w : World) => run_fmul (P := Try.prog) t o1 w
          have q2 := fun (t : TypeId) (w : World) => run_fdiv (P := Try.prog) t o2 w
          have q3 := fun (t : TypeId) (w : World) => run_fsub (P := Try.prog) t o3 w
          have q4 := fun (t : TypeId) (w : World) => run_fadd (P := Try.prog) t o4 w
          rw [oe] at q2
          clear o1 o2 oe o3 o4 hsd hds sb2
          go_wp2_with fail
          go_round
          case rel => exact ⟨q + 1, by omega, by go_num, by rw [← Nat.add_assoc, hst.out], by rw [hv.out]⟩
          case measure => simp [intOf]; omega
        · obtain rfl : q = 4 := by omega
          obtain ⟨o1, n1⟩ := mul_num HW.out ((dsum_bd HS.out (4 * k) 4 (by decide)).fin (by decide))
          have o2 := okA_num HM.out n1
          have q1 := fun (t : TypeId) (w : World) => run_fmul (P := Try.prog) t o1 w
          have q2 := fun (t : TypeId) (w : World) => run_fadd (P := Try.prog) t o2 w
          have hst := Lib.hid (itemsTo_succ me wi s k)
          have hown := HOWN.out
          have hbw := HBR.out
          have e44 : 4 * k + 4 = 4 * (k + 1) := by omega
          rw [e44]
          clear o1 o2 n1 e44
          go_wp2_with (at_builtin; refine append_flt rfl (.tmp 52) (.tmp 58) rfl W1 _ k (itemsTo me wi s k) rfl (hown.alloc _) (hbw.alloc hbw.size _) _ _ (fadd me (fmul wi (dsumAt s (4 * k) 4))) rfl (cell_new _ _ _) hk4 ?_; intro v' w' ho2 hb2)
          go_roundw
          case rel =>
            have e : R - (j - 1) = k + 1 := by have := HK.out; omega
            exact ⟨j - 1, by omega, by go_num, by rw [e], by rw [e, hst.out]; exact ho2, hb2⟩
          case measure => simp [intOf]; omega
    · obtain rfl : j = 0 := by omega
      obtain rfl : R = k := by have := HK.out; omega
      obtain ⟨A3, c3, rfl, hr3⟩ := own_rd hown rfl
      have hR2 : R ≤ 1048576 := by omega
      have HB3 := Lib.hid (below_step HBW.out hbw)
      have HOWN := Lib.hid (own_base hown HBW.out.size)
      clear hown hbw
      cases hal : allFin (itemsTo me wi s R)
      · go_wp2_with (go_at_call 70; refine (l02Finite_any _ _ _ (itemsTo me wi s R) _ hr3 hR2).mono ?_; rintro e w4 ⟨rfl, hb4⟩)
        go_ret3
        exact hno.out _ hal (below_step HB3.out hb4)
      · go_wp2_with (go_at_call 70; refine (l02Finite_any _ _ _ (itemsTo me wi s R) _ hr3 hR2).mono ?_; rintro e w4 ⟨rfl, hb4⟩)
        go_ret3
        exact hyes.out _ _ hal (own_on HOWN.out hb4) (below_step HB3.out hb4)
set_option maxHeartbeats 1600000 in
theorem impl_DrawnReturns (me wi : Nat) (s c : Int) (w : World) (_ : me < 4294967296) (_ : wi < 4294967296) (bs : -9223372036854775808 ≤ s ∧ s ≤ 9223372036854775807) (bc : -9223372036854775808 ≤ c ∧ c ≤ 9223372036854775807) :
    Calls Try.prog 45 #[.float .f32 me, .float .f32 wi, .int .i64 s, .int .i64 c] w (DrIs w me wi s c) := by
  have hno := Lib.hid (fun w' (ha : drPre me wi s c = false) hb => dr_no (W := w) (w' := w') (me := me) (wi := wi) (s := s) (c := c) (by rw [drOk, ha]; rfl) hb)
  have hB : Below w.heap.size w w := Below.refl _ _
  cases h1 : finB me
  · have hp := Lib.hid (show drPre me wi s c = false by simp [drPre, h1])
    go_enter Try.func45, Try.ntmps45
    go_wp2_with (go_at_call_of 71 me; refine (isFinite_any me _).mono ?_; rintro e w1 ⟨rfl, hb1⟩; replace hB := below_step hB hb1; clear hb1)
    go_ret3
    exact hno.out _ hp.out hB
  cases h2 : finB wi
  · have hp := Lib.hid (show drPre me wi s c = false by simp [drPre, h2])
    go_enter Try.func45, Try.ntmps45
    go_wp2_with (first | (go_at_call_of 71 me; refine (isFinite_any me _).mono ?_; rintro e w1 ⟨rfl, hb1⟩; replace hB := below_step hB hb1; clear hb1) | (go_at_call_of 71 wi; refine (isFinite_any wi _).mono ?_; rintro e w1' ⟨rfl, hb1⟩; replace hB := below_step hB hb1; clear hb1))
    go_ret3
    exact hno.out _ hp.out hB
  cases h3 : inB s 0 4294967295
  · have hp := Lib.hid (show drPre me wi s c = false by simp [drPre, h3])
    go_enter Try.func45, Try.ntmps45
    go_wp2_with (first | (go_at_call_of 71 me; refine (isFinite_any me _).mono ?_; rintro e w1 ⟨rfl, hb1⟩; replace hB := below_step hB hb1; clear hb1) | (go_at_call_of 71 wi; refine (isFinite_any wi _).mono ?_; rintro e w1' ⟨rfl, hb1⟩; replace hB := below_step hB hb1; clear hb1) | (go_at_call 59; refine (within_any _ _ _ _).mono ?_; rintro e w' ⟨rfl, rfl⟩))
    go_ret3
    exact hno.out _ hp.out hB
  cases h4 : inB c 1 64
  · have hp := Lib.hid (show drPre me wi s c = false by simp [drPre, h4])
    go_enter Try.func45, Try.ntmps45
    go_wp2_with (first | (go_at_call_of 71 me; refine (isFinite_any me _).mono ?_; rintro e w1 ⟨rfl, hb1⟩; replace hB := below_step hB hb1; clear hb1) | (go_at_call_of 71 wi; refine (isFinite_any wi _).mono ?_; rintro e w1' ⟨rfl, hb1⟩; replace hB := below_step hB hb1; clear hb1) | (go_at_call 59; refine (within_any _ _ _ _).mono ?_; rintro e w' ⟨rfl, rfl⟩))
    go_ret3
    exact hno.out _ hp.out hB
  have b4 := inB_iff.1 h4
  obtain ⟨R, rfl⟩ := Int.eq_ofNat_of_zero_le (show 0 ≤ c by omega)
  exact impl_dr_yes me wi R s w h1 h2 h3 h4
set_option maxHeartbeats 1600000 in
theorem spec_DrawnReturns (me wi : Nat) (s c : Int) (w : World) (_ : me < 4294967296) (_ : wi < 4294967296) (bs : -9223372036854775808 ≤ s ∧ s ≤ 9223372036854775807) (bc : -9223372036854775808 ≤ c ∧ c ≤ 9223372036854775807) :
    Calls Try.prog 44 #[.float .f32 me, .float .f32 wi, .int .i64 s, .int .i64 c] w (DrIs w me wi s c) := by
  have hno := Lib.hid (fun w' (ha : drPre me wi s c = false) hb => dr_no (W := w) (w' := w') (me := me) (wi := wi) (s := s) (c := c) (by rw [drOk, ha]; rfl) hb)
  have hB : Below w.heap.size w w := Below.refl _ _
  cases h1 : finB me
  · have hp := Lib.hid (show drPre me wi s c = false by simp [drPre, h1])
    go_enter Try.func44, Try.ntmps44
    go_wp2_with (go_at_call_of 61 me; refine (l01Finite_any me _).mono ?_; rintro e w1 ⟨rfl, hb1⟩; replace hB := below_step hB hb1; clear hb1)
    go_ret3
    exact hno.out _ hp.out hB
  cases h2 : finB wi
  · have hp := Lib.hid (show drPre me wi s c = false by simp [drPre, h2])
    go_enter Try.func44, Try.ntmps44
    go_wp2_with (first | (go_at_call_of 61 me; refine (l01Finite_any me _).mono ?_; rintro e w1 ⟨rfl, hb1⟩; replace hB := below_step hB hb1; clear hb1) | (go_at_call_of 61 wi; refine (l01Finite_any wi _).mono ?_; rintro e w1' ⟨rfl, hb1⟩; replace hB := below_step hB hb1; clear hb1))
    go_ret3
    exact hno.out _ hp.out hB
  cases h3 : inB s 0 4294967295
  · have hp := Lib.hid (show drPre me wi s c = false by simp [drPre, h3])
    go_enter Try.func44, Try.ntmps44
    go_wp2_with (first | (go_at_call_of 61 me; refine (l01Finite_any me _).mono ?_; rintro e w1 ⟨rfl, hb1⟩; replace hB := below_step hB hb1; clear hb1) | (go_at_call_of 61 wi; refine (l01Finite_any wi _).mono ?_; rintro e w1' ⟨rfl, hb1⟩; replace hB := below_step hB hb1; clear hb1) | (go_at_call 58; refine (l00In_any _ _ _ _).mono ?_; rintro e w' ⟨rfl, rfl⟩))
    go_ret3
    exact hno.out _ hp.out hB
  cases h4 : inB c 1 64
  · have hp := Lib.hid (show drPre me wi s c = false by simp [drPre, h4])
    go_enter Try.func44, Try.ntmps44
    go_wp2_with (first | (go_at_call_of 61 me; refine (l01Finite_any me _).mono ?_; rintro e w1 ⟨rfl, hb1⟩; replace hB := below_step hB hb1; clear hb1) | (go_at_call_of 61 wi; refine (l01Finite_any wi _).mono ?_; rintro e w1' ⟨rfl, hb1⟩; replace hB := below_step hB hb1; clear hb1) | (go_at_call 58; refine (l00In_any _ _ _ _).mono ?_; rintro e w' ⟨rfl, rfl⟩))
    go_ret3
    exact hno.out _ hp.out hB
  have b4 := inB_iff.1 h4
  obtain ⟨R, rfl⟩ := Int.eq_ofNat_of_zero_le (show 0 ≤ c by omega)
  exact spec_dr_yes me wi R s w h1 h2 h3 h4
end Go.Proofs.Ytefoebaoejoamaa
