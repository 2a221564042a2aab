/-
  CONTRACTS OF THE LAWS' OWN HELPERS ON SLICES OF FLOATS OF 32 BITS: the copy, the comparison of equal lists, the marks and the look at the marks; sameFloat; the arguments, opened.
-/
import Derived.Test.YtkdiegplbloccaaLawI
import Derived.Test.YtkdiegplbloccaaFrame
import Derived.Test.YtkdiegplbloccaaFd
import Derived.Deep.RegionWith
namespace Go.Proofs.Ytkdiegplbloccaa
open Go.ChangeShapes Go.WideShapes Go.ChangeAt Go.RowKit
set_option linter.unusedVariables false

theorem run_store_float (P : Program) (w : World) (a : Addr) (m : Mode) (k : FloatKind) (b : Nat) : (store a (.float k b) m).run P w = stored P w a (.float k b) m := run_store P w a _ m rfl
attribute [local go_sem] run_store_float
theorem info_f32 : (Try.prog.info? 32).map (fun i => (i.zero, i.size, i.bytes)) = some (some (.float .f32 0), 1, 4) := by kernel_rfl
theorem cells_f32 : Try.prog.cellsOf 32 = 1 := by kernel_rfl
theorem u_f32 : (Try.prog.underlying 32).isSome = true := by rw [Try.underlying32]; rfl

/-! ### sameFloat -/
theorem sameFloat_eq (r : Nat) (w : World) (h : nan64 r = false) : Calls Try.prog 30 #[.float .f64 r, .float .f64 r] w fun e w' => e = .returned (.bool true) ∧ w = w' := by
  have hs : (FloatKind.f64.format.order r r != some .eq) = false := by
    have := d_self h
    show (Ieee.double.order r r != some .eq) = false
    rw [this]; rfl
  have he : (FloatKind.f64.format.order r r == some .eq) = true := by
    have := d_self h
    show (Ieee.double.order r r == some .eq) = true
    rw [this]; rfl
  cases hz : (FloatKind.f64.format.order r 0 == some .eq)
  · go_enter Try.func30, Try.ntmps30
    go_wp2
    go_ret
    exact ⟨rfl, rfl⟩
  · have hd : ∀ (t : TypeId) (w : World), (binOp .quo t (.float .f64 4607182418800017408) (.float .f64 r)).run Try.prog w = .ok (.float .f64 (invZ r)) w := fun t w => run_float_arith w .quo t .f64 _ _ _ (inv_zero hz)
    go_enter Try.func30, Try.ntmps30
    go_wp2
    go_ret
    exact ⟨rfl, rfl⟩
theorem sameFloat_nan (r s : Nat) (w : World) (h : nan64 r = true) (h2 : nan64 s = true) : Calls Try.prog 30 #[.float .f64 r, .float .f64 s] w fun e w' => e = .returned (.bool true) ∧ w = w' := by
  have hs : (FloatKind.f64.format.order r r != some .eq) = true := by
    have := d_nan_l (b := r) h
    show (Ieee.double.order r r != some .eq) = true
    rw [this]; rfl
  have hs2 : (FloatKind.f64.format.order s s != some .eq) = true := by
    have := d_nan_l (b := s) h2
    show (Ieee.double.order s s != some .eq) = true
    rw [this]; rfl
  go_enter Try.func30, Try.ntmps30
  go_wp2
  go_ret
  exact ⟨rfl, rfl⟩

set_option maxHeartbeats 400000 in
theorem toFloat32S_any (A : Option Addr) (n c : Nat) (bs : List Nat) (w : World) (hr : Rd w w.heap.size 1 A n (flts bs)) (hn : n ≤ 1048576) :
    Calls Try.prog 23 #[.slice A n c] w fun e w' => ∃ g, e = .returned (.slice (some ⟨g, 0, none⟩) n n) ∧ w'.ownsRow w.heap.size 32 1 (.slice (some ⟨g, 0, none⟩) n n) n (flts bs) ∧ Below w.heap.size w w' := by
  obtain ⟨i0, hi, hz0, hz1, hz2⟩ := info_parts info_f32
  go_enter Try.func23, Try.ntmps23
  go_wp2_with (at_make; refine wpList_make_full _ rfl (.tmp 6) (.tmp 6) 22 rfl w.heap.size 32 i0 (.float .f32 0) 1 Try.underlying22 hi hz0 hz1 .i64 .i64 _ _ n rfl rfl rfl rfl (by rw [hz2]; omega) (by unfold maxLen; omega) (Nat.le_refl _) ?_; intro w1 hown hg)
  have hb := Below.grown (Below.refl w.heap.size w) hg (Nat.le_refl _) (by simp)
  clear hg
  obtain ⟨g, hg⟩ : ∃ g, g = w.heap.size := ⟨_, rfl⟩
  rw [← hg] at hown ⊢
  have HG := Lib.hid hg
  clear hg
  go_loopw [4] (fun i wr => ∃ (k : Nat) (cs : List Value), k ≤ n ∧ i = .int .i64 k ∧ wr.ownsRow w.heap.size 32 1 (.slice (some ⟨g, 0, none⟩) n n) n cs ∧ (∀ j, j < k → cs[j]? = (flts bs)[j]?) ∧ Below w.heap.size w wr) (fun i _ => n - (intOf i).toNat)
  case atStart => exact ⟨0, _, Nat.zero_le _, rfl, by rw [HG.out]; rw [HG.out] at hown; exact hown, by omega, hb⟩
  case round =>
    obtain ⟨k, cs, hk, rfl, hown', hf, hb'⟩ := hrel
    clear hown hb
    by_cases hlt : k < n
    · obtain ⟨ad, rfl, hc⟩ := (hr.below hb').flt hlt
      obtain ⟨u, hu⟩ := own_cell hown' hlt
      have hfz := hown'.frozenAt k
      have hst := fill_round (Nat.le_refl _) hown' hb' hf hlt (flts_getD (by have := hr.flen; omega))
      have HS := Lib.hid hst
      clear hst hf hr
      go_wp2
      go_roundw
      case rel => obtain ⟨cs', h1, h2, h3⟩ := HS.out; exact ⟨k + 1, cs', by omega, by go_num, h1, h2, h3⟩
      case measure => simp [intOf]; omega
    · obtain rfl : n = k := by omega
      have hcs := fill_done hf (own_len hown') hr.len
      subst hcs
      clear hf hr
      go_wp2
      go_ret
      exact ⟨g, rfl, hown', hb'⟩

theorem quiet_left {P : Program} {f : FuncId} {args : Array Value} {w : World} {n : Nat} {v : Value}
    (h : Calls P f args (w.drewN n) fun e w' => e = .returned v ∧ w.drewN n = w') : Calls P f args (w.drewN n) fun e w'' => e = .returned v ∧ ∃ m, w'' = w.drewN m :=
  h.mono fun _ _ ⟨he, hm⟩ => ⟨he, n, hm.symm⟩
/-- a NaN that the tape gives -/
def nanOf (b : Nat) (w : World) : Nat := Question.cut (.nanConv .f64 b) (w.tape w.drawn (.nanConv .f64 b))
theorem nanOf_nan (b : Nat) (w : World) : nan64 (nanOf b w) = true := cut_nan .f64 b _ rfl
theorem conv_ok {b : Nat} (h : nan32 b = false) (w : World) : (convert 32 42 (.float .f32 b)).run Try.prog w = .ok (.float .f64 (wide b)) w :=
  run_convert_float_float w _ _ .f32 .f64 b _ u_f32 Try.underlying42 (wide_not_nan h).1
theorem conv_nan {b : Nat} (h : nan32 b = true) (w : World) : (convert 32 42 (.float .f32 b)).run Try.prog w = .ok (.float .f64 (nanOf b w)) w.drew := by
  obtain ⟨s, t, hr⟩ := read_nan (nan_iff.1 h)
  have hd : FloatKind.f32.decode b = .nan s t := hr
  have hs : Try.prog.underlying 32 = some (.float .f32) := Try.underlying32
  have ht : Try.prog.underlying 42 = some (.float .f64) := Try.underlying42
  simp [convert, run_underlying hs, run_underlying ht, Conv.floatToFloat, hd, nanOf, Question.forced]
set_option maxHeartbeats 800000 in
theorem eqFloat32S_yes (A B : Option Addr) (n c d : Nat) (bs : List Nat) (w : World) (hr : Rd w w.heap.size 1 A n (flts bs)) (hs : Rd w w.heap.size 1 B n (flts bs)) (hn : n ≤ 2097152) :
    Calls Try.prog 25 #[.slice A n c, .slice B n d] w fun e w' => e = .returned (.bool true) ∧ Below w.heap.size w w' := by
  go_enter Try.func25, Try.ntmps25
  go_wp2
  go_loopw [5] (fun i wr => ∃ k : Nat, k ≤ n ∧ i = .int .i64 k ∧ Below w.heap.size w wr) (fun i _ => n - (intOf i).toNat)
  case atStart => exact ⟨0, Nat.zero_le _, rfl, Below.refl _ _⟩
  case round =>
    obtain ⟨k, hk, rfl, hb⟩ := hrel
    by_cases hlt : k < n
    · obtain ⟨ad, rfl, hc⟩ := (hr.below hb).flt hlt
      obtain ⟨ae, rfl, hd⟩ := (hs.below hb).flt hlt
      have hz : (0 : Int) ≤ k := by omega
      have hlt' : (k : Int) < n := by omega
      clear hr hs
      obtain ⟨b, hbv⟩ : ∃ b, b = bs[k]?.getD 0 := ⟨_, rfl⟩
      rw [← hbv] at hc hd
      clear hbv
      cases hnn : nan32 b
      · have hcv := conv_ok hnn
        have hw := (wide_not_nan hnn).2
        have HW := Lib.hid hw
        clear hw hnn
        go_wp2
        go_quiet ((go_at_call 30; exact quiet_left (sameFloat_eq _ _ HW.out)))
        go_wp2
        go_roundw
        case rel => exact ⟨k + 1, by omega, by go_num, below_drewN hb _⟩
        case measure => simp [intOf]; omega
      · have hcv := conv_nan hnn
        have HN := Lib.hid hnn
        clear hnn
        go_wp2
        go_region_with ((go_at_call 30; refine (sameFloat_nan _ _ _ (nanOf_nan _ _) (nanOf_nan _ _)).mono ?_; rintro e w' ⟨rfl, rfl⟩))
        all_goals go_wp2
        all_goals exact ⟨⟨k + 1, by omega, by go_num, hb.drew.drew.drew⟩, by simp [intOf]; omega⟩
    · go_wp2
      go_ret
      exact ⟨rfl, hb⟩

/-! ### marks -/
def upF (k : Int) (n : Nat) : List Nat := (up k n).map ofI
theorem upF_length (k : Int) (n : Nat) : (upF k n).length = n := by simp [upF, up_length]
theorem upF_at (k : Int) (n j : Nat) (h : j < n) : (upF k n)[j]?.getD 0 = ofI (k + j) := by simp [upF, up, h]
theorem upF_cell (k : Int) (n j : Nat) (h : j < n) : (flts (upF k n))[j]? = some (.float .f32 (ofI (k + j))) := by
  rw [flts_getD (by rw [upF_length]; exact h), upF_at k n j h]
set_option maxHeartbeats 400000 in
theorem markFloat32S_any (v : Value) (base n : Nat) (k : Int) (cs : List Value) (w : World) (ho : w.ownsRow base 32 1 v n cs) (hn : n ≤ 2097152) (hk0 : 0 ≤ k) (hk1 : k ≤ 1099511627776) :
    Calls Try.prog 26 #[v, .int .i64 k] w fun e w' => e = .returned (.int .i64 (k + n)) ∧ w'.ownsRow base 32 1 v n (flts (upF k n)) ∧ w.grownBy w' v.ownBlock := by
  obtain ⟨A, c, rfl, _⟩ := own_form ho
  go_enter Try.func26, Try.ntmps26
  go_wp2
  go_loopw [1, 5] (fun q i wr => ∃ (j : Nat) (cs : List Value), j ≤ n ∧ i = .int .i64 j ∧ q = .int .i64 (k + j) ∧ wr.ownsRow base 32 1 (.slice A n c) n cs ∧ (∀ i, i < j → cs[i]? = (flts (upF k n))[i]?) ∧ w.grownBy wr (Value.slice A n c).ownBlock) (fun _ i _ => n - (intOf i).toNat)
  case atStart => exact ⟨0, cs, Nat.zero_le _, rfl, by go_num, ho, by omega, World.grownBy.refl _ _⟩
  case round =>
    obtain ⟨j, cs, hj, rfl, rfl, hown, hf, hg⟩ := hrel
    clear ho
    by_cases hlt : j < n
    · obtain ⟨g, rfl⟩ := own_head hown (by omega)
      obtain ⟨u, hu⟩ := own_cell hown hlt
      have hfz := hown.frozenAt j
      have hst := mark_round hown hg hf hlt (upF_cell k n j hlt)
      have HS := Lib.hid hst
      clear hst hf hg
      go_wp2
      go_roundw
      case rel => obtain ⟨cs', h1, h2, h3⟩ := HS.out; exact ⟨j + 1, cs', by omega, by go_num, by go_num, h1, h2, h3⟩
      case measure => simp [intOf]; omega
    · obtain rfl : n = j := by omega
      have hcs := fill_done hf (own_len hown) (by rw [flts_length, upF_length])
      subst hcs
      clear hf
      go_wp2
      go_ret
      exact ⟨rfl, hown, hg⟩
theorem ofI_self (n : Int) (h : n.natAbs ≤ 2 ^ 50) : (FloatKind.f32.format.order (ofI n) (ofI n) != some .eq) = false := by
  have h1 := order_self (F_nan ((fint_bd (K := 50) (by decide) h).fin (by decide)))
  show (Ieee.single.order (ofI n) (ofI n) != some .eq) = false
  rw [h1]; rfl
set_option maxHeartbeats 400000 in
theorem heldFloat32S_any (A : Option Addr) (n c : Nat) (k : Int) (w : World) (hr : Rd w w.heap.size 1 A n (flts (upF k n))) (hn : n ≤ 2097152) (hk0 : 0 ≤ k) (hk1 : k ≤ 1099511627776) :
    Calls Try.prog 27 #[.slice A n c, .int .i64 k] w fun e w' => e = .returned (.int .i64 (k + n)) ∧ w = w' := by
  go_enter Try.func27, Try.ntmps27
  go_wp2
  go_loop [1, 5] (fun q i => ∃ j : Nat, j ≤ n ∧ i = .int .i64 j ∧ q = .int .i64 (k + j)) (fun _ i => n - (intOf i).toNat)
  case atStart => exact ⟨0, Nat.zero_le _, rfl, by go_num⟩
  case round =>
    obtain ⟨j, hj, rfl, rfl⟩ := hrel
    by_cases hlt : j < n
    · obtain ⟨ad, rfl, hc⟩ := hr.flt hlt
      rw [upF_at k n j hlt] at hc
      clear hr
      have hne := ofI_self (k + j) (by omega)
      go_wp2
      go_round
      case rel => exact ⟨j + 1, by omega, by go_num, by go_num⟩
      case measure => simp [intOf]; omega
    · obtain rfl : n = j := by omega
      go_wp2
      go_ret
      exact ⟨rfl, rfl⟩

/-! ### the arguments, opened -/
section
variable {H : Type} {enc : TypeId × Value → H} {P : Program} {W : World}
theorem wf_f32 {b : Nat} (h : (Lit.float .f32 b).wf = true) : b < 4294967296 := by simpa [Lit.wf] using h
/-- an argument that is a float of 32 bits -/
theorem open_flt {t : TypeId} {v : Value} {d : DataW H} {p : List MemPlace} {base : Nat} (ht : P.underlying t = some (.float .f32)) (hv : Value.okWide P W .any base t v) (h : DataW.Trod enc P W 0 (fun _ => true) true t v d p) :
    ∃ b, v = .float .f32 b ∧ b < 4294967296 := by
  obtain ⟨b, h1, _, _, h2⟩ := open_float ht hv h
  exact ⟨b, h1, wf_f32 h2⟩
theorem trod_flt {t : TypeId} {base : Nat} {spare : Nat → Bool} {held : Bool} {fuel : Nat} {cs : List Value} {x : DataW H × List MemPlace} (ht : P.underlying t = some (.float .f32)) (h : DataW.trod enc P W base spare held fuel t cs = some x) :
    ∃ b, cs = [.float .f32 b] ∧ b < 4294967296 := by
  cases fuel with
  | zero => simp [DataW.trod] at h
  | succ n =>
    unfold DataW.trod at h
    rw [ht] at h
    split at h
    all_goals try (simp_all; done)
    rename_i k k' b he
    injection he with he
    injection he with he
    subst he
    by_cases hw : k' = .f32 ∧ (Lit.float .f32 b).wf = true
    · obtain ⟨rfl, hw⟩ := hw
      exact ⟨b, rfl, wf_f32 hw⟩
    · rw [if_neg hw] at h
      cases h
/-- an argument that is a slice of floats of 32 bits -/
theorem open_rd_flts {t e : TypeId} {v : Value} {d : DataW H} {p : List MemPlace} {base : Nat} (ht : P.underlying t = some (.slice e)) (he : P.underlying e = some (.float .f32)) (hc : P.cellsOf e = 1)
    (hv : Value.okWide P W .any base t v) (h : DataW.Trod enc P W 0 (fun _ => true) true t v d p) :
    ∃ A n c bs, v = .slice A n c ∧ Rd W W.heap.size 1 A n (flts bs) ∧ F32s bs := by
  obtain ⟨A, n, c, rfl⟩ := okWide_slice ht hv
  obtain ⟨fuel, hf⟩ := h
  refine ⟨A, n, c, ?_⟩
  rcases Deep.open_slice1 ht hc hf with ⟨hcs, _⟩ | ⟨a, len, cap, m, n', V, D, Pl, hcs, _, hl, _, hm, _, hx⟩
  · simp [Value.cells] at hcs
    obtain ⟨rfl, rfl, rfl⟩ := hcs
    exact ⟨[], rfl, Rd.nil_, fun z hz => by cases hz⟩
  · simp [Value.cells] at hcs
    obtain ⟨rfl, rfl, rfl⟩ := hcs
    simp only [if_true] at hm
    have hb : ∀ i, i < n → ∃ b, V i = .float .f32 b ∧ b < 4294967296 := fun i hi => by
      obtain ⟨b, h1, h2⟩ := trod_flt he (hx i (by omega)).2
      exact ⟨b, by simpa using h1, h2⟩
    obtain ⟨g, hg⟩ := Deep.choose_lt (α := Nat) (p := fun i b => V i = .float .f32 b ∧ b < 4294967296) hb
    refine ⟨(List.range n).map g, rfl, ⟨by simp [flts], fun hn => ⟨a, rfl, ?_, fun j u hu => ?_⟩⟩, fun z hz => ?_⟩
    · have h0 := block_lt_of_cell (hx 0 (by omega)).1
      rwa [add_block] at h0
    · rw [flts_at] at hu
      by_cases hj : j < n
      · rw [(hx j (by omega)).1, (hg j hj).1]
        simpa [hj] using hu
      · rw [List.getElem?_eq_none (by simp; omega)] at hu
        cases hu
    · simp only [List.mem_map, List.mem_range] at hz
      obtain ⟨i, hi, rfl⟩ := hz
      exact (hg i hi).2
end
end Go.Proofs.Ytkdiegplbloccaa
