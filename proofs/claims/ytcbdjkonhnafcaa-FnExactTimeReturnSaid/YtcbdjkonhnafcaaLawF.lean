/-
  CONTRACTS OF THE LAWS' OWN HELPERS ON SLICES OF FLOATS OF 32 BITS: the copy, the comparison of equal lists, the marks and the look at the marks; sameFloat; the arguments, opened.
-/
import Derived.Test.YtcbdjkonhnafcaaLawI
import Derived.Test.YtcbdjkonhnafcaaFrame
import Derived.Test.YtcbdjkonhnafcaaFd
import Derived.Deep.RegionWith
namespace Go.Proofs.Ytcbdjkonhnafcaa
open Go.ChangeShapes Go.WideShapes Go.ChangeAt Go.RowKit
set_option linter.unusedVariables false

theorem run_store_float (P : Program) (w : World) (a : Addr) (m : Mode) (k : FloatKind) (b : Nat) : (store a (.float k b) m).run P w = stored P w a (.float k b) m := run_store P w a _ m rfl
attribute [local go_sem] run_store_float
theorem info_f32 : (Try.prog.info? 23).map (fun i => (i.zero, i.size, i.bytes)) = some (some (.float .f32 0), 1, 4) := by kernel_rfl
theorem cells_f32 : Try.prog.cellsOf 23 = 1 := by kernel_rfl
theorem u_f32 : (Try.prog.underlying 23).isSome = true := by rw [Try.underlying23]; rfl

/-! ### sameFloat -/
theorem sameFloat_eq (r : Nat) (w : World) (h : nan64 r = false) : Calls Try.prog 7 #[.float .f64 r, .float .f64 r] w fun e w' => e = .returned (.bool true) ∧ w = w' := by
  have hs : (FloatKind.f64.format.order r r != some .eq) = false := by
    have := d_self h
    show (Ieee.double.order r r != some .eq) = false
    rw [this]; rfl
  have he : (FloatKind.f64.format.order r r == some .eq) = true := by
    have := d_self h
    show (Ieee.double.order r r == some .eq) = true
    rw [this]; rfl
  cases hz : (FloatKind.f64.format.order r 0 == some .eq)
  · go_enter Try.func7, Try.ntmps7
    go_wp2
    go_ret
    exact ⟨rfl, rfl⟩
  · have hd : ∀ (t : TypeId) (w : World), (binOp .quo t (.float .f64 4607182418800017408) (.float .f64 r)).run Try.prog w = .ok (.float .f64 (invZ r)) w := fun t w => run_float_arith w .quo t .f64 _ _ _ (inv_zero hz)
    go_enter Try.func7, Try.ntmps7
    go_wp2
    go_ret
    exact ⟨rfl, rfl⟩
theorem sameFloat_nan (r s : Nat) (w : World) (h : nan64 r = true) (h2 : nan64 s = true) : Calls Try.prog 7 #[.float .f64 r, .float .f64 s] w fun e w' => e = .returned (.bool true) ∧ w = w' := by
  have hs : (FloatKind.f64.format.order r r != some .eq) = true := by
    have := d_nan_l (b := r) h
    show (Ieee.double.order r r != some .eq) = true
    rw [this]; rfl
  have hs2 : (FloatKind.f64.format.order s s != some .eq) = true := by
    have := d_nan_l (b := s) h2
    show (Ieee.double.order s s != some .eq) = true
    rw [this]; rfl
  go_enter Try.func7, Try.ntmps7
  go_wp2
  go_ret
  exact ⟨rfl, rfl⟩

theorem quiet_left {P : Program} {f : FuncId} {args : Array Value} {w : World} {n : Nat} {v : Value}
    (h : Calls P f args (w.drewN n) fun e w' => e = .returned v ∧ w.drewN n = w') : Calls P f args (w.drewN n) fun e w'' => e = .returned v ∧ ∃ m, w'' = w.drewN m :=
  h.mono fun _ _ ⟨he, hm⟩ => ⟨he, n, hm.symm⟩
/-- a NaN that the tape gives -/
def nanOf (b : Nat) (w : World) : Nat := Question.cut (.nanConv .f64 b) (w.tape w.drawn (.nanConv .f64 b))
theorem nanOf_nan (b : Nat) (w : World) : nan64 (nanOf b w) = true := cut_nan .f64 b _ rfl
theorem conv_ok {b : Nat} (h : nan32 b = false) (w : World) : (convert 23 28 (.float .f32 b)).run Try.prog w = .ok (.float .f64 (wide b)) w :=
  run_convert_float_float w _ _ .f32 .f64 b _ u_f32 Try.underlying28 (wide_not_nan h).1
theorem conv_nan {b : Nat} (h : nan32 b = true) (w : World) : (convert 23 28 (.float .f32 b)).run Try.prog w = .ok (.float .f64 (nanOf b w)) w.drew := by
  obtain ⟨s, t, hr⟩ := read_nan (nan_iff.1 h)
  have hd : FloatKind.f32.decode b = .nan s t := hr
  have hs : Try.prog.underlying 23 = some (.float .f32) := Try.underlying23
  have ht : Try.prog.underlying 28 = some (.float .f64) := Try.underlying28
  simp [convert, run_underlying hs, run_underlying ht, Conv.floatToFloat, hd, nanOf, Question.forced]
/-! ### marks -/
def upF (k : Int) (n : Nat) : List Nat := (up k n).map ofI
theorem upF_length (k : Int) (n : Nat) : (upF k n).length = n := by simp [upF, up_length]
theorem upF_at (k : Int) (n j : Nat) (h : j < n) : (upF k n)[j]?.getD 0 = ofI (k + j) := by simp [upF, up, h]
theorem upF_cell (k : Int) (n j : Nat) (h : j < n) : (flts (upF k n))[j]? = some (.float .f32 (ofI (k + j))) := by
  rw [flts_getD (by rw [upF_length]; exact h), upF_at k n j h]

/-! ### the arguments, opened -/
section
variable {H : Type} {enc : TypeId × Value → H} {P : Program} {W : World}
theorem wf_f32 {b : Nat} (h : (Lit.float .f32 b).wf = true) : b < 4294967296 := by simpa [Lit.wf] using h
/-- an argument that is a float of 32 bits -/
theorem open_flt {t : TypeId} {v : Value} {d : DataW H} {p : List MemPlace} {base : Nat} (ht : P.underlying t = some (.float .f32)) (hv : Value.okWide P W .any base t v) (h : DataW.Trod enc P W 0 (fun _ => true) true t v d p) :
    ∃ b, v = .float .f32 b ∧ b < 4294967296 := by
  obtain ⟨b, h1, _, _, h2⟩ := open_float ht hv h
  exact ⟨b, h1, wf_f32 h2⟩
theorem trod_flt {t : TypeId} {base : Nat} {spare : Nat → Bool} {held : Bool} {fuel : Nat} {cs : List Value} {x : DataW H × List MemPlace} (ht : P.underlying t = some (.float .f32)) (h : DataW.trod enc P W base spare held fuel t cs = some x) :
    ∃ b, cs = [.float .f32 b] ∧ b < 4294967296 := by
  cases fuel with
  | zero => simp [DataW.trod] at h
  | succ n =>
    unfold DataW.trod at h
    rw [ht] at h
    split at h
    all_goals try (simp_all; done)
    rename_i k k' b he
    injection he with he
    injection he with he
    subst he
    by_cases hw : k' = .f32 ∧ (Lit.float .f32 b).wf = true
    · obtain ⟨rfl, hw⟩ := hw
      exact ⟨b, rfl, wf_f32 hw⟩
    · rw [if_neg hw] at h
      cases h
/-- an argument that is a slice of floats of 32 bits -/
theorem open_rd_flts {t e : TypeId} {v : Value} {d : DataW H} {p : List MemPlace} {base : Nat} (ht : P.underlying t = some (.slice e)) (he : P.underlying e = some (.float .f32)) (hc : P.cellsOf e = 1)
    (hv : Value.okWide P W .any base t v) (h : DataW.Trod enc P W 0 (fun _ => true) true t v d p) :
    ∃ A n c bs, v = .slice A n c ∧ Rd W W.heap.size 1 A n (flts bs) ∧ F32s bs := by
  obtain ⟨A, n, c, rfl⟩ := okWide_slice ht hv
  obtain ⟨fuel, hf⟩ := h
  refine ⟨A, n, c, ?_⟩
  rcases Deep.open_slice1 ht hc hf with ⟨hcs, _⟩ | ⟨a, len, cap, m, n', V, D, Pl, hcs, _, hl, _, hm, _, hx⟩
  · simp [Value.cells] at hcs
    obtain ⟨rfl, rfl, rfl⟩ := hcs
    exact ⟨[], rfl, Rd.nil_, fun z hz => by cases hz⟩
  · simp [Value.cells] at hcs
    obtain ⟨rfl, rfl, rfl⟩ := hcs
    simp only [if_true] at hm
    have hb : ∀ i, i < n → ∃ b, V i = .float .f32 b ∧ b < 4294967296 := fun i hi => by
      obtain ⟨b, h1, h2⟩ := trod_flt he (hx i (by omega)).2
      exact ⟨b, by simpa using h1, h2⟩
    obtain ⟨g, hg⟩ := Deep.choose_lt (α := Nat) (p := fun i b => V i = .float .f32 b ∧ b < 4294967296) hb
    refine ⟨(List.range n).map g, rfl, ⟨by simp [flts], fun hn => ⟨a, rfl, ?_, fun j u hu => ?_⟩⟩, fun z hz => ?_⟩
    · have h0 := block_lt_of_cell (hx 0 (by omega)).1
      rwa [add_block] at h0
    · rw [flts_at] at hu
      by_cases hj : j < n
      · rw [(hx j (by omega)).1, (hg j hj).1]
        simpa [hj] using hu
      · rw [List.getElem?_eq_none (by simp; omega)] at hu
        cases hu
    · simp only [List.mem_map, List.mem_range] at hz
      obtain ⟨i, hi, rfl⟩ := hz
      exact (hg i hi).2
end
end Go.Proofs.Ytcbdjkonhnafcaa
