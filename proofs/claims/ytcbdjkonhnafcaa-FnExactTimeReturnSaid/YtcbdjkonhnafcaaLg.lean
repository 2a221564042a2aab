/-
  THE LOGARITHM AND THE EXPONENTIAL FUNCTION as plain functions: every step is valid; how great they are. Plain Lean.
-/
import Derived.Test.YtcbdjkonhnafcaaDf
namespace Go.Proofs.Ytcbdjkonhnafcaa
open Fl
set_option linter.unusedSimpArgs false
set_option linter.unusedVariables false

theorem b_one : BD 1 0 4607182418800017408 := lit_b' (by kernel_rfl)
theorem l_one : LD 1 0 4607182418800017408 := lit_lw' (by kernel_rfl)
theorem b_two : BD 2 0 4611686018427387904 := lit_b' (by kernel_rfl)
theorem l_two : LD 2 0 4611686018427387904 := lit_lw' (by kernel_rfl)
theorem b_15 : BD 3 1 4609434218613702656 := lit_b' (by kernel_rfl)
theorem l_15 : LD 3 1 4609434218613702656 := lit_lw' (by kernel_rfl)
theorem b_75 : BD 3 2 4604930618986332160 := lit_b' (by kernel_rfl)
theorem l_75 : LD 3 2 4604930618986332160 := lit_lw' (by kernel_rfl)
theorem b_256 : BD 256 0 4643211215818981376 := lit_b' (by kernel_rfl)
theorem l_256 : LD 256 0 4643211215818981376 := lit_lw' (by kernel_rfl)
theorem b_log : BD 3 2 4604418534313441775 := lit_b' (by kernel_rfl)
theorem b_zero : BD 2 0 0 := lit_b' (by kernel_rfl)
theorem b_200 : BD 200 0 4641240890982006784 := lit_b' (by kernel_rfl)
theorem l_200 : LD 200 0 4641240890982006784 := lit_lw' (by kernel_rfl)
theorem b_m200 : BD 200 0 13864612927836782592 := lit_b' (by kernel_rfl)
theorem v_m200 : vl Ieee.double 13864612927836782592 = -(vm Ieee.double 13864612927836782592 : Int) := by
  unfold vl
  rw [if_pos (by decide)]
theorem l_m200 : 200 * 2 ^ UD ≤ vm Ieee.double 13864612927836782592 * 2 ^ 0 := of_decide_eq_true (by kernel_rfl)
theorem ord_ge {f : Ieee.Format} {x y : Nat} (hx : Fi f x) (hy : Fi f y) : (f.order x y == some .gt || f.order x y == some .eq) = decide (vl f y ≤ vl f x) := by
  rw [order_fi hx hy]
  rcases Int.lt_trichotomy (vl f x) (vl f y) with h | h | h
  · rw [Int.compare_eq_lt.2 h, decide_eq_false (by omega)]; rfl
  · rw [h, decide_eq_true (by omega)]; simp
  · rw [Int.compare_eq_gt.2 h, decide_eq_true (by omega)]; rfl
theorem ord_lt {f : Ieee.Format} {x y : Nat} (hx : Fi f x) (hy : Fi f y) : (f.order x y == some .lt) = decide (vl f x < vl f y) := by
  rw [order_fi hx hy]
  rcases Int.lt_trichotomy (vl f x) (vl f y) with h | h | h
  · rw [Int.compare_eq_lt.2 h, decide_eq_true (by omega)]; rfl
  · rw [h, decide_eq_false (by omega)]; simp
  · rw [Int.compare_eq_gt.2 h, decide_eq_false (by omega)]; rfl
theorem ord_gt {f : Ieee.Format} {x y : Nat} (hx : Fi f x) (hy : Fi f y) : (f.order x y == some .gt) = decide (vl f y < vl f x) := by
  rw [order_fi hx hy]
  rcases Int.lt_trichotomy (vl f x) (vl f y) with h | h | h
  · rw [Int.compare_eq_lt.2 h, decide_eq_false (by omega)]; rfl
  · rw [h, decide_eq_false (by omega)]; simp
  · rw [Int.compare_eq_gt.2 h, decide_eq_true (by omega)]; rfl
/-! ### the logarithm: to a number near 1 -/
def ge15 (x : Nat) : Bool := Ieee.double.order x 4609434218613702656 == some .gt || Ieee.double.order x 4609434218613702656 == some .eq
def lt75 (x : Nat) : Bool := Ieee.double.order x 4604930618986332160 == some .lt
theorem ge15_is {x : Nat} (h : Fi Ieee.double x) : ge15 x = decide (vl Ieee.double 4609434218613702656 ≤ vl Ieee.double x) := ord_ge h b_15.fi
theorem lt75_is {x : Nat} (h : Fi Ieee.double x) : lt75 x = decide (vl Ieee.double x < vl Ieee.double 4604930618986332160) := ord_lt h b_75.fi
def redU : Nat → Nat → Int → Nat × Int
  | 0, x, e => (x, e)
  | f + 1, x, e => if ge15 x then redU f (ddiv x 4611686018427387904) (e + 1) else (x, e)
def redD : Nat → Nat → Int → Nat × Int
  | 0, x, e => (x, e)
  | f + 1, x, e => if lt75 x then redD f (dmul x 4611686018427387904) (e - 1) else (x, e)
structure Nr (x : Nat) (c k l : Nat) : Prop where
  hi : BD c k x
  lo : LD 1 l x
def U1 (f x : Nat) (e : Int) : Prop := (f = 2 ∧ e = 0 ∧ Nr x 2 0 14) ∨ (f = 1 ∧ e = 1 ∧ Nr x 1 0 14)
def D1 (f x : Nat) (e : Int) : Prop := ∃ j, f + j = 15 ∧ j ≤ 14 ∧ Nr x 3 1 (14 - j) ∧ -(j : Int) ≤ e ∧ e ≤ 1
theorem pw_pos : 0 < 2 ^ UD := Nat.two_pow_pos _
theorem U1.step {f x : Nat} {e : Int} (h : U1 f x e) (hg : ge15 x = true) : okDD x 4611686018427387904 ∧ e = 0 ∧ redU f x e = redU (f - 1) (ddiv x 4611686018427387904) (e + 1) ∧ U1 (f - 1) (ddiv x 4611686018427387904) (e + 1) := by
  rcases h with ⟨rfl, rfl, h⟩ | ⟨rfl, rfl, h⟩
  · rw [ge15_is h.hi.fi] at hg
    have hv := of_decide_eq_true hg
    rw [l_15.vl, h.lo.vl] at hv
    have h1 := l_15.ge
    have h2 := b_two.le
    have h3 := l_two.ge
    have h4 := h.hi.le
    have hp := pw_pos
    generalize 2 ^ UD = E at h1 h2 h3 h4 hp
    obtain ⟨ok, hb⟩ := ddiv_b (c := 1) (k := 0) h.hi.fi b_two.fi (l_two.pos_vm (by decide)) (repD (by decide) (by decide) (by decide)) (by omega)
    have hl := ddiv_lw (c := 1) (k := 14) h.hi.fi b_two.fi (l_two.pos_vm (by decide)) h.lo.pos l_two.pos (repD (by decide) (by decide) (by decide)) (by omega)
    refine ⟨ok, rfl, ?_, .inr ⟨rfl, by omega, hb, hl⟩⟩
    show (if ge15 x then _ else _) = _
    rw [ge15_is h.hi.fi, hg, if_pos rfl]
  · exfalso
    rw [ge15_is h.hi.fi] at hg
    have hv := of_decide_eq_true hg
    rw [l_15.vl, h.lo.vl] at hv
    have h1 := l_15.ge
    have h4 := h.hi.le
    have hp := pw_pos
    generalize 2 ^ UD = E at h1 h4 hp
    omega
theorem U1.stop {f x : Nat} {e : Int} (h : U1 f x e) (hg : ge15 x = false) : redU f x e = (x, e) ∧ D1 15 x e := by
  have hn : Nr x 2 0 14 ∧ (e = 0 ∨ e = 1) ∧ ∃ f', f = f' + 1 := by
    rcases h with ⟨rfl, rfl, h⟩ | ⟨rfl, rfl, h⟩
    · exact ⟨h, .inl rfl, _, rfl⟩
    · exact ⟨⟨h.hi.mono (by decide), h.lo⟩, .inr rfl, _, rfl⟩
  clear h
  obtain ⟨h, he, f', rfl⟩ := hn
  refine ⟨?_, 0, rfl, by omega, ⟨⟨h.hi.wd, h.hi.fi, ?_⟩, h.lo⟩, by omega, by omega⟩
  · show (if ge15 x then _ else _) = _
    rw [hg, if_neg (by decide)]
  · rw [ge15_is h.hi.fi] at hg
    have hv := of_decide_eq_false hg
    rw [l_15.vl, h.lo.vl] at hv
    have h1 := b_15.le
    generalize 2 ^ UD = E at h1
    omega
theorem D1.step {f x : Nat} {e : Int} (h : D1 f x e) (hg : lt75 x = true) : okDM x 4611686018427387904 ∧ (-13 ≤ e ∧ e ≤ 1) ∧ redD f x e = redD (f - 1) (dmul x 4611686018427387904) (e - 1) ∧ D1 (f - 1) (dmul x 4611686018427387904) (e - 1) := by
  obtain ⟨j, hf, hj, h, he1, he2⟩ := h
  have hg' := hg
  rw [lt75_is h.hi.fi] at hg'
  have hv := of_decide_eq_true hg'
  rw [l_75.vl, h.lo.vl] at hv
  have h1 := b_75.le
  have h2 := h.lo.ge
  have hp := pw_pos
  have hb3 : BD 3 2 x := ⟨h.hi.wd, h.hi.fi, by omega⟩
  have hj13 : j ≤ 13 := by
    rcases Nat.lt_or_ge 13 j with hlt | hge
    · exfalso
      obtain rfl : j = 14 := by omega
      generalize 2 ^ UD = E at h1 h2 hp
      omega
    · exact hge
  obtain ⟨ok, hb⟩ := dmul_b hb3 b_two (repD (by decide) (by decide) (by decide))
  have hl := dmul_lw h.hi.fi b_two.fi h.lo l_two (repD (by decide) (by decide) (by omega))
  obtain ⟨f', rfl⟩ : ∃ f', f = f' + 1 := ⟨f - 1, by omega⟩
  refine ⟨ok, ⟨by omega, by omega⟩, ?_, j + 1, by omega, by omega, ⟨hb.mono (by decide), hl.mono ?_⟩, by omega, by omega⟩
  · show (if lt75 x then _ else _) = _
    rw [hg, if_pos rfl]; rfl
  · rw [show 14 - j + 0 = (14 - (j + 1)) + 1 by omega, Nat.pow_succ]
    omega
theorem D1.stop {f x : Nat} {e : Int} (h : D1 f x e) (hg : lt75 x = false) : redD f x e = (x, e) ∧ BD 3 1 x ∧ LD 3 2 x ∧ -14 ≤ e ∧ e ≤ 1 := by
  obtain ⟨j, hf, hj, h, he1, he2⟩ := h
  obtain ⟨f', rfl⟩ : ∃ f', f = f' + 1 := ⟨f - 1, by omega⟩
  refine ⟨?_, h.hi, ⟨h.lo.pos, ?_⟩, by omega, by omega⟩
  · show (if lt75 x then _ else _) = _
    rw [hg, if_neg (by decide)]
  · rw [lt75_is h.hi.fi] at hg
    have hv := of_decide_eq_false hg
    rw [l_75.vl, h.lo.vl] at hv
    have h1 := l_75.ge
    generalize 2 ^ UD = E at h1 ⊢
    omega
/-! ### the whole numbers as words -/
theorem e_up : Ieee.double.add (eD 0) 4607182418800017408 = some (eD (0 + 1)) := by kernel_rfl
theorem e_zero : eD 0 = 0 := by kernel_rfl
theorem e_down_all : ((List.range 20).all fun (i : Nat) => Ieee.double.sub (eD (1 - (i : Int))) 4607182418800017408 == some (eD (1 - (i : Int) - 1))) = true := by kernel_rfl
theorem e_down {e : Int} (h : -13 ≤ e ∧ e ≤ 1) : Ieee.double.sub (eD e) 4607182418800017408 = some (eD (e - 1)) := by
  have := (List.all_eq_true.1 e_down_all) (1 - e).toNat (List.mem_range.2 (by omega))
  rw [show 1 - (((1 - e).toNat : Nat) : Int) = e by omega] at this
  exact eq_of_beq this
def eIdx : Value → Nat
  | .float _ b => (List.range 20).findIdx fun (i : Nat) => eD (1 - (i : Int)) == b
  | _ => 0
theorem eIdx_all : ((List.range 17).all fun (i : Nat) => eIdx (.float .f64 (eD (1 - (i : Int)))) == i) = true := by kernel_rfl
theorem eIdx_at {e : Int} (h : -14 ≤ e ∧ e ≤ 1) : eIdx (.float .f64 (eD e)) = (1 - e).toNat := by
  have := (List.all_eq_true.1 eIdx_all) (1 - e).toNat (List.mem_range.2 (by omega))
  rw [show 1 - (((1 - e).toNat : Nat) : Int) = e by omega] at this
  exact eq_of_beq this
def kIdx : Value → Nat
  | .float _ b => (List.range 20).findIdx fun (i : Nat) => eD (25 - 2 * (i : Int)) == b
  | _ => 0
theorem k_all : ((List.range 14).all fun (i : Nat) => kIdx (.float .f64 (eD (25 - 2 * (i : Int)))) == i && (Ieee.double.sub (eD (25 - 2 * (i : Int))) 4611686018427387904 == some (eD (25 - 2 * (i : Int) - 2)) && ((Ieee.double.order (eD (25 - 2 * (i : Int))) 4607182418800017408 == some .gt || Ieee.double.order (eD (25 - 2 * (i : Int))) 4607182418800017408 == some .eq) == decide (i < 13)))) = true := by kernel_rfl
theorem k_at {j : Nat} (h : j < 14) : kIdx (.float .f64 (eD (25 - 2 * (j : Int)))) = j ∧ Ieee.double.sub (eD (25 - 2 * (j : Int))) 4611686018427387904 = some (eD (25 - 2 * (j : Int) - 2)) ∧ (Ieee.double.order (eD (25 - 2 * (j : Int))) 4607182418800017408 == some .gt || Ieee.double.order (eD (25 - 2 * (j : Int))) 4607182418800017408 == some .eq) = decide (j < 13) := by
  have := (List.all_eq_true.1 k_all) j (List.mem_range.2 h)
  rw [Bool.and_eq_true, Bool.and_eq_true] at this
  exact ⟨eq_of_beq this.1, eq_of_beq this.2.1, eq_of_beq this.2.2⟩
theorem k_25 : eD 25 = 4627730092099895296 := by kernel_rfl
def xIdx : Value → Nat
  | .float _ b => (List.range 20).findIdx fun (i : Nat) => eD (12 - (i : Int)) == b
  | _ => 0
theorem x_all : ((List.range 13).all fun (i : Nat) => xIdx (.float .f64 (eD (12 - (i : Int)))) == i && (Ieee.double.sub (eD (12 - (i : Int))) 4607182418800017408 == some (eD (12 - (i : Int) - 1)) && ((Ieee.double.order (eD (12 - (i : Int))) 4607182418800017408 == some .gt || Ieee.double.order (eD (12 - (i : Int))) 4607182418800017408 == some .eq) == decide (i < 12)))) = true := by kernel_rfl
theorem x_at {j : Nat} (h : j < 13) : xIdx (.float .f64 (eD (12 - (j : Int)))) = j ∧ Ieee.double.sub (eD (12 - (j : Int))) 4607182418800017408 = some (eD (12 - (j : Int) - 1)) ∧ (Ieee.double.order (eD (12 - (j : Int))) 4607182418800017408 == some .gt || Ieee.double.order (eD (12 - (j : Int))) 4607182418800017408 == some .eq) = decide (j < 12) := by
  have := (List.all_eq_true.1 x_all) j (List.mem_range.2 h)
  rw [Bool.and_eq_true, Bool.and_eq_true] at this
  exact ⟨eq_of_beq this.1, eq_of_beq this.2.1, eq_of_beq this.2.2⟩
theorem x_12 : eD 12 = 4622945017495814144 := by kernel_rfl
/-! ### the logarithm: the series -/
theorem nat_b {n : Int} (h1 : 1 ≤ n) (h2 : n ≤ 100) : BD 100 0 (eD n) ∧ LD 1 0 (eD n) :=
  ⟨eD_b (by omega) (repD (by decide) (by decide) (by decide)), eD_lw (by omega) (by omega) (repD (by decide) (by decide) (by decide))⟩
theorem inv_b {n : Int} (h1 : 1 ≤ n) (h2 : n ≤ 100) : okDD 4607182418800017408 (eD n) ∧ BD 1 0 (ddiv 4607182418800017408 (eD n)) := by
  obtain ⟨hb, hl⟩ := nat_b h1 h2
  refine ddiv_b b_one.fi hb.fi (hl.pos_vm (by decide)) (repD (by decide) (by decide) (by decide)) ?_
  have a := b_one.le
  have b := hl.ge
  generalize 2 ^ UD = E at a b
  omega
def qL (u : Nat) : Nat → Nat
  | 0 => 0
  | j + 1 => dadd (ddiv 4607182418800017408 (eD (25 - 2 * (j : Int)))) (dmul u (qL u j))
theorem q_step {u j : Nat} (hu : BD 1 2 u) (hj : j < 13) (hq : BD 2 0 (qL u j)) : okDD 4607182418800017408 (eD (25 - 2 * (j : Int))) ∧ okDM u (qL u j) ∧ okDA (ddiv 4607182418800017408 (eD (25 - 2 * (j : Int)))) (dmul u (qL u j)) ∧ BD 2 0 (qL u (j + 1)) := by
  obtain ⟨o1, b1⟩ := inv_b (n := 25 - 2 * (j : Int)) (by omega) (by omega)
  obtain ⟨o2, b2⟩ := dmul_b hu hq (repD (by decide) (by decide) (by decide))
  obtain ⟨o3, b3⟩ := dadd_b (b1.mono (d := 2) (l := 1) (by decide)) (b2.mono (d := 2) (l := 1) (by decide)) (repD (by decide) (by decide) (by decide))
  exact ⟨o1, o2, o3, b3.mono (by decide)⟩
theorem q_b {u : Nat} (hu : BD 1 2 u) : ∀ j, j ≤ 13 → BD 2 0 (qL u j)
  | 0, _ => b_zero
  | j + 1, h => (q_step hu (by omega) (q_b hu j (by omega))).2.2.2
def logS (x : Nat) : Nat := ddiv (dsub x 4607182418800017408) (dadd x 4607182418800017408)
def logQ (x : Nat) : Nat := qL (dmul (logS x) (logS x)) 13
def logE (x : Nat) (e : Int) : Nat := dadd (dmul 4611686018427387904 (dmul (logS x) (logQ x))) (dmul (eD e) 4604418534313441775)
theorem logS_ok {x : Nat} (hb : BD 3 1 x) (hl : LD 3 2 x) : okDS x 4607182418800017408 ∧ okDA x 4607182418800017408 ∧ okDD (dsub x 4607182418800017408) (dadd x 4607182418800017408) ∧ BD 1 1 (logS x) ∧ okDM (logS x) (logS x) ∧ BD 1 2 (dmul (logS x) (logS x)) := by
  have h1 := hb.le
  have h2 := hl.ge
  have h3 := b_one.le
  have h4 := l_one.ge
  have hp := pw_pos
  have v1 := hl.vl
  have v2 := l_one.vl
  obtain ⟨o1, b1⟩ := dsub_v (c := 1) (k := 1) hb.fi b_one.fi (repD (by decide) (by decide) (by decide)) (by
    rw [v1, v2]
    generalize 2 ^ UD = E at h1 h2 h3 h4 hp ⊢
    omega)
  obtain ⟨o2, b2⟩ := dadd_v (c := 5) (k := 1) hb.fi b_one.fi (repD (by decide) (by decide) (by decide)) (by
    rw [v1, v2]
    generalize 2 ^ UD = E at h1 h2 h3 h4 hp ⊢
    omega)
  have l2 := dadd_lw (c := 1) (k := 0) hb.fi b_one.fi (repD (by decide) (by decide) (by decide)) (by decide) (by
    rw [v1, v2]
    generalize 2 ^ UD = E at h1 h2 h3 h4 hp ⊢
    omega) (by rw [v1, v2]; omega)
  obtain ⟨o3, b3⟩ := ddiv_b (c := 1) (k := 1) b1.fi b2.fi (l2.pos_vm (by decide)) (repD (by decide) (by decide) (by decide)) (by
    have a := b1.le
    have b := l2.ge
    generalize 2 ^ UD = E at a b
    omega)
  obtain ⟨o4, b4⟩ := dmul_b b3 b3 (repD (by decide) (by decide) (by decide))
  exact ⟨o1, o2, o3, b3, o4, b4⟩
theorem logE_ok {x : Nat} {e : Int} (hb : BD 3 1 x) (hl : LD 3 2 x) (he : -14 ≤ e ∧ e ≤ 1) : okDM (logS x) (logQ x) ∧ okDM 4611686018427387904 (dmul (logS x) (logQ x)) ∧ okDM (eD e) 4604418534313441775 ∧ okDA (dmul 4611686018427387904 (dmul (logS x) (logQ x))) (dmul (eD e) 4604418534313441775) ∧ BD 16 0 (logE x e) := by
  obtain ⟨_, _, _, bs, _, bu⟩ := logS_ok hb hl
  have bq : BD 2 0 (logQ x) := q_b bu 13 (Nat.le_refl _)
  obtain ⟨o1, b1⟩ := dmul_b bs bq (repD (by decide) (by decide) (by decide))
  obtain ⟨o2, b2⟩ := dmul_b b_two b1 (repD (by decide) (by decide) (by decide))
  have be : BD 14 0 (eD e) := eD_b (by omega) (repD (by decide) (by decide) (by decide))
  obtain ⟨o3, b3⟩ := dmul_b be b_log (repD (by decide) (by decide) (by decide))
  obtain ⟨o4, b4⟩ := dadd_b (b2.mono (d := 8) (l := 2) (by decide)) (b3.mono (d := 42) (l := 2) (by decide)) (repD (by decide) (by decide) (by decide))
  exact ⟨o1, o2, o3, o4, b4.mono (by decide)⟩
def logG (x : Nat) : Nat := logE (redD 15 (redU 2 x 0).1 (redU 2 x 0).2).1 (redD 15 (redU 2 x 0).1 (redU 2 x 0).2).2
/-! ### the exponential function -/
def pL (t : Nat) : Nat → Nat
  | 0 => 4607182418800017408
  | j + 1 => dadd 4607182418800017408 (ddiv (dmul t (pL t j)) (eD (12 - (j : Int))))
theorem p_step {t j : Nat} (ht : BD 1 4 t) (hj : j < 12) (hp : BD 9 3 (pL t j)) : okDM t (pL t j) ∧ okDD (dmul t (pL t j)) (eD (12 - (j : Int))) ∧ okDA 4607182418800017408 (ddiv (dmul t (pL t j)) (eD (12 - (j : Int)))) ∧ BD 9 3 (pL t (j + 1)) := by
  obtain ⟨o1, b1⟩ := dmul_b ht (hp.mono (d := 2) (l := 0) (by decide)) (repD (by decide) (by decide) (by decide))
  obtain ⟨hb, hl⟩ := nat_b (n := 12 - (j : Int)) (by omega) (by omega)
  obtain ⟨o2, b2⟩ := ddiv_b (c := 2) (k := 4) b1.fi hb.fi (hl.pos_vm (by decide)) (repD (by decide) (by decide) (by decide)) (by
    have a := b1.le
    have b := hl.ge
    generalize 2 ^ UD = E at a b
    omega)
  obtain ⟨o3, b3⟩ := dadd_b (b_one.mono (d := 16) (l := 4) (by decide)) b2 (repD (by decide) (by decide) (by decide))
  exact ⟨o1, o2, o3, b3.mono (by decide)⟩
theorem p_b {t : Nat} (ht : BD 1 4 t) : ∀ j, j ≤ 12 → BD 9 3 (pL t j)
  | 0, _ => b_one.mono (by decide)
  | j + 1, h => (p_step ht (by omega) (p_b ht j (by omega))).2.2.2
def sqL (p : Nat) : Nat → Nat
  | 0 => p
  | j + 1 => dmul (sqL p j) (sqL p j)
/-- how great the squares are -/
def sqB : Nat → Nat × Nat
  | 0 => (9, 3)
  | 1 => (81, 6)
  | 2 => (2 ^ 1, 0)
  | 3 => (2 ^ 2, 0)
  | 4 => (2 ^ 4, 0)
  | 5 => (2 ^ 8, 0)
  | 6 => (2 ^ 16, 0)
  | 7 => (2 ^ 32, 0)
  | _ => (2 ^ 64, 0)
theorem sq_b {p : Nat} (h : BD 9 3 p) : ∀ j, j ≤ 8 → BD (sqB j).1 (sqB j).2 (sqL p j) ∧ (j < 8 → okDM (sqL p j) (sqL p j)) := by
  have h0 : BD 9 3 (sqL p 0) := h
  obtain ⟨o0, b0⟩ := dmul_b h0 h0 (repD (by decide) (by decide) (by decide))
  have h1 : BD 81 6 (sqL p 1) := b0
  obtain ⟨o1, b1⟩ := dmul_b h1 h1 (repD (by decide) (by decide) (by decide))
  have h2 : BD (2 ^ 1) 0 (sqL p 2) := b1.mono (by decide)
  obtain ⟨o2, b2⟩ := dmul_b h2 h2 (repD (by decide) (by decide) (by decide))
  have h3 : BD (2 ^ 2) 0 (sqL p 3) := b2
  obtain ⟨o3, b3⟩ := dmul_b h3 h3 (repD (by decide) (by decide) (by decide))
  have h4 : BD (2 ^ 4) 0 (sqL p 4) := b3
  obtain ⟨o4, b4⟩ := dmul_b h4 h4 (repD (by decide) (by decide) (by decide))
  have h5 : BD (2 ^ 8) 0 (sqL p 5) := b4
  obtain ⟨o5, b5⟩ := dmul_b h5 h5 (repD (by decide) (by decide) (by decide))
  have h6 : BD (2 ^ 16) 0 (sqL p 6) := b5
  obtain ⟨o6, b6⟩ := dmul_b h6 h6 (repD (by decide) (by decide) (by decide))
  have h7 : BD (2 ^ 32) 0 (sqL p 7) := b6
  obtain ⟨o7, b7⟩ := dmul_b h7 h7 (by rw [← Nat.pow_add]; exact repDp (by decide))
  have h8 : BD (2 ^ 64) 0 (sqL p 8) := by rw [← Nat.pow_add] at b7; exact b7
  intro j hj
  match j, hj with
  | 0, _ => exact ⟨h0, fun _ => o0⟩
  | 1, _ => exact ⟨h1, fun _ => o1⟩
  | 2, _ => exact ⟨h2, fun _ => o2⟩
  | 3, _ => exact ⟨h3, fun _ => o3⟩
  | 4, _ => exact ⟨h4, fun _ => o4⟩
  | 5, _ => exact ⟨h5, fun _ => o5⟩
  | 6, _ => exact ⟨h6, fun _ => o6⟩
  | 7, _ => exact ⟨h7, fun _ => o7⟩
  | 8, _ => exact ⟨h8, fun h => absurd h (by decide)⟩
def expT (x : Nat) : Nat := ddiv x 4643211215818981376
def expG (x : Nat) : Nat := sqL (pL (expT x) 12) 8
theorem expT_ok {x : Nat} (h : BD 16 0 x) : okDD x 4643211215818981376 ∧ BD 1 4 (expT x) := by
  refine ddiv_b h.fi b_256.fi (l_256.pos_vm (by decide)) (repD (by decide) (by decide) (by decide)) ?_
  have a := h.le
  have b := l_256.ge
  generalize 2 ^ UD = E at a b
  omega
theorem exp_tests {x : Nat} (h : BD 16 0 x) : (Ieee.double.order x x != some .eq) = false ∧ (Ieee.double.order x 4641240890982006784 == some .gt) = false ∧ (Ieee.double.order x 13864612927836782592 == some .lt) = false := by
  have a := h.le
  have hv := vl_abs Ieee.double x
  have hp := pw_pos
  refine ⟨?_, ?_, ?_⟩
  · rw [order_fi h.fi h.fi]; simp
  · rw [ord_gt h.fi b_200.fi, l_200.vl]
    have b := l_200.ge
    generalize 2 ^ UD = E at a b hp
    exact decide_eq_false (by omega)
  · rw [ord_lt h.fi b_m200.fi, v_m200]
    have b := l_m200
    generalize 2 ^ UD = E at a b hp
    exact decide_eq_false (by omega)
end Go.Proofs.Ytcbdjkonhnafcaa
