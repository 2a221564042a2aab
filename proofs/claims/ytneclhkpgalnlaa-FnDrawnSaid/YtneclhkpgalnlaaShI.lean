/-
  shared: the phase, run.
-/
import Derived.Test.YtneclhkpgalnlaaShH
namespace Go.Proofs.Ytneclhkpgalnlaa
open Go.ChangeShapes Go.WideShapes Go.ChangeAt Go.RowKit Sm Go.Conc
set_option linter.unusedVariables false
section
variable {v : World} {b1 b2 b3 b4 b5 bR bO bC gA gR ln lc n rn rc : Nat} {zs rs : List Int}

/-- What the phase leaves as it was. -/
structure KpO (bO gA gR ln rn : Nat) (v v' : World) : Prop where
  size : v.heap.size ≤ v'.heap.size
  cell : ∀ (p : Addr) x, p.block ≠ bO → v.cell? p = some x → (p.block = gA → p.off < ln) → (p.block = gR → p.off < rn) → v'.cell? p = some x
  obj : ∀ (b : Nat) c el fz, b ≠ bO → v.heap[b]? = some (.cells c el fz) → (b = gA → c.size ≤ ln) → (b = gR → c.size ≤ rn) → v'.heap[b]? = some (.cells c el fz)

/-- ████ THE PHASE ████ -/
theorem shared_phase {H : Nat} {W : World} {gs : Array Goroutine} {w : World} {sl : Option (Nat × Nat)} {t : Trace} {q : Nat → Nat} {s : St} {t1 : Array Value} (hC : Sm.Calm Try.prog Fs10 H W (fun _ => False) gs w t q s)
    (hfr : s.fr = sB.at ⟨t1, []⟩ sH1) (hS : S1 b1 b2 b3 b4 b5 n 0 t1) (hF : PhF s.v b1 b2 b3 b4 b5 bR bO bC gA gR ln lc n rn rc zs rs) :
    ∃ N gs' w' sl' t' q' s', runNT Try.prog N (crowd gs w sl) t = (.next (crowd gs' w' sl'), t') ∧ Sm.Calm Try.prog Fs10 H W (fun _ => False) gs' w' t' q' s' ∧ s'.up = s.up ∧
      (∃ t2, S2 b1 b2 b3 b4 b5 n (n - 1) t2 ∧ s'.fr = sB.at ⟨t2, []⟩ (.inRegion (opsOf sR9) [] :: sK2)) ∧ s'.v.heap[bO]? = some (.cells (Sm.results (fun i => safeR (zs[i]?.getD 0) rs) ln) 2 (0, 0)) ∧ KpO bO gA gR ln rn s.v s'.v := by
  have hC2 := Calm_trim (Calm_trim hC gA ln) gR rn
  have hT := hF.trim
  obtain ⟨cA, eA, fA, hcA, hmA, hiA⟩ := row_of hF.rA (by have := hF.hl; omega)
  obtain ⟨cB, eB, fB, hcB, hmB, hiB⟩ := row_of hF.rR (by have := hF.hr; omega)
  have hA : ∃ c el fz, (trim2 s.v gA ln gR rn).heap[gA]? = some (.cells c el fz) ∧ ∀ (i : Nat) x, c[i]? = some x → x = .int .i64 (zs[i]?.getD 0) := by
    refine ⟨_, eA, fA, ?_, row_cut (g := 0) hiA⟩
    unfold trim2
    rw [trim_ne hF.d2]
    exact trim_at hcA
  have hR : ∃ c el fz, (trim2 s.v gA ln gR rn).heap[gR]? = some (.cells c el fz) ∧ ∀ (i : Nat) x, c[i]? = some x → x = .int .i64 (rs[i]?.getD 0) := by
    refine ⟨_, eB, fB, ?_, row_cut (g := 0) hiB⟩
    unfold trim2
    exact trim_at (by rw [trim_ne (Ne.symm hF.d2)]; exact hcB)
  have hSt := hT.start (up := s.up) hA hR hS
  rw [← hfr] at hSt
  obtain ⟨N, gs', w', sl', t', q', s', u, hrun, hC', ⟨T, d, hup, t2, hS2, hfr2⟩, hsz, hv⟩ := phase_calm (sl := sl) okP hC2 hSt
  refine ⟨N, gs', w', sl', t', q', s', hrun, hC', hup, ⟨t2, hS2, hfr2⟩, ?_, ?_, fun p x hne hx h1 h2 => ?_, fun b c el fz hne hb h1 h2 => ?_⟩
  · rw [hv]
    obtain ⟨z0, hz, _⟩ := hT.cO
    exact rst_O (Nat.lt_of_lt_of_le (Array.getElem?_eq_some_iff.1 hz).1 hsz)
  · rw [hv, rst_size]
    have : (trim2 s.v gA ln gR rn).heap.size ≤ u.heap.size := hsz
    rw [trim2_size] at this
    exact this
  · rw [hv]
    have hx' : (trim2 s.v gA ln gR rn).cell? p = some x := trim2_cell hx h1 h2
    unfold World.cell? at hx' ⊢
    cases ho : (trim2 s.v gA ln gR rn).heap[p.block]? with
    | none => rw [ho] at hx'; cases hx'
    | some o =>
      rw [ho] at hx'
      cases o <;> first | (cases hx'; done) | skip
      rename_i c el fz
      have hlt := (Array.getElem?_eq_some_iff.1 ho).1
      have := rst_cells (row := .cells (Sm.results (fun i => safeR (zs[i]?.getD 0) rs) ln) 2 (0, 0)) (u := u) (Nat.lt_of_lt_of_le hlt hsz) hne ho
      have e : (restore (trim2 s.v gA ln gR rn) bO (.cells (Sm.results (fun i => safeR (zs[i]?.getD 0) rs) ln) 2 (0, 0)) u).heap[p.block]? = some (.cells c el fz) := this
      show (match (restore (trim2 s.v gA ln gR rn) bO (.cells (Sm.results (fun i => safeR (zs[i]?.getD 0) rs) ln) 2 (0, 0)) u).heap[p.block]? with
        | some (.cells c _ _) => if p.spot.isSome then none else c[p.off]?
        | _ => none) = some x
      rw [e]; exact hx'
  · rw [hv]
    have one : ∀ {u : World} {g m : Nat}, u.heap[b]? = some (.cells c el fz) → (b = g → c.size ≤ m) → (trimW u g m).heap[b]? = some (.cells c el fz) := by
      intro u g m hu hm
      by_cases e : b = g
      · subst e
        rw [trim_at hu]
        have := hm rfl
        rw [Array.extract_eq_self_of_le (by omega)]
      · rw [trim_ne e]; exact hu
    have h3 : (trim2 s.v gA ln gR rn).heap[b]? = some (.cells c el fz) := one (one hb h1) h2
    exact rst_cells (Nat.lt_of_lt_of_le (Array.getElem?_eq_some_iff.1 h3).1 hsz) hne h3
end
end Go.Proofs.Ytneclhkpgalnlaa
