/-
  shared: the phase.
-/
import Derived.Test.YtneclhkpgalnlaaShF
namespace Go.Proofs.Ytneclhkpgalnlaa
open Go.ChangeShapes Go.WideShapes Go.ChangeAt Go.RowKit Sm Go.Conc
set_option linter.unusedVariables false

/-! ### a row cut to its first cells -/
def cutO (m : Nat) : Obj → Obj
  | .cells c el fz => .cells (c.extract 0 m) el fz
  | o => o
def trimW (v : World) (g m : Nat) : World := { v with heap := v.heap.modify g (cutO m) }
theorem trim_ne {v : World} {g m b : Nat} (h : b ≠ g) : (trimW v g m).heap[b]? = v.heap[b]? := by
  simp only [trimW, Array.getElem?_modify, if_neg (Ne.symm h)]
theorem trim_at {v : World} {g m : Nat} {c : Array Value} {el : TypeId} {fz : Nat × Nat} (h : v.heap[g]? = some (.cells c el fz)) : (trimW v g m).heap[g]? = some (.cells (c.extract 0 m) el fz) := by
  simp only [trimW, Array.getElem?_modify, if_true, h]
  rfl
theorem trim_size (v : World) (g m : Nat) : (trimW v g m).heap.size = v.heap.size := by simp [trimW]
theorem trim_cell {v : World} {g m : Nat} {p : Addr} {x : Value} (h : v.cell? p = some x) (hp : p.block = g → p.off < m) : (trimW v g m).cell? p = some x := by
  unfold World.cell? at h ⊢
  by_cases e : p.block = g
  · rw [e] at h ⊢
    cases ho : v.heap[g]? with
    | none => rw [ho] at h; cases h
    | some o =>
      rw [ho] at h
      cases o <;> first | cases h; done | skip
      rename_i c el fz
      rw [trim_at ho]
      simp only at h ⊢
      split at h
      · cases h
      · rename_i hs
        rw [if_neg hs, Array.getElem?_extract]
        have hlt := (Array.getElem?_eq_some_iff.1 h).1
        have := hp e
        rw [if_pos (by simp; omega)]
        simpa using h
  · rw [trim_ne e]; exact h

theorem Calm_trim {P : Program} {Fs : FuncId → Bool} {H : Nat} {W : World} {gs : Array Goroutine} {w : World} {t : Trace} {q : Nat → Nat} {s : St} (h : Sm.Calm P Fs H W (fun _ => False) gs w t q s) (g m : Nat) : Sm.Calm P Fs H W (fun _ => False) gs w t q { s with v := trimW s.v g m } := by
  have hobj : ∀ b o, s.v.heap[b]? = some o → (trimW s.v g m).heap[b]? = some (if b = g then cutO m o else o) := by
    intro b o ho
    by_cases e : b = g
    · subst e
      simp only [trimW, Array.getElem?_modify, if_true, ho]
      rfl
    · rw [trim_ne e, if_neg e]; exact ho
  refine ⟨h.g0, h.ok, ⟨fun b c hb => ?_, h.wr.fn, h.wr.inj⟩, fun b c hb hc => ?_, fun b hb => hb.elim, h.hle, h.old, h.tape, h.os, h.out, h.lv, h.nr, h.wl, h.kn⟩
  · obtain ⟨o, o', ho, ho', hOR⟩ := h.wr.obj b c hb
    refine ⟨_, o', hobj b o ho, ho', ?_⟩
    split
    · cases hOR with
      | cells h1 h2 =>
        refine .cells (fun j u hj => h1 j u ?_) fun j hj => h2 j (by simp at hj; omega)
        rw [Array.getElem?_extract] at hj
        split at hj
        · simpa using hj
        · cases hj
      | map hs h1 => exact .map hs h1
      | chan s1 s2 tm => exact .chan s1 s2 tm
      | number x lost => exact .number x lost
    · exact hOR
  · obtain ⟨cs, el, fz, ho, hf⟩ := h.lay b c hb hc
    have := hobj b _ ho
    split at this
    · exact ⟨_, el, fz, this, fun j hj => hf j (by simp at hj; omega)⟩
    · exact ⟨_, el, fz, this, hf⟩

/-! ### what is kept -/
structure Kp (gA gR ln rn : Nat) (v v' : World) : Prop where
  size : v.heap.size ≤ v'.heap.size
  cell : ∀ (p : Addr) x, v.cell? p = some x → (p.block = gA → p.off < ln) → (p.block = gR → p.off < rn) → v'.cell? p = some x

/-- What the phase finds. -/
structure PhF (v : World) (b1 b2 b3 b4 b5 bR bO bC gA gR ln lc n rn rc : Nat) (zs rs : List Int) : Prop where
  c1 : ∃ el fz, v.heap[b1]? = some (.cells #[.slice (some ⟨gA, 0, none⟩) ln lc] el fz)
  c2 : ∃ el fz, v.heap[b2]? = some (.cells #[.int .i64 n] el fz)
  c3 : ∃ el fz, v.heap[b3]? = some (.cells #[.func (.func 22) #[] #[.pointer (some ⟨bR, 0, none⟩)]] el fz)
  c4 : ∃ el fz, v.heap[b4]? = some (.cells #[.slice (some ⟨bO, 0, none⟩) ln ln] el fz)
  c5 : ∃ el fz, v.heap[b5]? = some (.cells #[.chan (some bC)] el fz)
  cR : ∃ el fz, v.heap[bR]? = some (.cells #[.slice (some ⟨gR, 0, none⟩) rn rc] el fz)
  cO : ∃ zs0, v.heap[bO]? = some (.cells zs0 2 (0, 0)) ∧ zs0.size = ln
  cC : chansOf v bC
  rA : Rd v v.heap.size 1 (some ⟨gA, 0, none⟩) ln (ints zs)
  rR : Rd v v.heap.size 1 (some ⟨gR, 0, none⟩) rn (ints rs)
  d1 : bO ≠ b1 ∧ bO ≠ b2 ∧ bO ≠ b3 ∧ bO ≠ b4 ∧ bO ≠ b5 ∧ bO ≠ bR ∧ bO ≠ gA ∧ bO ≠ gR
  d2 : gA ≠ gR
  d3 : ∀ b, b = b1 ∨ b = b2 ∨ b = b3 ∨ b = b4 ∨ b = b5 ∨ b = bR ∨ b = bO → b ≠ gA ∧ b ≠ gR
  hl : 1 ≤ ln ∧ ln ≤ 60
  hr : 1 ≤ rn ∧ rn ≤ 60
  hn : 1 ≤ n ∧ n ≤ 8
  hz : ∀ i, i < ln → 0 ≤ zs[i]?.getD 0 ∧ zs[i]?.getD 0 ≤ 1000000000
  hs : RateIs rs

theorem cell_of {v : World} {b : Nat} {c : Array Value} {el : TypeId} {fz : Nat × Nat} (h : v.heap[b]? = some (.cells c el fz)) (i : Nat) : v.cell? ⟨b, i, none⟩ = c[i]? := by
  unfold World.cell?
  rw [h]; rfl
theorem row_of {v : World} {B g m : Nat} {zs : List Int} (h : Rd v B 1 (some ⟨g, 0, none⟩) m (ints zs)) (hm : 0 < m) : ∃ c el fz, v.heap[g]? = some (.cells c el fz) ∧ m ≤ c.size ∧ ∀ i, i < m → c[i]? = some (.int .i64 (zs[i]?.getD 0)) := by
  have key : ∀ i, i < m → v.cell? ⟨g, i, none⟩ = some (.int .i64 (zs[i]?.getD 0)) := fun i hi => by
    obtain ⟨ad, e, hc⟩ := h.int hi
    cases e
    have : (⟨g, 0, none⟩ : Addr).add i = ⟨g, i, none⟩ := by
      by_cases e : i = 0
      · subst e; rfl
      · simp [Addr.add, e]
    rw [this] at hc; exact hc
  have h0 := key 0 hm
  cases ho : v.heap[g]? with
  | none => unfold World.cell? at h0; simp only [ho] at h0; cases h0
  | some o =>
    cases o <;> first | (unfold World.cell? at h0; simp only [ho] at h0; cases h0; done) | skip
    rename_i c el fz
    refine ⟨c, el, fz, rfl, ?_, fun i hi => by rw [← cell_of ho]; exact key i hi⟩
    have := key (m - 1) (by omega)
    rw [cell_of ho] at this
    have := (Array.getElem?_eq_some_iff.1 this).1
    omega
end Go.Proofs.Ytneclhkpgalnlaa
