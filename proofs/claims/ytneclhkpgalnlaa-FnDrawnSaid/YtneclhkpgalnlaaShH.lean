/-
  shared: the phase, joined.
-/
import Derived.Test.YtneclhkpgalnlaaShG
namespace Go.Proofs.Ytneclhkpgalnlaa
open Go.ChangeShapes Go.WideShapes Go.ChangeAt Go.RowKit Sm Go.Conc
set_option linter.unusedVariables false
section
variable {v : World} {b1 b2 b3 b4 b5 bR bO bC gA gR ln lc n rn rc : Nat} {zs rs : List Int}

/-- The two rows cut to what is read. -/
def trim2 (v : World) (gA ln gR rn : Nat) : World := trimW (trimW v gA ln) gR rn
theorem trim2_ne {b : Nat} (h : b ≠ gA) (h' : b ≠ gR) : (trim2 v gA ln gR rn).heap[b]? = v.heap[b]? := by
  unfold trim2; rw [trim_ne h', trim_ne h]
theorem trim2_size : (trim2 v gA ln gR rn).heap.size = v.heap.size := by unfold trim2; rw [trim_size, trim_size]
theorem trim2_cell {p : Addr} {x : Value} (h : v.cell? p = some x) (h1 : p.block = gA → p.off < ln) (h2 : p.block = gR → p.off < rn) : (trim2 v gA ln gR rn).cell? p = some x := trim_cell (trim_cell h h1) h2
theorem trim2_chan {b s0 : Nat} {tm : Bool} (h : v.heap[b]? = some (.chan 0 #[] false s0 s0 tm)) : (trim2 v gA ln gR rn).heap[b]? = some (.chan 0 #[] false s0 s0 tm) := by
  have one : ∀ {u : World} {g m : Nat}, u.heap[b]? = some (.chan 0 #[] false s0 s0 tm) → (trimW u g m).heap[b]? = some (.chan 0 #[] false s0 s0 tm) := by
    intro u g m hu
    by_cases e : b = g
    · subst e
      simp only [trimW, Array.getElem?_modify, if_true, hu]
      rfl
    · rw [trim_ne e]; exact hu
  exact one (one h)

theorem pt_one {x y : Value} {i : Nat} (h : (#[x] : Array Value)[i]? = some y) : y = x := by
  rcases i with _ | i
  · simpa using h.symm
  · simp at h
theorem pt_int {k : IntKind} {z : Int} {b : Nat} : ¬ Pt (.int k z) b := fun h => by cases h

theorem row_cut {g m : Nat} {zs : List Int} {c : Array Value} (hc : ∀ i, i < m → c[i]? = some (.int .i64 (zs[i]?.getD 0))) : ∀ (i : Nat) x, (c.extract 0 m)[i]? = some x → x = .int .i64 (zs[i]?.getD 0) := by
  intro i x hx
  rw [Array.getElem?_extract] at hx
  split at hx
  · rename_i h
    have := hc i (by simp at h; omega)
    simp only [Nat.zero_add] at hx
    rw [this] at hx
    simpa using hx.symm
  · cases hx

theorem Rd.kp {w' : World} {B g m : Nat} {xs : List Value} {v : World} (h : Rd v B 1 (some ⟨g, 0, none⟩) m xs) (hk : ∀ i, i < m → ∀ x, v.cell? ((⟨g, 0, none⟩ : Addr).add i) = some x → w'.cell? ((⟨g, 0, none⟩ : Addr).add i) = some x) : Rd w' B 1 (some ⟨g, 0, none⟩) m xs :=
  ⟨h.1, fun hn => by
    obtain ⟨ad, e, hb, hc⟩ := h.2 hn
    cases e
    refine ⟨_, rfl, hb, fun j u hu => hk j ?_ u (hc j u hu)⟩
    have := (List.getElem?_eq_some_iff.1 hu).1
    have := h.len
    omega⟩
theorem add_off (g i : Nat) : (⟨g, 0, none⟩ : Addr).add i = ⟨g, i, none⟩ := by
  by_cases e : i = 0
  · subst e; rfl
  · simp [Addr.add, e]

theorem shade_cell {u : World} {el : TypeId} {p : Addr} (h : p.block ≠ bO) : (shade u bO el).cell? p = u.cell? p := by
  unfold shade
  rw [frz_cell]
  unfold World.cell?
  rw [cut_ne h]
theorem push_cell {u : World} {o : Obj} {p : Addr} {x : Value} (h : u.cell? p = some x) : ({ u with heap := u.heap.push o } : World).cell? p = some x := by
  have hlt : p.block < u.heap.size := by
    unfold World.cell? at h
    cases ho : u.heap[p.block]? with
    | none => rw [ho] at h; cases h
    | some o => exact (Array.getElem?_eq_some_iff.1 ho).1
  unfold World.cell? at h ⊢
  simp only [Array.getElem?_push, if_neg (show ¬ p.block = u.heap.size from by omega)]
  exact h

/-- The trimmed world holds what the phase finds. -/
theorem PhF.trim (h : PhF v b1 b2 b3 b4 b5 bR bO bC gA gR ln lc n rn rc zs rs) : PhF (trim2 v gA ln gR rn) b1 b2 b3 b4 b5 bR bO bC gA gR ln lc n rn rc zs rs := by
  have hk : ∀ b, (b = b1 ∨ b = b2 ∨ b = b3 ∨ b = b4 ∨ b = b5 ∨ b = bR ∨ b = bO) → (trim2 v gA ln gR rn).heap[b]? = v.heap[b]? := fun b hb => trim2_ne (h.d3 b hb).1 (h.d3 b hb).2
  refine ⟨by rw [hk b1 (by simp)]; exact h.c1, by rw [hk b2 (by simp)]; exact h.c2, by rw [hk b3 (by simp)]; exact h.c3, by rw [hk b4 (by simp)]; exact h.c4, by rw [hk b5 (by simp)]; exact h.c5, by rw [hk bR (by simp)]; exact h.cR, by rw [hk bO (by simp)]; exact h.cO, ?_, ?_, ?_, h.d1, h.d2, h.d3, h.hl, h.hr, h.hn, h.hz, h.hs⟩
  · obtain ⟨s0, tm, hc⟩ := h.cC
    exact ⟨s0, tm, trim2_chan hc⟩
  · rw [trim2_size]
    exact h.rA.kp fun i hi x hx => trim2_cell hx (fun _ => by rw [add_off]; exact hi) (fun e => by rw [add_off] at e; exact absurd e h.d2)
  · rw [trim2_size]
    exact h.rR.kp fun i hi x hx => trim2_cell hx (fun e => by rw [add_off] at e; exact absurd e.symm h.d2) (fun _ => by rw [add_off]; exact hi)

/-- What a worker finds. -/
theorem PhF.work (h : PhF v b1 b2 b3 b4 b5 bR bO bC gA gR ln lc n rn rc zs rs) (o : Obj) : WkF { shade v bO 2 with heap := (shade v bO 2).heap.push o } ⟨b1, 0, none⟩ ⟨b2, 0, none⟩ ⟨b3, 0, none⟩ ⟨b4, 0, none⟩ ⟨b5, 0, none⟩ ⟨bR, 0, none⟩ (some ⟨gA, 0, none⟩) ln lc ln n zs bO bC (some ⟨gR, 0, none⟩) rn rc rs := by
  obtain ⟨d1, d2, d3, d4, d5, dR, dA, dB⟩ := h.d1
  have one : ∀ {b : Nat} {x : Value}, bO ≠ b → (∃ el fz, v.heap[b]? = some (.cells #[x] el fz)) → ({ shade v bO 2 with heap := (shade v bO 2).heap.push o } : World).cell? ⟨b, 0, none⟩ = some x := by
    intro b x hb ⟨el, fz, hc⟩
    refine push_cell ?_
    rw [shade_cell (Ne.symm hb), cell_of hc]; rfl
  have hsz : ({ shade v bO 2 with heap := (shade v bO 2).heap.push o } : World).heap.size = v.heap.size + 1 := by
    show ((shade v bO 2).heap.push o).size = _
    rw [Array.size_push, shade_size]
  refine ⟨one d1 h.c1, one d2 h.c2, one d3 h.c3, one d4 h.c4, one d5 h.c5, one dR h.cR, ?_, ?_⟩
  · rw [hsz]
    refine Rd.more (h.rR.kp fun i hi x hx => push_cell ?_) (by omega)
    rw [shade_cell (by rw [add_off]; exact Ne.symm dB)]; exact hx
  · rw [hsz]
    refine Rd.more (h.rA.kp fun i hi x hx => push_cell ?_) (by omega)
    rw [shade_cell (by rw [add_off]; exact Ne.symm dA)]; exact hx

theorem chan_shade {b : Nat} (hO : ∃ c el fz, v.heap[bO]? = some (.cells c el fz)) (h : chansOf v b) : b ≠ bO ∧ ∃ s tm, (shade v bO 2).heap[b]? = some (.chan 0 #[] false s s tm) := by
  obtain ⟨s, tm, hc⟩ := h
  obtain ⟨c, el, fz, hO⟩ := hO
  have hne : b ≠ bO := by
    rintro rfl
    rw [hc] at hO; cases hO
  exact ⟨hne, s, tm, shade_non hne hc (fun x => by exact x)⟩

set_option maxHeartbeats 1000000 in
theorem PhF.start {t1 : Array Value} {up : List Frame} (h : PhF v b1 b2 b3 b4 b5 bR bO bC gA gR ln lc n rn rc zs rs) (hA : ∃ c el fz, v.heap[gA]? = some (.cells c el fz) ∧ ∀ (i : Nat) x, c[i]? = some x → x = .int .i64 (zs[i]?.getD 0)) (hR : ∃ c el fz, v.heap[gR]? = some (.cells c el fz) ∧ ∀ (i : Nat) x, c[i]? = some x → x = .int .i64 (rs[i]?.getD 0)) (hS : S1 b1 b2 b3 b4 b5 n 0 t1) :
    Sm.Start Try.prog Fs10 29 n ln (fun i => safeR (zs[i]?.getD 0) rs) bO bC 2 2 [b1, b2, b3, b4, b5] (fun b => b = b1 ∨ b = b2 ∨ b = b3 ∨ b = b4 ∨ b = b5 ∨ b = bR ∨ b = bO ∨ b = bC ∨ b = gA ∨ b = gR) (SFin b1 b2 b3 b4 b5 n up) (sB.at ⟨t1, []⟩ sH1) up v := by
  obtain ⟨e1, f1, c1⟩ := h.c1
  obtain ⟨e2, f2, c2⟩ := h.c2
  obtain ⟨e3, f3, c3⟩ := h.c3
  obtain ⟨e4, f4, c4⟩ := h.c4
  obtain ⟨e5, f5, c5⟩ := h.c5
  obtain ⟨eR, fR, cR⟩ := h.cR
  obtain ⟨zO, cO, szO⟩ := h.cO
  obtain ⟨cA, eA, fA, hcA, hiA⟩ := hA
  obtain ⟨cB, eB, fB, hcB, hiB⟩ := hR
  have hO : ∃ c el fz, v.heap[bO]? = some (.cells c el fz) := ⟨_, _, _, cO⟩
  have hch : ∀ {u : World}, (∀ (b : Nat) (o : Obj), (shade v bO 2).heap[b]? = some o → u.heap[b]? = some o) → ∀ b, chansOf v b → ∃ o : Obj, u.heap[b]? = some o ∧ ¬ IsMap o := by
    intro u hu b hb
    obtain ⟨_, s0, tm, hc⟩ := chan_shade hO hb
    exact ⟨_, hu b _ hc, fun x => x⟩
  refine ⟨h.hn.1, by kernel_rfl, ⟨21, .normal, t1, sH1, rfl, ?_⟩, ?_, by simp, by simp, by simp, ⟨zO, cO, szO⟩, h.cC, ?_, ?_⟩
  · have hs : ∀ (i : Nat) b, t1[i]? = some (.pointer (some ⟨b, 0, none⟩)) → Sm.Reach t1 v b := fun i b hb => .slot hb (.pointer ⟨b, 0, none⟩)
    obtain ⟨z0, z1, z2, z6, x9, x10, x11, x12, x13, x16, x17, x18, x19, x20, x21, x22, x23, x24, x25, x26, rfl⟩ := hS
    have r1 := hs 3 b1 rfl
    have r2 := hs 4 b2 rfl
    have r3 := hs 5 b3 rfl
    have r4 := hs 7 b4 rfl
    have r5 := hs 8 b5 rfl
    have rR : Sm.Reach _ v bR := .cell (i := 0) r3 c3 rfl (.capt (i := 0) rfl (.pointer ⟨bR, 0, none⟩))
    rintro b (rfl | rfl | rfl | rfl | rfl | rfl | rfl | rfl | rfl | rfl)
    · exact r1
    · exact r2
    · exact r3
    · exact r4
    · exact r5
    · exact rR
    · exact .cell (i := 0) r4 c4 rfl (.slice ⟨_, 0, none⟩ _ _)
    · exact .cell (i := 0) r5 c5 rfl (.chan _)
    · exact .cell (i := 0) r1 c1 rfl (.slice ⟨_, 0, none⟩ _ _)
    · exact .cell (i := 0) rR cR rfl (.slice ⟨_, 0, none⟩ _ _)
  · rintro b (rfl | rfl | rfl | rfl | rfl | rfl | rfl | rfl | rfl | rfl)
    · exact .inl ⟨_, _, _, c1, fun _ i x hi b' hp => by cases pt_one hi; cases hp; simp⟩
    · exact .inl ⟨_, _, _, c2, fun _ i x hi b' hp => by cases pt_one hi; cases hp⟩
    · refine .inl ⟨_, _, _, c3, fun _ i x hi b' hp => ?_⟩
      cases pt_one hi
      cases hp with
      | first h hx => simp at h
      | capt h hx => cases pt_one h; cases hx; simp
    · exact .inl ⟨_, _, _, c4, fun _ i x hi b' hp => by cases pt_one hi; cases hp; simp⟩
    · exact .inl ⟨_, _, _, c5, fun _ i x hi b' hp => by cases pt_one hi; cases hp; simp⟩
    · exact .inl ⟨_, _, _, cR, fun _ i x hi b' hp => by cases pt_one hi; cases hp; simp⟩
    · exact .inl ⟨_, _, _, cO, fun hne => absurd rfl hne⟩
    · exact .inr h.cC
    · exact .inl ⟨_, _, _, hcA, fun _ i x hi b' hp => by cases hiA i x hi; exact absurd hp pt_int⟩
    · exact .inl ⟨_, _, _, hcB, fun _ i x hi b' hp => by cases hiB i x hi; exact absurd hp pt_int⟩
  · intro k hk
    have := w_entry (Ch := chansOf v) (hch (u := { shade v bO 2 with heap := (shade v bO 2).heap.push (.cells #[.int .i64 (k : Nat)] 2 (0, 1)) }) (fun b o hb => by
      simp only [Array.getElem?_push]
      rw [if_neg (by have := (Array.getElem?_eq_some_iff.1 hb).1; omega)]; exact hb)) h.hn h.hl.2 h.hr.2 h.hs h.hz (h.work _) ⟨(shade v bO 2).heap.size, 0, none⟩ k (by
        unfold World.cell?
        simp)
    simpa using this
  · refine s_ghead up t1 _ h.hn.1 h.hn.2 hS ⟨?_, ?_, hch fun _ _ x => x⟩
    · rw [shade_cell (Ne.symm h.d1.2.1), cell_of c2]; rfl
    · rw [shade_cell (Ne.symm h.d1.2.2.2.2.1), cell_of c5]; rfl
end
end Go.Proofs.Ytneclhkpgalnlaa
