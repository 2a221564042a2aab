/-
  RULES IN MEMORY: a struct of a number, a slice of numbers and three numbers; slices of such structs, read and owned. Plain lemmas, no function of the program.
-/
import Derived.Test.YtmfglflahlddbaaLawI
import Derived.Test.YtmfglflahlddbaaFrame
namespace Go.Proofs.Ytmfglflahlddbaa
open Go.ChangeShapes Go.WideShapes Go.ChangeAt Go.RowKit
set_option linter.unusedVariables false

/-- what a rule says -/
structure Rl where
  hd : Int
  ifs : List Int
  fr : Int
  tt : Int
  rk : Int
/-- a rule with the slice that holds its conditions -/
structure Ru where
  hd : Int
  fr : Int
  tt : Int
  rk : Int
  A : Option Addr
  n : Nat
  c : Nat
  ifs : List Int
def Ru.dat (r : Ru) : Rl := ⟨r.hd, r.ifs, r.fr, r.tt, r.rk⟩
def Ru.V (r : Ru) : Value := .slice r.A r.n r.c
def Ru.cells (r : Ru) : List Value := [.int .i64 r.hd, .slice r.A r.n r.c, .int .i64 r.fr, .int .i64 r.tt, .int .i64 r.rk]
def flat (rs : List Ru) : List Value := rs.flatMap Ru.cells
theorem flat_nil : flat [] = [] := rfl
theorem flat_cons (r : Ru) (rs : List Ru) : flat (r :: rs) = r.cells ++ flat rs := by simp [flat]
theorem flat_append (a b : List Ru) : flat (a ++ b) = flat a ++ flat b := by simp [flat]
theorem cells_length (r : Ru) : r.cells.length = 5 := rfl
theorem flat_length (rs : List Ru) : (flat rs).length = rs.length * 5 := by
  induction rs with
  | nil => rfl
  | cons r rs ih => rw [flat_cons, List.length_append, ih, cells_length, List.length_cons]; omega
theorem flat_at {rs : List Ru} {k : Nat} {r : Ru} (h : rs[k]? = some r) (j : Nat) (hj : j < 5) : (flat rs)[k * 5 + j]? = r.cells[j]? := by
  induction rs generalizing k with
  | nil => simp at h
  | cons a rs ih =>
    rw [flat_cons]
    cases k with
    | zero =>
      simp at h; subst h
      rw [List.getElem?_append_left (by rw [cells_length]; omega)]
      congr 1; omega
    | succ k =>
      rw [List.getElem?_append_right (by rw [cells_length]; omega), cells_length]
      rw [show (k + 1) * 5 + j - 5 = k * 5 + j by omega]
      exact ih (by simpa using h)
theorem flat_cell1 (rs : List Ru) : ∀ u ∈ flat rs, u.oneCell' = true := by
  intro u hu
  simp only [flat, List.mem_flatMap] at hu
  obtain ⟨r, _, hr⟩ := hu
  simp only [Ru.cells, List.mem_cons, List.not_mem_nil, or_false] at hr
  rcases hr with rfl | rfl | rfl | rfl | rfl <;> rfl
theorem flat_set {rs : List Ru} {k : Nat} {r r' : Ru} {f : Nat} {u : Value} (h : rs[k]? = some r) (hf : f < 5) (hr : r'.cells = r.cells.set f u) : flat (rs.set k r') = (flat rs).set (k * 5 + f) u := by
  induction rs generalizing k with
  | nil => simp at h
  | cons a rs ih =>
    cases k with
    | zero =>
      simp at h; subst h
      rw [List.set_cons_zero, flat_cons, flat_cons, hr, List.set_append_left _ _ (by rw [cells_length]; omega)]
      congr 2; omega
    | succ k =>
      rw [List.set_cons_succ, flat_cons, flat_cons, List.set_append_right _ _ (by rw [cells_length]; omega), ih (by simpa using h), cells_length]
      congr 2; omega

/-- the address of a later field, as the walk spells it -/
theorem add_fld (ad : Addr) (k j : Nat) (hj : 0 < j) : ad.add (k + j) = { block := (ad.add k).block, off := (ad.add k).off + j } := by
  rw [← add_twice]
  have : j ≠ 0 := by omega
  simp [Addr.add, this]
/-- a slice of rules that can be read -/
def RRd (w : World) (B : Nat) (A : Option Addr) (m : Nat) (rs : List Ru) : Prop := Rd w B 5 A m (flat rs) ∧ ∀ r ∈ rs, Rd w B 1 r.A r.n (ints r.ifs)
section
variable {w w' : World} {B B' m : Nat} {A : Option Addr} {rs : List Ru}
theorem RRd.len (h : RRd w B A m rs) : rs.length = m := by have := h.1.1; rw [flat_length] at this; omega
theorem RRd.nil_ : RRd w B A 0 [] := ⟨⟨by simp [flat], fun h => absurd h (by omega)⟩, fun r hr => by cases hr⟩
theorem RRd.keep (h : RRd w B A m rs) (hk : ∀ p : Addr, p.block < B → w'.cell? p = w.cell? p) : RRd w' B A m rs := ⟨h.1.keep hk, fun r hr => (h.2 r hr).keep hk⟩
theorem RRd.more (h : RRd w B A m rs) (hB : B ≤ B') : RRd w B' A m rs := ⟨h.1.more hB, fun r hr => (h.2 r hr).more hB⟩
theorem RRd.below (h : RRd w B A m rs) (hb : Below B w w') : RRd w' B A m rs := h.keep fun _ hp => hb.cell hp
theorem RRd.on (h : RRd w w.heap.size A m rs) (hb : Below w.heap.size w w') : RRd w' w'.heap.size A m rs := (h.below hb).more hb.size
theorem RRd.row {k : Nat} (h : RRd w B A m rs) (hk : k < m) :
    ∃ (ad : Addr) (r : Ru), A = some ad ∧ ad.block < B ∧ rs[k]? = some r ∧ w.cell? (ad.add (k * 5)) = some (.int .i64 r.hd) ∧ w.cell? { block := (ad.add (k * 5)).block, off := (ad.add (k * 5)).off + 1 } = some (.slice r.A r.n r.c) ∧
      w.cell? { block := (ad.add (k * 5)).block, off := (ad.add (k * 5)).off + 2 } = some (.int .i64 r.fr) ∧ w.cell? { block := (ad.add (k * 5)).block, off := (ad.add (k * 5)).off + 3 } = some (.int .i64 r.tt) ∧
      w.cell? { block := (ad.add (k * 5)).block, off := (ad.add (k * 5)).off + 4 } = some (.int .i64 r.rk) ∧ Rd w B 1 r.A r.n (ints r.ifs) := by
  obtain ⟨ad, e, hb, hc⟩ := h.1.2 (by omega)
  have hl := h.len
  have hr : rs[k]? = some rs[k] := List.getElem?_eq_getElem (by omega)
  refine ⟨ad, rs[k], e, hb, hr, hc _ _ ((flat_at hr 0 (by omega)).trans rfl), ?_, ?_, ?_, ?_, h.2 _ (List.getElem_mem _)⟩
  · rw [← add_fld ad (k * 5) 1 (by omega)]; exact hc _ _ ((flat_at hr 1 (by omega)).trans rfl)
  · rw [← add_fld ad (k * 5) 2 (by omega)]; exact hc _ _ ((flat_at hr 2 (by omega)).trans rfl)
  · rw [← add_fld ad (k * 5) 3 (by omega)]; exact hc _ _ ((flat_at hr 3 (by omega)).trans rfl)
  · rw [← add_fld ad (k * 5) 4 (by omega)]; exact hc _ _ ((flat_at hr 4 (by omega)).trans rfl)
end

/-! ### only the blocks of a range have changed -/
structure Only (lo hi : Nat) (a b : World) : Prop where
  os : b.os = a.os
  tape : b.tape = a.tape
  output : b.output = a.output
  size : a.heap.size ≤ b.heap.size
  block : ∀ i, i < a.heap.size → ¬ (lo ≤ i ∧ i < hi) → b.heap[i]? = a.heap[i]?
section
variable {lo hi lo' hi' : Nat} {a b c : World}
theorem Only.refl (lo hi : Nat) (a : World) : Only lo hi a a := ⟨rfl, rfl, rfl, Nat.le_refl _, fun _ _ _ => rfl⟩
theorem Only.trans (h : Only lo hi a b) (k : Only lo hi b c) : Only lo hi a c :=
  ⟨k.os.trans h.os, k.tape.trans h.tape, k.output.trans h.output, Nat.le_trans h.size k.size, fun i hi hn => (k.block i (Nat.lt_of_lt_of_le hi h.size) hn).trans (h.block i hi hn)⟩
theorem Only.of_grown {row : Option Nat} (h : a.grownBy b row) (hr : ∀ g, row = some g → lo ≤ g ∧ g < hi) : Only lo hi a b :=
  ⟨h.os, h.tape, h.output, h.size, fun i hi hn => h.block i hi (fun e => hn (hr i e.symm))⟩
theorem Only.below {B : Nat} (h : Only lo hi a b) (hB : B ≤ lo) (hs : B ≤ a.heap.size) : Below B a b :=
  ⟨h.os, h.tape, h.output, h.size, fun k hk => h.block k (by omega) (by omega)⟩
theorem below_only {w a b : World} (hB : Below w.heap.size w a) (h : Only lo hi a b) (hl : w.heap.size ≤ lo) : Below w.heap.size w b := hB.trans (h.below hl hB.size)
end
/-- what is owned in another range stays -/
theorem own_only {w w' : World} {base lo hi h2 : Nat} {e : TypeId} {size n : Nat} {v : Value} {xs : List Value} (h : w.ownsRow base e size v n xs) (hv : ∀ g, v.ownBlock = some g → g < h2) (ho : Only lo hi w w') (hd : h2 ≤ lo ∨ hi ≤ base) : w'.ownsRow base e size v n xs := by
  refine ⟨h.1, ?_⟩
  rcases h.2 with hn | ⟨g, cap, cur, rfl, hg, hgg, rest⟩
  · exact .inl hn
  · refine .inr ⟨g, cap, cur, rfl, hg, ?_, rest⟩
    have := hv g rfl
    rw [ho.block g (Array.getElem?_eq_some_iff.1 hgg).1 (by omega)]
    exact hgg
/-- rows of different kinds lie in different blocks -/
theorem own_kinds {w : World} {b1 b2 : Nat} {e1 e2 : TypeId} {s1 s2 n1 n2 : Nat} {v1 v2 : Value} {x1 x2 : List Value} (h1 : w.ownsRow b1 e1 s1 v1 n1 x1) (h2 : w.ownsRow b2 e2 s2 v2 n2 x2) (hne : e1 ≠ e2) : v1.ownBlock = none ∨ v1.ownBlock ≠ v2.ownBlock := by
  rcases h1.2 with ⟨rfl, _⟩ | ⟨g, cap, cur, rfl, _, hg, _⟩
  · exact .inl rfl
  · right
    rcases h2.2 with ⟨rfl, _⟩ | ⟨g', cap', cur', rfl, _, hg', _⟩
    · simp [Value.ownBlock]
    · intro he
      have : g = g' := by simpa [Value.ownBlock] using he
      subst this
      rw [hg] at hg'
      injection hg' with hg'
      injection hg' with _ ht
      exact hne ht
abbrev tR : TypeId := 46
abbrev tI : TypeId := 2
def Apart (a b : Ru) : Prop := a.V.ownBlock = none ∨ a.V.ownBlock ≠ b.V.ownBlock
/-- a slice of rules of the call's own, each with conditions of its own -/
structure OwnRs (w : World) (lo : Nat) (v : Value) (m : Nat) (rs : List Ru) : Prop where
  outer : w.ownsRow lo tR 5 v m (flat rs)
  inner : ∀ r ∈ rs, w.ownsRow lo tI 1 r.V r.n (ints r.ifs)
  apart : ∀ (i j : Nat) (a b : Ru), rs[i]? = some a → rs[j]? = some b → i ≠ j → Apart a b
/-- all its blocks lie below a number -/
def InR (hi : Nat) (v : Value) (rs : List Ru) : Prop := (∀ g, v.ownBlock = some g → g < hi) ∧ ∀ r ∈ rs, ∀ g, r.V.ownBlock = some g → g < hi
section
variable {w w' : World} {lo hi lo' hi' m : Nat} {v : Value} {rs : List Ru}
theorem OwnRs.inR (h : OwnRs w lo v m rs) : InR w.heap.size v rs := ⟨fun g hg => (h.outer.lt g hg).2, fun r hr g hg => ((h.inner r hr).lt g hg).2⟩
theorem OwnRs.len (h : OwnRs w lo v m rs) : rs.length = m := by have := h.outer.1; rw [flat_length] at this; omega
theorem OwnRs.form (h : OwnRs w lo v m rs) : ∃ A c, v = .slice A m c := by obtain ⟨A, c, e, _⟩ := own_form h.outer; exact ⟨A, c, e⟩
theorem OwnRs.on (h : OwnRs w lo v m rs) (hb : Below w.heap.size w w') : OwnRs w' lo v m rs := ⟨own_on h.outer hb, fun r hr => own_on (h.inner r hr) hb, h.apart⟩
theorem OwnRs.base (h : OwnRs w lo v m rs) (hl : lo' ≤ lo) : OwnRs w lo' v m rs := ⟨own_base h.outer hl, fun r hr => own_base (h.inner r hr) hl, h.apart⟩
theorem OwnRs.only (h : OwnRs w lo v m rs) (hi' : InR hi v rs) {a b : Nat} (ho : Only a b w w') (hd : hi ≤ a ∨ b ≤ lo) : OwnRs w' lo v m rs :=
  ⟨own_only h.outer hi'.1 ho hd, fun r hr => own_only (h.inner r hr) (hi'.2 r hr) ho hd, h.apart⟩
theorem OwnRs.rrd {A : Option Addr} {c : Nat} (h : OwnRs w lo (.slice A m c) m rs) : RRd w w.heap.size A m rs := ⟨Rd.of_own h.outer, fun r hr => Rd.of_own (h.inner r hr)⟩
theorem OwnRs.nil_ : OwnRs w lo (.slice none 0 0) 0 [] := ⟨⟨by simp [flat], .inl ⟨rfl, rfl⟩⟩, fun r hr => (by cases hr), fun i j a b h => by simp at h⟩
theorem tR_ne_tI : tR ≠ tI := by decide
theorem mem_set {k : Nat} {r' a : Ru} (h : a ∈ rs.set k r') : a = r' ∨ a ∈ rs := by
  rcases List.mem_or_eq_of_mem_set h with h | h
  · exact .inr h
  · exact .inl h
theorem set_at {k i : Nat} {r r' a : Ru} (hr : rs[k]? = some r) (h : (rs.set k r')[i]? = some a) : (i = k ∧ a = r') ∨ (i ≠ k ∧ rs[i]? = some a) := by
  rw [List.getElem?_set] at h
  have hk : k < rs.length := (List.getElem?_eq_some_iff.1 hr).1
  by_cases e : k = i
  · subst e
    rw [if_pos rfl, if_pos hk] at h
    exact .inl ⟨rfl, (Option.some.inj h).symm⟩
  · rw [if_neg e] at h
    exact .inr ⟨fun x => e x.symm, h⟩
theorem apart_set {k : Nat} {r r' : Ru} (hr : rs[k]? = some r) (hv : r'.V = r.V) (h : ∀ (i j : Nat) (a b : Ru), rs[i]? = some a → rs[j]? = some b → i ≠ j → Apart a b) : ∀ (i j : Nat) (a b : Ru), (rs.set k r')[i]? = some a → (rs.set k r')[j]? = some b → i ≠ j → Apart a b := by
  intro i j a b ha hb hij
  unfold Apart at h ⊢
  rcases set_at hr ha with ⟨rfl, rfl⟩ | ⟨h1, h2⟩
  · rcases set_at hr hb with ⟨rfl, rfl⟩ | ⟨h3, h4⟩
    · exact absurd rfl hij
    · rw [hv]; exact h _ _ _ _ hr h4 hij
  · rcases set_at hr hb with ⟨rfl, rfl⟩ | ⟨h3, h4⟩
    · rw [hv]; exact h _ _ _ _ h2 hr hij
    · exact h _ _ _ _ h2 h4 hij
/-- a number is stored into a field -/
theorem OwnRs.store {g cap k f : Nat} {r r' : Ru} {u : Value} (h : OwnRs w lo (.slice (some ⟨g, 0, none⟩) m cap) m rs) (hr : rs[k]? = some r) (hf : f < 5) (hc : r'.cells = r.cells.set f u) (hv : r'.V = r.V) (hn : r'.n = r.n) (hi : r'.ifs = r.ifs) :
    OwnRs (w.setCell ⟨g, k * 5 + f, none⟩ u) lo (.slice (some ⟨g, 0, none⟩) m cap) m (rs.set k r') ∧ w.grownBy (w.setCell ⟨g, k * 5 + f, none⟩ u) (some g) := by
  obtain ⟨s1, s2⟩ := h.outer.stored (k * 5 + f) u
  refine ⟨⟨by rw [flat_set hr hf hc]; exact s1, fun a ha => ?_, apart_set hr hv h.apart⟩, s2⟩
  have key : ∀ b ∈ rs, (w.setCell ⟨g, k * 5 + f, none⟩ u).ownsRow lo tI 1 b.V b.n (ints b.ifs) := fun b hb =>
    World.ownsRow.kept (h.inner b hb) s2 (own_kinds (h.inner b hb) h.outer (Ne.symm tR_ne_tI))
  rcases mem_set ha with rfl | ha
  · rw [hv, hn, hi]; exact key r (List.mem_of_getElem? hr)
  · exact key a ha
/-- the conditions of one rule are overwritten -/
theorem OwnRs.write {k : Nat} {r r' : Ru} (h : OwnRs w lo v m rs) (hr : rs[k]? = some r) (hc : r'.cells = r.cells) (hv : r'.V = r.V) (hg : w.grownBy w' r.V.ownBlock) (ho : w'.ownsRow lo tI 1 r'.V r'.n (ints r'.ifs)) : OwnRs w' lo v m (rs.set k r') := by
  have hk : k < rs.length := (List.getElem?_eq_some_iff.1 hr).1
  have e : flat (rs.set k r') = flat rs := by
    have := flat_set (rs := rs) (k := k) (r := r) (r' := r') (f := 0) (u := .int .i64 r.hd) hr (by omega) (by rw [hc]; rfl)
    rw [this]
    refine List.ext_getElem? fun i => ?_
    rw [List.getElem?_set]
    by_cases hi : k * 5 + 0 = i
    · subst hi
      rw [if_pos rfl, if_pos (by rw [flat_length]; omega), flat_at hr 0 (by omega)]; rfl
    · rw [if_neg hi]
  refine ⟨by rw [e]; exact World.ownsRow.kept h.outer hg (own_kinds h.outer (h.inner r (List.mem_of_getElem? hr)) tR_ne_tI), fun a ha => ?_, apart_set hr hv h.apart⟩
  obtain ⟨i, hi⟩ := List.getElem?_of_mem ha
  rcases set_at hr hi with ⟨rfl, rfl⟩ | ⟨h1, h2⟩
  · exact ho
  · have hm := List.mem_of_getElem? h2
    exact World.ownsRow.kept (h.inner a hm) hg (h.apart i k a r h2 hr h1)
end
theorem info_rule : (Try.prog.info? tR).map (fun i => (i.zero, i.size, i.bytes)) = some (some (.agg #[.int .i64 0, .slice none 0 0, .int .i64 0, .int .i64 0, .int .i64 0]), 5, 56) := by kernel_rfl
end Go.Proofs.Ytmfglflahlddbaa
