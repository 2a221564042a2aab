/-
  A SIMULATION OF TREES. A solo run on the virtual side is followed on the real side under a renaming of blocks: values, objects, worlds.
  R b c: the virtual block b stands for the real block c. On the virtual side the nil pointer stands for whatever single value is there. A virtual cell that is frozen cannot be written: so freezing says what may be written at all.
-/
import Derived.Conc.Own
namespace Go.Proofs.Ytmfglflahlddbaa.Sm
open Go Go.Conc
set_option linter.unusedVariables false
set_option linter.unusedSimpArgs false

abbrev BR := Nat → Nat → Prop
def BR.ext (R : BR) (n n' : Nat) : BR := fun b c => R b c ∨ (b = n ∧ c = n')

def AR (R : BR) (a a' : Addr) : Prop := R a.block a'.block ∧ a'.off = a.off ∧ a'.spot = none ∧ a.spot = none

theorem AR.add {R : BR} {a a' : Addr} (h : AR R a a') (n : Nat) : AR R (a.add n) (a'.add n) := by
  obtain ⟨h1, h2, h3, h4⟩ := h
  unfold Addr.add
  by_cases hn : n = 0
  · simp only [hn, if_true]; exact ⟨h1, h2, h3, h4⟩
  · simp only [hn, if_false]
    exact ⟨h1, by simp only [h2], rfl, rfl⟩

/-- A single value, no bool. -/
def Lump (v' : Value) : Prop := (∀ cs, v' ≠ .agg cs) ∧ (∀ cs, v' ≠ .tuple cs) ∧ ∀ b, v' ≠ .bool b

inductive VR (F : FuncId → Prop) (R : BR) : Value → Value → Prop
  | bot {v' : Value} (h : Lump v') : VR F R (.pointer none) v'
  | bool (b : Bool) : VR F R (.bool b) (.bool b)
  | int (k : IntKind) (n : Int) : VR F R (.int k n) (.int k n)
  | pointer {a a' : Addr} (h : AR R a a') : VR F R (.pointer (some a)) (.pointer (some a'))
  | sliceNone (l c : Nat) : VR F R (.slice none l c) (.slice none l c)
  | sliceZero (a' : Addr) : VR F R (.slice none 0 0) (.slice (some a') 0 0)
  | slice {a a' : Addr} (h : AR R a a') (l c : Nat) : VR F R (.slice (some a) l c) (.slice (some a') l c)
  | mapNone : VR F R (.map none) (.map none)
  | map {r r' : Nat} (h : R r r') : VR F R (.map (some r)) (.map (some r'))
  | chanNone : VR F R (.chan none) (.chan none)
  | chan {r r' : Nat} (h : R r r') : VR F R (.chan (some r)) (.chan (some r'))
  | func {f : FuncId} (hf : F f) {p p' c c' : Array Value} (hp : p.size = p'.size) (hc : c.size = c'.size)
      (ip : ∀ i (h1 : i < p.size) (h2 : i < p'.size), VR F R p[i] p'[i]) (ic : ∀ i (h1 : i < c.size) (h2 : i < c'.size), VR F R c[i] c'[i]) : VR F R (.func (.func f) p c) (.func (.func f) p' c')
  | agg {c c' : Array Value} (hs : c.size = c'.size) (h : ∀ i (h1 : i < c.size) (h2 : i < c'.size), VR F R c[i] c'[i]) : VR F R (.agg c) (.agg c')
  | tuple {c c' : Array Value} (hs : c.size = c'.size) (h : ∀ i (h1 : i < c.size) (h2 : i < c'.size), VR F R c[i] c'[i]) : VR F R (.tuple c) (.tuple c')

def AVR (F : FuncId → Prop) (R : BR) (c c' : Array Value) : Prop := c.size = c'.size ∧ ∀ i (h1 : i < c.size) (h2 : i < c'.size), VR F R c[i] c'[i]

section
variable {F : FuncId → Prop} {R R' : BR}

theorem AR.mono (h : ∀ b c, R b c → R' b c) {a a' : Addr} (x : AR R a a') : AR R' a a' := ⟨h _ _ x.1, x.2⟩

theorem VR.mono (h : ∀ b c, R b c → R' b c) {v v' : Value} (x : VR F R v v') : VR F R' v v' := by
  induction x with
  | bot h' => exact .bot h'
  | bool b => exact .bool b
  | int k n => exact .int k n
  | pointer x => exact .pointer (x.mono h)
  | sliceNone l c => exact .sliceNone l c
  | sliceZero a' => exact .sliceZero a'
  | slice x l c => exact .slice (x.mono h) l c
  | mapNone => exact .mapNone
  | map x => exact .map (h _ _ x)
  | chanNone => exact .chanNone
  | chan x => exact .chan (h _ _ x)
  | func hf hp hc _ _ ip ic => exact .func hf hp hc ip ic
  | agg hs _ ih => exact .agg hs ih
  | tuple hs _ ih => exact .tuple hs ih

theorem AVR.mono (h : ∀ b c, R b c → R' b c) {c c' : Array Value} (x : AVR F R c c') : AVR F R' c c' := ⟨x.1, fun i h1 h2 => (x.2 i h1 h2).mono h⟩

theorem VR.aggOf {c c' : Array Value} (x : AVR F R c c') : VR F R (.agg c) (.agg c') := .agg x.1 x.2
theorem VR.tupleOf {c c' : Array Value} (x : AVR F R c c') : VR F R (.tuple c) (.tuple c') := .tuple x.1 x.2

theorem VR.undef : VR F R (.tuple #[]) (.tuple #[]) := .tuple rfl fun i h1 _ => by simp at h1
theorem AVR.nil : AVR F R #[] #[] := ⟨rfl, fun i h1 _ => by simp at h1⟩
theorem AVR.one {v v' : Value} (h : VR F R v v') : AVR F R #[v] #[v'] := ⟨rfl, fun i h1 h2 => by simp at h1; subst h1; exact h⟩
theorem AVR.get {c c' : Array Value} (x : AVR F R c c') {i : Nat} {v : Value} (h : c[i]? = some v) : ∃ v', c'[i]? = some v' ∧ VR F R v v' := by
  obtain ⟨hi, rfl⟩ := Array.getElem?_eq_some_iff.1 h
  have hi' : i < c'.size := x.1 ▸ hi
  exact ⟨c'[i], by simp [hi'], x.2 i hi hi'⟩
theorem AVR.none {c c' : Array Value} (x : AVR F R c c') {i : Nat} (h : c[i]? = none) : c'[i]? = none := by
  simp only [Array.getElem?_eq_none_iff] at h ⊢
  have := x.1; omega
theorem AVR.of_get {c c' : Array Value} (hs : c.size = c'.size) (h : ∀ (i : Nat) v, c[i]? = some v → ∃ v', c'[i]? = some v' ∧ VR F R v v') : AVR F R c c' := by
  refine ⟨hs, fun i h1 h2 => ?_⟩
  obtain ⟨v', h3, h4⟩ := h i c[i] (by simp [h1])
  obtain ⟨_, rfl⟩ := Array.getElem?_eq_some_iff.1 h3
  exact h4
theorem AVR.getD {c c' : Array Value} (x : AVR F R c c') (i : Nat) : VR F R (c.getD i undef) (c'.getD i undef) := by
  cases h : c[i]? with
  | none => have h' := x.none h; rw [Array.getD_eq_getD_getElem?, Array.getD_eq_getD_getElem?, h, h']; exact VR.undef
  | some v =>
    obtain ⟨v', h1, h2⟩ := x.get h
    rw [Array.getD_eq_getD_getElem?, Array.getD_eq_getD_getElem?, h, h1]; exact h2
theorem AVR.push {c c' : Array Value} (x : AVR F R c c') {v v' : Value} (h : VR F R v v') : AVR F R (c.push v) (c'.push v') := by
  refine .of_get (by simp [x.1]) fun i u hu => ?_
  rw [Array.getElem?_push] at hu ⊢
  rw [← x.1]
  split at hu
  · simp only [Option.some.injEq] at hu; subst hu
    exact ⟨v', by simp [*], h⟩
  · rename_i hne
    simp only [hne, if_false]
    exact x.get hu
theorem AVR.append {c c' e e' : Array Value} (x : AVR F R c c') (y : AVR F R e e') : AVR F R (c ++ e) (c' ++ e') := by
  refine .of_get (by simp [x.1, y.1]) fun i u hu => ?_
  rw [Array.getElem?_append] at hu ⊢
  rw [← x.1]
  split at hu
  · simp only [*, if_true]; exact x.get hu
  · rename_i hne
    simp only [hne, if_false]
    exact y.get hu
theorem AVR.set {c c' : Array Value} (x : AVR F R c c') (i : Nat) {v v' : Value} (h : VR F R v v') : AVR F R (c.setIfInBounds i v) (c'.setIfInBounds i v') := by
  refine .of_get (by simp [x.1]) fun j u hu => ?_
  rw [Array.getElem?_setIfInBounds] at hu ⊢
  rw [← x.1]
  split at hu
  · rename_i hij
    simp only [hij, if_true] at hu ⊢
    split at hu
    · simp only [Option.some.injEq] at hu; subst hu; exact ⟨v', by simp [*], h⟩
    · cases hu
  · rename_i hne
    simp only [hne, if_false]
    exact x.get hu
theorem AVR.replicate (n : Nat) {v v' : Value} (h : VR F R v v') : AVR F R (Array.replicate n v) (Array.replicate n v') :=
  ⟨by simp, fun i h1 h2 => by simp; exact h⟩
theorem AVR.extract {c c' : Array Value} (x : AVR F R c c') (i j : Nat) : AVR F R (c.extract i j) (c'.extract i j) := by
  refine .of_get (by simp [x.1]) fun k u hu => ?_
  rw [Array.getElem?_extract] at hu ⊢
  rw [← x.1]
  split at hu
  · simp only [*, if_true]; exact x.get hu
  · cases hu
theorem AVR.map {α : Type} (xs : Array α) {f g : α → Value} (h : ∀ x ∈ xs, VR F R (f x) (g x)) : AVR F R (xs.map f) (xs.map g) :=
  ⟨by simp, fun i h1 h2 => by simp only [Array.getElem_map]; exact h _ (Array.getElem_mem _)⟩

/-- The cells of a value. -/
theorem VR.cells {v v' : Value} (h : VR F R v v') : AVR F R v.cells v'.cells := by
  have one : ∀ {v v' : Value}, VR F R v v' → (∀ cs, v ≠ .agg cs) → (∀ cs, v' ≠ .agg cs) → AVR F R v.cells v'.cells := by
    intro v v' h h1 h2
    have e1 : v.cells = #[v] := by unfold Value.cells; split <;> simp_all
    have e2 : v'.cells = #[v'] := by unfold Value.cells; split <;> simp_all
    rw [e1, e2]; exact .one h
  cases h with
  | bot h' => exact one (.bot h') (by simp) h'.1
  | agg hs h => exact ⟨hs, h⟩
  | bool b => exact one (.bool b) (by simp) (by simp)
  | int k n => exact one (.int k n) (by simp) (by simp)
  | pointer x => exact one (.pointer x) (by simp) (by simp)
  | sliceNone l c => exact one (.sliceNone l c) (by simp) (by simp)
  | sliceZero a' => exact one (.sliceZero a') (by simp) (by simp)
  | slice x l c => exact one (.slice x l c) (by simp) (by simp)
  | mapNone => exact one .mapNone (by simp) (by simp)
  | map x => exact one (.map x) (by simp) (by simp)
  | chanNone => exact one .chanNone (by simp) (by simp)
  | chan x => exact one (.chan x) (by simp) (by simp)
  | func hf hp hc ip ic => exact one (.func hf hp hc ip ic) (by simp) (by simp)
  | tuple hs h => exact one (.tuple hs h) (by simp) (by simp)
end

/-! ### objects, worlds -/
def inFz (fz : Nat × Nat) (j : Nat) : Prop := fz.1 ≤ j ∧ j < fz.2

inductive OR (F : FuncId → Prop) (R : BR) : Obj → Obj → Prop
  | cells {c c' : Array Value} {el : TypeId} {fz fz' : Nat × Nat} (h : ∀ (j : Nat) v, c[j]? = some v → ∃ v', c'[j]? = some v' ∧ VR F R v v')
      (hf : ∀ j, j < c.size → ¬ inFz fz j → ¬ inFz fz' j) : OR F R (.cells c el fz) (.cells c' el fz')
  | map {es es' : Array MapEntry} {clock : Nat} (hs : es.size = es'.size)
      (h : ∀ i (h1 : i < es.size) (h2 : i < es'.size), VR F R es[i].key es'[i].key ∧ VR F R es[i].val es'[i].val ∧ es'[i].born = es[i].born) : OR F R (.map es clock) (.map es' clock)
  | chan (s s' : Nat) (tm : Bool) : OR F R (.chan 0 #[] false s s tm) (.chan 0 #[] false s' s' tm)
  | number {a a' : Addr} (h : AR R a a') (lost : Bool) : OR F R (.number a lost) (.number a' lost)

theorem OR.mono {F : FuncId → Prop} {R R' : BR} (h : ∀ b c, R b c → R' b c) {o o' : Obj} (x : OR F R o o') : OR F R' o o' := by
  cases x with
  | cells h1 hf => exact .cells (fun j v hj => let ⟨v', a, b⟩ := h1 j v hj; ⟨v', a, b.mono h⟩) hf
  | map hs h1 => exact .map hs fun i a b => let ⟨x, y, z⟩ := h1 i a b; ⟨x.mono h, y.mono h, z⟩
  | chan s s' tm => exact .chan s s' tm
  | number x lost => exact .number (x.mono h) lost

theorem OR.le {F : FuncId → Prop} {R : BR} {c c' : Array Value} {el el' : TypeId} {fz fz' : Nat × Nat} (x : OR F R (.cells c el fz) (.cells c' el' fz')) : c.size ≤ c'.size := by
  cases x with
  | cells h hf =>
    rcases Nat.eq_zero_or_pos c.size with e | e
    · omega
    · obtain ⟨v', h1, _⟩ := h (c.size - 1) c[c.size - 1] (by simp)
      have := (Array.getElem?_eq_some_iff.1 h1).1
      omega

def IsCells : Obj → Prop
  | .cells .. => True
  | _ => False

def IsMap : Obj → Prop
  | .map .. => True
  | _ => False
theorem IsMap.not {o : Obj} (h : IsMap o) : ¬ IsCells o := by cases o <;> first | exact h.elim | simp [IsCells]

/-- The cell is there, and may be written. -/
def Un (w : World) (b j : Nat) : Prop := ∃ c el fz, w.heap[b]? = some (.cells c el fz) ∧ j < c.size ∧ ¬ inFz fz j
def Cl (w : World) (b j : Nat) : Prop := ∃ c el fz, w.heap[b]? = some (.cells c el fz) ∧ j < c.size
/-- A row all of whose cells are frozen. -/
def RO (w : World) (b : Nat) : Prop := ∃ c el fz, w.heap[b]? = some (.cells c el fz) ∧ ∀ j, j < c.size → inFz fz j

structure WR (F : FuncId → Prop) (R : BR) (w w' : World) : Prop where
  obj : ∀ b c, R b c → ∃ o o', w.heap[b]? = some o ∧ w'.heap[c]? = some o' ∧ OR F R o o'
  fn : ∀ b c c', R b c → R b c' → c' = c
  inj : ∀ b b' c, R b c → R b' c → b = b'

/-- What the virtual side keeps. -/
structure KeepV (w w1 : World) : Prop where
  size : w.heap.size ≤ w1.heap.size
  cells : ∀ (b : Nat) c el fz, w.heap[b]? = some (.cells c el fz) → ∃ c1, w1.heap[b]? = some (.cells c1 el fz) ∧ c1.size = c.size ∧ ∀ j : Nat, inFz fz j → c1[j]? = c[j]?
  non : ∀ (b : Nat) o, w.heap[b]? = some o → ¬ IsCells o → ∃ o1, w1.heap[b]? = some o1 ∧ ¬ IsCells o1 ∧ (o1 = o ∨ IsMap o1)

theorem KeepV.refl (w : World) : KeepV w w := ⟨Nat.le_refl _, fun b c el fz h => ⟨c, h, rfl, fun _ _ => rfl⟩, fun b o h n => ⟨o, h, n, .inl rfl⟩⟩
theorem KeepV.trans {w w1 w2 : World} (h : KeepV w w1) (k : KeepV w1 w2) : KeepV w w2 := by
  refine ⟨Nat.le_trans h.size k.size, fun b c el fz hb => ?_, fun b o hb n => ?_⟩
  · obtain ⟨c1, a1, a2, a3⟩ := h.cells b c el fz hb
    obtain ⟨c2, b1, b2, b3⟩ := k.cells b c1 el fz a1
    exact ⟨c2, b1, b2.trans a2, fun j hj => (b3 j hj).trans (a3 j hj)⟩
  · obtain ⟨o1, a1, a2, a3⟩ := h.non b o hb n
    obtain ⟨o2, b1, b2, b3⟩ := k.non b o1 a1 a2
    refine ⟨o2, b1, b2, ?_⟩
    rcases b3 with rfl | b3
    · exact a3
    · exact .inr b3
theorem KeepV.map {w w1 : World} (h : KeepV w w1) {b : Nat} {o : Obj} (hb : w.heap[b]? = some o) (hm : IsMap o) : ∃ o1, w1.heap[b]? = some o1 ∧ IsMap o1 := by
  obtain ⟨o1, a1, _, a3⟩ := h.non b o hb hm.not
  refine ⟨o1, a1, ?_⟩
  rcases a3 with rfl | a3
  · exact hm
  · exact a3
theorem KeepV.un {w w1 : World} (h : KeepV w w1) {b j : Nat} (hu : Un w b j) : Un w1 b j := by
  obtain ⟨c, el, fz, h1, h2, h3⟩ := hu
  obtain ⟨c1, a1, a2, _⟩ := h.cells b c el fz h1
  exact ⟨c1, el, fz, a1, a2 ▸ h2, h3⟩
theorem KeepV.cl {w w1 : World} (h : KeepV w w1) {b j : Nat} (hu : Cl w b j) : Cl w1 b j := by
  obtain ⟨c, el, fz, h1, h2⟩ := hu
  obtain ⟨c1, a1, a2, _⟩ := h.cells b c el fz h1
  exact ⟨c1, el, fz, a1, a2 ▸ h2⟩
theorem KeepV.ro {w w1 : World} (h : KeepV w w1) {b : Nat} (hu : RO w b) : RO w1 b := by
  obtain ⟨c, el, fz, h1, h2⟩ := hu
  obtain ⟨c1, a1, a2, _⟩ := h.cells b c el fz h1
  exact ⟨c1, el, fz, a1, fun j hj => h2 j (a2 ▸ hj)⟩
theorem KeepV.un_old {w w1 : World} (h : KeepV w w1) {b j : Nat} (hb : b < w.heap.size) (hu : Un w1 b j) : Un w b j := by
  obtain ⟨c1, el, fz, h1, h2, h3⟩ := hu
  have hw : w.heap[b]? = some w.heap[b] := by simp [hb]
  cases ho : w.heap[b] with
  | cells c el' fz' =>
    rw [ho] at hw
    obtain ⟨c2, a1, a2, _⟩ := h.cells b c el' fz' hw
    rw [h1] at a1
    obtain ⟨rfl, rfl, rfl⟩ : c1 = c2 ∧ el = el' ∧ fz = fz' := by simpa using a1
    exact ⟨c, el, fz, hw, a2 ▸ h2, h3⟩
  | _ =>
    obtain ⟨o1, a1, a2, _⟩ := h.non b _ hw (by rw [ho]; simp [IsCells])
    rw [h1] at a1
    simp only [Option.some.injEq] at a1
    subst a1
    exact absurd trivial a2

/-- What the real side keeps. -/
structure KeepR (R : BR) (w w' w1' : World) : Prop where
  size : w'.heap.size ≤ w1'.heap.size
  off : ∀ c, c < w'.heap.size → (∀ b, ¬ R b c) → w1'.heap[c]? = w'.heap[c]?
  cells : ∀ (c : Nat) x el fz, w'.heap[c]? = some (.cells x el fz) → ∃ x1, w1'.heap[c]? = some (.cells x1 el fz) ∧ x1.size = x.size ∧
    ∀ off : Nat, x1[off]? = x[off]? ∨ ∃ b, R b c ∧ Un w b off

/-- What the real side lists. -/
def EvR (R : BR) (w : World) (e : Event) : Prop :=
  (∃ a b, e.loc = .cell a ∧ a.spot = none ∧ R b a.block ∧ Cl w b a.off ∧ (e.write = true → Un w b a.off)) ∨
  (∃ b c, e.loc = .obj c ∧ R b c ∧ (∃ o, w.heap[b]? = some o ∧ ¬ IsCells o ∧ (e.write = true → IsMap o))) ∨ (e.loc = .mark .noRoom ∧ e.write = false ∧ e.sync = true)

theorem EvR.mono {R R1 : BR} {w w1 : World} (h : ∀ b c, R b c → R1 b c) (k : KeepV w w1) {e : Event} (x : EvR R w e) : EvR R1 w1 e := by
  rcases x with ⟨a, b, h1, h2, h3, h5, h6⟩ | ⟨b, c, h1, h2, o, h3, h4, h5⟩ | x
  · exact .inl ⟨a, b, h1, h2, h _ _ h3, k.cl h5, fun hw => k.un (h6 hw)⟩
  · obtain ⟨o1, a1, a2, a3⟩ := k.non b o h3 h4
    refine .inr (.inl ⟨b, c, h1, h _ _ h2, o1, a1, a2, fun hw => ?_⟩)
    rcases a3 with rfl | a3
    · exact h5 hw
    · exact a3
  · exact .inr (.inr x)

/-- ONE STRETCH on both sides. -/
structure Stretch (F : FuncId → Prop) (R R1 : BR) (w w1 w' w1' : World) (es : Array Event) : Prop where
  ext : ∀ b c, R b c → R1 b c
  new : ∀ b c, R1 b c → R b c ∨ (w.heap.size ≤ b ∧ w'.heap.size ≤ c)
  wr : WR F R1 w1 w1'
  le : w.drawn ≤ w1.drawn
  count : w1'.drawn + w.drawn = w1.drawn + w'.drawn
  tape : w1.tape = w.tape
  tape' : w1'.tape = w'.tape
  os' : w1'.os = w'.os
  out' : w1'.output = w'.output
  keepV : KeepV w w1
  keepR : KeepR R w w' w1'
  evs : ∀ e ∈ es, EvR R1 w1 e
  obj : ∀ b c o', R b c → w'.heap[c]? = some o' → ¬ IsCells o' → w1'.heap[c]? = some o' ∨ ∃ o1, w1.heap[b]? = some o1 ∧ IsMap o1

theorem WR.lt {F : FuncId → Prop} {R : BR} {w w' : World} (h : WR F R w w') {b c : Nat} (x : R b c) : b < w.heap.size ∧ c < w'.heap.size := by
  obtain ⟨o, o', h1, h2, _⟩ := h.obj b c x
  exact ⟨(Array.getElem?_eq_some_iff.1 h1).1, (Array.getElem?_eq_some_iff.1 h2).1⟩

theorem Stretch.refl {F : FuncId → Prop} {R : BR} {w w' : World} (h : WR F R w w') : Stretch F R R w w w' w' #[] :=
  ⟨fun _ _ x => x, fun _ _ x => .inl x, h, Nat.le_refl _, by omega, rfl, rfl, rfl, rfl, .refl w, ⟨Nat.le_refl _, fun _ _ _ => rfl, fun c x el fz hx => ⟨x, hx, rfl, fun _ => .inl rfl⟩⟩, by simp, fun _ _ _ _ h _ => .inl h⟩

theorem Stretch.trans {F : FuncId → Prop} {R R1 R2 : BR} {w w1 w2 w' w1' w2' : World} {es es2 : Array Event} (h0 : WR F R w w') (h : Stretch F R R1 w w1 w' w1' es) (k : Stretch F R1 R2 w1 w2 w1' w2' es2) : Stretch F R R2 w w2 w' w2' (es ++ es2) where
  ext b c x := k.ext _ _ (h.ext _ _ x)
  new b c x := by
    rcases k.new _ _ x with x | ⟨x, y⟩
    · exact h.new _ _ x
    · exact .inr ⟨Nat.le_trans h.keepV.size x, Nat.le_trans h.keepR.size y⟩
  wr := k.wr
  le := Nat.le_trans h.le k.le
  count := by have := h.count; have := k.count; omega
  tape := k.tape.trans h.tape
  tape' := k.tape'.trans h.tape'
  os' := k.os'.trans h.os'
  out' := k.out'.trans h.out'
  keepV := h.keepV.trans k.keepV
  keepR := by
    refine ⟨Nat.le_trans h.keepR.size k.keepR.size, fun c hc hn => ?_, fun c x el fz hx => ?_⟩
    · have h1 := h.keepR.off c hc hn
      have h2 := k.keepR.off c (Nat.lt_of_lt_of_le hc h.keepR.size) fun b hb => by
        rcases h.new _ _ hb with x | ⟨_, y⟩
        · exact hn _ x
        · omega
      exact h2.trans h1
    · obtain ⟨x1, a1, a2, a3⟩ := h.keepR.cells c x el fz hx
      obtain ⟨x2, b1, b2, b3⟩ := k.keepR.cells c x1 el fz a1
      refine ⟨x2, b1, b2.trans a2, fun off => ?_⟩
      rcases b3 off with e | ⟨b, hb, hu⟩
      · rcases a3 off with e' | y
        · exact .inl (e.trans e')
        · exact .inr y
      · have hc : c < w'.heap.size := (Array.getElem?_eq_some_iff.1 hx).1
        rcases h.new _ _ hb with x | ⟨_, y⟩
        · exact .inr ⟨b, x, h.keepV.un_old (h0.lt x).1 hu⟩
        · omega
  evs e he := by
    rcases Array.mem_append.1 he with he | he
    · exact (h.evs e he).mono k.ext k.keepV
    · exact k.evs e he
  obj b c o' x ho hn := by
    rcases h.obj b c o' x ho hn with e | ⟨o1, e, hm⟩
    · exact k.obj b c o' (h.ext _ _ x) e hn
    · exact .inr (k.keepV.map e hm)

end Go.Proofs.Ytmfglflahlddbaa.Sm
