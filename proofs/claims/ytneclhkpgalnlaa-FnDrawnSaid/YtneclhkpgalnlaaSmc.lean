/-
  A SIMULATION OF TREES: the operations.
-/
import Derived.Test.YtneclhkpgalnlaaSmb
import Derived.Calls
namespace Go.Proofs.Ytneclhkpgalnlaa.Sm
open Go Go.Conc
set_option linter.unusedVariables false
set_option linter.unusedSimpArgs false

/-- No address in it. -/
def plainB : Nat → Value → Bool
  | 0, _ => false
  | n + 1, v => match v with
    | .bool _ | .int _ _ | .pointer none | .slice none _ _ | .map none | .chan none => true
    | .agg cs | .tuple cs => cs.all (plainB n)
    | _ => false

theorem plain_VR {F : FuncId → Prop} {R : BR} : ∀ (n : Nat) (v : Value), plainB n v = true → VR F R v v := by
  intro n
  induction n with
  | zero => intro v h; cases h
  | succ n ih =>
    intro v h
    unfold plainB at h
    split at h
    · exact .bool _
    · exact .int _ _
    · exact .bot ⟨by simp, by simp, by simp⟩
    · exact .sliceNone _ _
    · exact .mapNone
    · exact .chanNone
    · exact .agg rfl fun i h1 h2 => ih _ (by have := Array.all_eq_true.1 h i h1; exact this)
    · exact .tuple rfl fun i h1 h2 => ih _ (by have := Array.all_eq_true.1 h i h1; exact this)
    · cases h

/-- What an operation yields. -/
inductive NR (F : FuncId → Prop) (R : BR) : Next → Next → Prop
  | value {v v' : Value} (h : VR F R v v') : NR F R (.value v) (.value v')
  | skip : NR F R .skip .skip
  | enter {f : FuncId} {as as' : Array Value} (hf : F f) (h : AVR F R as as') : NR F R (.enter f as) (.enter f as')

section
variable {P : Program} {F : FuncId → Prop} {R : BR}

theorem sr_pure {α β : Type} {A : BR → α → β → Prop} {a : α} {a' : β} (h : A R a a') : SR P F A R (pure a) (pure a') := .pure h
theorem dead_halt {α : Type} {h : Halt} (ho : okHalt h) : Dead P (.halt h : Sem α) := fun w => ⟨h, w, rfl, ho⟩
theorem dead_stuck {α : Type} (why : String) : Dead P (stuck why : Sem α) := dead_halt trivial
theorem Dead.bind {α β : Type} {s : Sem α} (h : Dead P s) (k : α → Sem β) : Dead P (s >>= k) := fun w => by
  obtain ⟨x, w1, e, ho⟩ := h w
  exact ⟨x, w1, by rw [Sem.run_bind, e]; rfl, ho⟩
theorem sr_stuck {α β : Type} {A : BR → α → β → Prop} (why : String) (s' : Sem β) : SR P F A R (stuck why) s' := .dead (dead_stuck why)
theorem sr_stuckb {α β γ : Type} {A : BR → α → β → Prop} (why : String) (k : γ → Sem α) (s' : Sem β) : SR P F A R (stuck why >>= k) s' := .dead ((dead_stuck why).bind k)
theorem sr_unsup {α β : Type} {A : BR → α → β → Prop} {u : Unsupported} (h : okHalt (.unsupported u)) (s' : Sem β) : SR P F A R (unsupported u) s' := .dead (dead_halt h)
theorem sr_unsupb {α β γ : Type} {A : BR → α → β → Prop} {u : Unsupported} (h : okHalt (.unsupported u)) (k : γ → Sem α) (s' : Sem β) : SR P F A R (unsupported u >>= k) s' := .dead ((dead_halt h).bind k)

theorem sr_bind {α α' β β' : Type} (A : BR → α → α' → Prop) {B : BR → β → β' → Prop} {s : Sem α} {s' : Sem α'} (h : SR P F A R s s') {k : α → Sem β} {k' : α' → Sem β'}
    (hk : ∀ R1, (∀ b c, R b c → R1 b c) → ∀ a a', A R1 a a' → SR P F B R1 (k a) (k' a')) : SR P F B R (s >>= k) (s' >>= k') := h.bind hk

def EqR {α : Type} : BR → α → α → Prop := fun _ a a' => a' = a

theorem sr_program {β β' : Type} {B : BR → β → β' → Prop} {k : Program → Sem β} {k' : Program → Sem β'} (h : SR P F B R (k P) (k' P)) : SR P F B R (program >>= k) (program >>= k') := SR.program h

theorem sr_typeInfo (t : TypeId) : SR P F (fun _ a a' => a' = a ∧ P.info? t = some a) R (typeInfo t) (typeInfo t) := by
  unfold typeInfo
  refine sr_program ?_
  cases h : P.info? t with
  | none => exact sr_stuck _ _
  | some i => exact sr_pure ⟨rfl, rfl⟩
theorem sr_underlying (t : TypeId) : SR P F (fun _ a a' => a' = a ∧ P.underlying t = some a) R (underlying t) (underlying t) := by
  unfold underlying
  refine sr_program ?_
  cases h : P.underlying t with
  | none => exact sr_stuck _ _
  | some i => exact sr_pure ⟨rfl, rfl⟩
theorem sr_sizeOf (t : TypeId) : SR P F (fun _ a a' => a' = a ∧ ∃ i, P.info? t = some i ∧ a = i.size) R (sizeOf t) (sizeOf t) := by
  unfold sizeOf
  refine sr_bind _ (sr_typeInfo t) fun R1 _ a a' ⟨h1, h2⟩ => ?_
  subst h1
  exact sr_pure ⟨rfl, a', h2, rfl⟩
/-- The zero value of this type holds no address. -/
def zeroOk (P : Program) (t : TypeId) : Bool := match P.info? t with
  | some i => match i.zero with
    | some v => plainB 64 v
    | none => true
  | none => true
theorem sr_zeroValue (t : TypeId) (hz : zeroOk P t = true) : SR P F (fun R a a' => a' = a ∧ VR F R a a') R (zeroValue t) (zeroValue t) := by
  unfold zeroValue
  refine sr_bind _ (sr_typeInfo t) fun R1 _ a a' ⟨h1, h2⟩ => ?_
  subst h1
  unfold zeroOk at hz
  rw [h2] at hz
  cases h : a'.zero with
  | none => exact sr_unsup (by trivial) _
  | some v =>
    simp only [h] at hz
    exact sr_pure ⟨rfl, plain_VR _ _ hz⟩
theorem sr_isAgg (t : TypeId) : SR P F EqR R (isAgg t) (isAgg t) := by
  unfold isAgg
  refine sr_bind _ (sr_underlying t) fun R1 _ a a' ⟨h1, h2⟩ => ?_
  subst h1
  split <;> exact sr_pure rfl

theorem sr_asIntOf {v v' : Value} (h : VR F R v v') : SR P F EqR R (asIntOf v) (asIntOf v') := by
  cases h <;> first | exact sr_pure rfl | exact sr_stuck _ _ | exact sr_unsup (by trivial) _
theorem sr_asInt {v v' : Value} (h : VR F R v v') : SR P F EqR R (asInt v) (asInt v') := by
  unfold asInt
  refine sr_bind _ (sr_asIntOf h) fun R1 _ a a' h1 => ?_
  cases h1
  exact sr_pure rfl
theorem sr_asBool {v v' : Value} (h : VR F R v v') : SR P F EqR R (asBool v) (asBool v') := by
  cases h <;> first | exact sr_pure rfl | exact sr_stuck _ _
theorem sr_sureAddr {v v' : Value} (h : VR F R v v') : SR P F (fun R a a' => AR R a a') R (Instr.sureAddr v) (Instr.sureAddr v') := by
  cases h <;> first | (rename_i h; exact sr_pure h) | exact sr_stuck _ _

theorem sr_load {a a' : Addr} (h : AR R a a') : SR P F (VR F) R (load a) (load a') := .load h fun v v' hv => .pure hv
theorem sr_loadCellsFrom {a a' : Addr} : ∀ (n i : Nat) {R : BR} (acc acc' : Array Value), AR R a a' → AVR F R acc acc' → SR P F (AVR F) R (loadCellsFrom a i n acc) (loadCellsFrom a' i n acc') := by
  intro n
  induction n with
  | zero => intro i R acc acc' ha h; exact sr_pure h
  | succ n ih =>
    intro i R acc acc' ha h
    unfold loadCellsFrom
    refine sr_bind _ (sr_load (ha.add i)) fun R1 h1 v v' hv => ?_
    exact ih (i + 1) _ _ (ha.mono h1) ((h.mono h1).push hv)
theorem sr_loadCells {a a' : Addr} (n : Nat) (h : AR R a a') : SR P F (AVR F) R (loadCells a n) (loadCells a' n) := sr_loadCellsFrom n 0 _ _ h .nil
theorem sr_loadVar (t : TypeId) {a a' : Addr} (h : AR R a a') : SR P F (VR F) R (loadVar t a) (loadVar t a') := by
  unfold loadVar
  refine sr_bind _ (sr_isAgg t) fun R1 h1 x x' e => ?_
  cases e
  split
  · refine sr_bind _ (sr_sizeOf t) fun R2 h2 n n' e => ?_
    obtain ⟨rfl, _⟩ := e
    refine sr_bind _ (sr_loadCells _ ((h.mono h1).mono h2)) fun R3 h3 c c' hc => ?_
    exact sr_pure (.aggOf hc)
  · exact sr_load (h.mono h1)

def LVR (F : FuncId → Prop) (R : BR) : List Value → List Value → Prop
  | [], [] => True
  | v :: vs, v' :: vs' => VR F R v v' ∧ LVR F R vs vs'
  | _, _ => False
theorem LVR.mono {R' : BR} (h : ∀ b c, R b c → R' b c) : ∀ {l l' : List Value}, LVR F R l l' → LVR F R' l l'
  | [], [], _ => trivial
  | _ :: _, _ :: _, ⟨a, b⟩ => ⟨a.mono h, LVR.mono h b⟩
theorem LVR.of_get : ∀ {l l' : List Value}, l.length = l'.length → (∀ (i : Nat) v, l[i]? = some v → ∃ v', l'[i]? = some v' ∧ VR F R v v') → LVR F R l l'
  | [], [], _, _ => trivial
  | [], _ :: _, h, _ => by simp at h
  | _ :: _, [], h, _ => by simp at h
  | v :: l, v' :: l', hs, h => by
    refine ⟨?_, LVR.of_get (by simpa using hs) fun i u hu => by simpa using h (i + 1) u (by simpa using hu)⟩
    obtain ⟨u, h1, h2⟩ := h 0 v (by simp)
    simp only [List.getElem?_cons_zero, Option.some.injEq] at h1
    subst h1; exact h2
theorem AVR.list {c c' : Array Value} (h : AVR F R c c') : LVR F R c.toList c'.toList :=
  .of_get (by simp [h.1]) fun i v hv => by
    obtain ⟨v', h1, h2⟩ := h.get (i := i) (v := v) (by simpa using hv)
    exact ⟨v', by simpa using h1, h2⟩

theorem sr_storeCells {a a' : Addr} : ∀ (vs vs' : List Value) (i : Nat) {R : BR}, AR R a a' → LVR F R vs vs' → SR P F EqR R (storeCells a vs i) (storeCells a' vs' i) := by
  intro vs
  induction vs with
  | nil =>
    intro vs' i R ha h
    cases vs' with
    | nil => exact sr_pure rfl
    | cons _ _ => exact h.elim
  | cons v vs ih =>
    intro vs' i R ha h
    cases vs' with
    | nil => exact h.elim
    | cons v' vs' =>
      unfold storeCells
      exact SR.store (ha.add i) h.1 (ih vs' (i + 1) ha h.2)
theorem sr_storeVar (t : TypeId) {a a' : Addr} (ha : AR R a a') {v v' : Value} (hv : VR F R v v') : SR P F EqR R (storeVar t a v) (storeVar t a' v') := by
  unfold storeVar
  refine sr_bind _ (sr_sizeOf t) fun R1 h1 n n' e => ?_
  obtain ⟨rfl, _⟩ := e
  have hc := (hv.mono h1).cells
  rw [← hc.1]
  split
  · exact sr_stuckb _ _ _
  · exact sr_storeCells _ _ 0 (ha.mono h1) hc.list

theorem OR.fresh {c c' : Array Value} (el : TypeId) (h : AVR F R c c') : OR F R (.cells c el) (.cells c' el) :=
  .cells (fun j v hj => h.get hj) fun j _ _ => by simp [inFz]
theorem sr_newRow (el : TypeId) {c c' : Array Value} (h : AVR F R c c') : SR P F (fun R a a' => AR R a a') R (newRow el c) (newRow el c') := by
  unfold newRow newObj
  exact SR.new (OR.fresh el h) fun n n' => .pure ⟨.inr ⟨rfl, rfl⟩, rfl, rfl, rfl⟩
theorem sr_newVar (t : TypeId) {v v' : Value} (h : VR F R v v') : SR P F (fun R a a' => AR R a a') R (newVar t v) (newVar t v') := sr_newRow t h.cells

/-! ### panics -/
theorem dead_goPanic {α : Type} (v : Value) : Dead P (goPanic v : Sem α) := dead_halt trivial
theorem dead_error {α : Type} (m : String) : Dead P (runtimePanic (.error m) : Sem α) := fun w => ⟨_, w, rfl, trivial⟩
theorem dead_plain {α : Type} (m : String) : Dead P (runtimePanic (.plain m) : Sem α) := fun w => ⟨_, w, rfl, trivial⟩
theorem dead_nil {α : Type} : Dead P (runtimePanic .nilDeref : Sem α) := fun w => ⟨_, w, rfl, trivial⟩
theorem dead_bounds {α : Type} (x y : Int) (s : Bool) (c : BoundsCode) : Dead P (runtimePanic (.bounds x y s c) : Sem α) := fun w => ⟨_, w, rfl, trivial⟩
theorem Dead.later {α β : Type} {s : Sem α} {k : α → Sem β} (hs : ∀ w, ∃ a w1, s.run P w = .ok a w1) (h : ∀ a, Dead P (k a)) : Dead P (s >>= k) := fun w => by
  obtain ⟨a, w1, e⟩ := hs w
  obtain ⟨x, w2, e2, ho⟩ := h a w1
  exact ⟨x, w2, by rw [Sem.run_bind, e]; exact e2, ho⟩
theorem choose_ok (q : Question) (w : World) : ∃ a w1, (choose q).run P w = .ok a w1 := by
  rw [run_choose]
  split <;> exact ⟨_, _, rfl⟩
theorem dead_boundsPanic {α : Type} (k : IntKind) (x y : Int) (c : BoundsCode) : Dead P (boundsPanic k x y c : Sem α) := by
  unfold boundsPanic
  split
  · refine Dead.later (fun w => ?_) fun a => dead_bounds _ _ _ _
    obtain ⟨a, w1, e⟩ := choose_ok (P := P) (.extern "runtime.boundsError.signed" 2) w
    exact ⟨_, w1, by rw [Sem.run_map, e]; rfl⟩
  · exact Dead.later (fun w => ⟨_, w, rfl⟩) fun a => dead_bounds _ _ _ _
theorem sr_askRoom (n : Nat) : SR P F EqR R (askRoom n) (askRoom n) := by
  unfold askRoom
  split
  · exact SR.room (.pure rfl)
  · exact sr_pure rfl

/-! ### the instructions -/
def V (P : Program) (F : FuncId → Prop) (R : BR) (s s' : Sem Value) : Prop := SR P F (VR F) R s s'

theorem sr_alloc (el : TypeId) (hz : zeroOk P el = true) : V P F R (Instr.alloc el true (.tuple #[])) (Instr.alloc el true (.tuple #[])) := by
  unfold Instr.alloc
  refine sr_bind _ (sr_zeroValue el hz) fun R1 h1 z z' e => ?_
  refine sr_bind _ (sr_newVar el e.2) fun R2 h2 a a' ha => ?_
  exact sr_pure (.pointer ha)
theorem sr_box (el : TypeId) {v v' : Value} (h : VR F R v v') : V P F R (Instr.box el v) (Instr.box el v') := by
  unfold Instr.box
  refine sr_bind _ (sr_newVar el h) fun R2 h2 a a' ha => ?_
  exact sr_pure (.pointer ha)
theorem sr_loadAt (t : TypeId) {v v' : Value} (h : VR F R v v') : V P F R (Instr.loadAt t v) (Instr.loadAt t v') := by
  unfold Instr.loadAt
  refine sr_bind _ (sr_sureAddr h) fun R1 h1 a a' ha => sr_loadVar t ha
theorem sr_storeAt (t : TypeId) {v v' x x' : Value} (h : VR F R v v') (hx : VR F R x x') : SR P F EqR R (Instr.storeAt t v x) (Instr.storeAt t v' x') := by
  unfold Instr.storeAt
  refine sr_bind _ (sr_sureAddr h) fun R1 h1 a a' ha => sr_storeVar t ha (hx.mono h1)
theorem sr_extract (i : Nat) {v v' : Value} (h : VR F R v v') : V P F R (Instr.extract v i) (Instr.extract v' i) := by
  cases h with
  | @tuple c c' hs hc =>
    unfold Instr.extract
    have hA : AVR F R c c' := ⟨hs, hc⟩
    cases e : c[i]? with
    | none => simp only [e]; exact sr_stuck _ _
    | some x =>
      obtain ⟨x', e', hx⟩ := hA.get e
      simp only [e, e']
      exact sr_pure hx
  | _ => exact sr_stuck _ _

/-- The field's place: a field of a size. -/
def fieldOk (P : Program) (s : TypeId) (i : Nat) : Bool := match P.underlying s with
  | some (.struct fs) => match fs[i]? with
    | some f => match P.info? f.type with
      | some j => j.size != 0
      | none => true
    | none => true
  | _ => true
theorem sr_fieldAt (s : TypeId) (i : Nat) (hf : fieldOk P s i = true) {v v' : Value} (h : VR F R v v') : V P F R (Instr.fieldAt s v i) (Instr.fieldAt s v' i) := by
  unfold Instr.fieldAt
  refine sr_bind _ (sr_underlying s) fun R1 h1 x x' ⟨e, hu⟩ => ?_
  subst e
  cases x' with
  | struct fs =>
    unfold fieldOk at hf
    rw [hu] at hf
    dsimp only
    cases hfs : fs[i]? with
    | none => exact sr_stuck _ _
    | some f =>
      simp only [hfs] at hf ⊢
      refine sr_bind _ (sr_sureAddr (h.mono h1)) fun R2 h2 a a' ha => ?_
      refine sr_bind (fun R a a' => AR R a a') ?_ fun R3 h3 b b' hb => sr_pure (.pointer hb)
      unfold fieldPlace
      refine sr_bind _ (sr_sizeOf f.type) fun R3 h3 n n' ⟨e, j, hj, e2⟩ => ?_
      subst e
      rw [hj] at hf
      have : ¬ n' = 0 := by rw [e2]; simpa using hf
      simp only [this, if_false]
      exact sr_pure ((ha.mono h3).add _)
  | _ => exact sr_stuck _ _

theorem sr_indexAt (t : TypeId) {x x' i i' : Value} (hx : VR F R x x') (hi : VR F R i i') : V P F R (Instr.indexAt t x i) (Instr.indexAt t x' i') := by
  unfold Instr.indexAt
  refine sr_bind _ (sr_asIntOf hi) fun R1 h1 p p' e => ?_
  cases e
  obtain ⟨k, n⟩ := p
  dsimp only
  refine sr_bind _ (sr_underlying t) fun R2 h2 u u' ⟨e, hu⟩ => ?_
  subst e
  have hx2 := (hx.mono h1).mono h2
  have tail : ∀ (R3 : BR) (y y' : Addr) (len : Nat) (el : TypeId), AR R3 y y' → ∀ (tiny : TypeDesc → Bool),
      V P F R3 (underlying t >>= fun d => if 0 ≤ n ∧ n < (len : Int) then (do pure (Value.pointer (some (y.add (n.toNat * (← sizeOf el)))))) else if tiny d = true then unsupported (.noEntry "op/indexAddr.an index out of range at an array of length 0 or 1 (ledger 616)") else boundsPanic k n len .index)
        (underlying t >>= fun d => if 0 ≤ n ∧ n < (len : Int) then (do pure (Value.pointer (some (y'.add (n.toNat * (← sizeOf el)))))) else if tiny d = true then unsupported (.noEntry "op/indexAddr.an index out of range at an array of length 0 or 1 (ledger 616)") else boundsPanic k n len .index) := by
    intro R3 y y' len el hy tiny
    refine sr_bind _ (sr_underlying t) fun R4 h4 d d' ⟨e, _⟩ => ?_
    subst e
    split
    · refine sr_bind _ (sr_sizeOf el) fun R5 h5 s s' ⟨e, _⟩ => ?_
      subst e
      exact sr_pure (.pointer (((hy.mono h4).mono h5).add _))
    · split
      · exact sr_unsup (by trivial) _
      · exact .dead (dead_boundsPanic _ _ _ _)
  split
  · rename_i len el
    refine sr_bind _ (sr_sureAddr hx2) fun R3 h3 a a' ha => ?_
    exact tail _ _ _ _ _ ha _
  · rename_i el base len c
    cases hx2 with
    | sliceNone l c => exact SR.bind' (s := underlying t) (s' := underlying t) (sr_underlying t) fun R3 h3 d d' _ => .dead (dead_boundsPanic _ _ _ _)
    | slice ha l c => exact tail _ _ _ _ _ ha _
  · exact sr_stuck _ _

/-! ### parts, rows -/
theorem foldl_set (f : Nat → Nat) : ∀ (xs ys : List (Value × Nat)) (cs cs' : Array Value), AVR F R cs cs' → xs.length = ys.length → (∀ (i : Nat) a, xs[i]? = some a → ∃ b, ys[i]? = some b ∧ VR F R a.1 b.1 ∧ b.2 = a.2) →
    AVR F R (xs.foldl (fun cs (c, j) => cs.setIfInBounds (f j) c) cs) (ys.foldl (fun cs (c, j) => cs.setIfInBounds (f j) c) cs') := by
  intro xs
  induction xs with
  | nil => intro ys cs cs' h hl _; cases ys with
    | nil => exact h
    | cons _ _ => simp at hl
  | cons x xs ih =>
    intro ys cs cs' h hl hx
    cases ys with
    | nil => simp at hl
    | cons y ys =>
      obtain ⟨b, h1, h2, h3⟩ := hx 0 x (by simp)
      simp only [List.getElem?_cons_zero, Option.some.injEq] at h1
      subst h1
      obtain ⟨c, j⟩ := x
      obtain ⟨c', j'⟩ := y
      simp only at h2 h3
      subst h3
      exact ih ys _ _ (h.set _ h2) (by simpa using hl) fun i a ha => by simpa using hx (i + 1) a (by simpa using ha)

/-- What is laid into a row. -/
def PVR (F : FuncId → Prop) (R : BR) : List (Nat × Value) → List (Nat × Value) → Prop
  | [], [] => True
  | p :: ps, p' :: ps' => p'.1 = p.1 ∧ VR F R p.2 p'.2 ∧ PVR F R ps ps'
  | _, _ => False
theorem PVR.mono {R' : BR} (h : ∀ b c, R b c → R' b c) : ∀ {l l' : List (Nat × Value)}, PVR F R l l' → PVR F R' l l'
  | [], [], _ => trivial
  | _ :: _, _ :: _, ⟨a, b, c⟩ => ⟨a, b.mono h, PVR.mono h c⟩

theorem zip_rel {c c' : Array Value} (h : AVR F R c c') : ∀ (i : Nat) a, c.zipIdx.toList[i]? = some a → ∃ b, c'.zipIdx.toList[i]? = some b ∧ VR F R a.1 b.1 ∧ b.2 = a.2 := by
  intro i a ha
  simp only [Array.toList_zipIdx, List.getElem?_zipIdx, Option.map_eq_some_iff] at ha ⊢
  obtain ⟨v, hv, rfl⟩ := ha
  obtain ⟨v', hv', hr⟩ := h.get (i := i) (v := v) (by simpa using hv)
  exact ⟨(v', 0 + i), ⟨v', by simpa using hv', rfl⟩, hr, rfl⟩

theorem fill_rel (place : Nat → Option (Nat × Nat)) : ∀ (ps ps' : List (Nat × Value)) (cs cs' : Array Value), PVR F R ps ps' → AVR F R cs cs' →
    (Instr.fill place cs ps = none ∧ Instr.fill place cs' ps' = none) ∨ ∃ d d', Instr.fill place cs ps = some d ∧ Instr.fill place cs' ps' = some d' ∧ AVR F R d d' := by
  intro ps
  induction ps with
  | nil => intro ps' cs cs' hp h; cases ps' with
    | nil => exact .inr ⟨cs, cs', rfl, rfl, h⟩
    | cons _ _ => exact hp.elim
  | cons p ps ih =>
    intro ps' cs cs' hp h
    cases ps' with
    | nil => exact hp.elim
    | cons p' ps' =>
      obtain ⟨i, v⟩ := p
      obtain ⟨i', v'⟩ := p'
      obtain ⟨e, hv, hp⟩ := hp
      simp only at e hv
      subst e
      unfold Instr.fill
      cases place i' with
      | none => exact .inl ⟨rfl, rfl⟩
      | some q =>
        obtain ⟨off, size⟩ := q
        dsimp only
        have hc := hv.cells
        rw [← hc.1, ← h.1]
        split
        · exact .inl ⟨rfl, rfl⟩
        · refine ih ps' _ _ hp ?_
          rw [← Array.foldl_toList, ← Array.foldl_toList]
          exact foldl_set (fun j => off + j) _ _ _ _ h (by simp [hc.1]) (zip_rel hc)

theorem AVR.index {c c' : Array Value} (h : AVR F R c c') (n m : Nat) : AVR F R ((Array.range n).map (c[· % m]!)) ((Array.range n).map (c'[· % m]!)) := by
  refine AVR.map _ fun x _ => ?_
  cases e : c[x % m]? with
  | none =>
    have e' := h.none e
    rw [getElem!_def, getElem!_def, e, e']
    exact VR.bool _
  | some v =>
    obtain ⟨v', e', hv⟩ := h.get e
    rw [getElem!_def, getElem!_def, e, e']
    exact hv
end
end Go.Proofs.Ytneclhkpgalnlaa.Sm
