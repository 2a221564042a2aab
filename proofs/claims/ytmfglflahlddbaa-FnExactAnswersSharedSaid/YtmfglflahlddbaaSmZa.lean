/-
  A SIMULATION OF TREES: the operations.
-/
import Derived.Test.YtmfglflahlddbaaSmb
import Derived.Calls
namespace Go.Proofs.Ytmfglflahlddbaa.Sm
open Go Go.Conc
set_option linter.unusedVariables false
set_option linter.unusedSimpArgs false

/-- No address in it. -/
def plainB : Nat → Value → Bool
  | 0, _ => false
  | n + 1, v => match v with
    | .bool _ | .int _ _ | .pointer none | .slice none _ _ | .map none | .chan none => true
    | .agg cs | .tuple cs => cs.all (plainB n)
    | _ => false

theorem plain_VR {F : FuncId → Prop} {R : BR} : ∀ (n : Nat) (v : Value), plainB n v = true → VR F R v v := by
  intro n
  induction n with
  | zero => intro v h; cases h
  | succ n ih =>
    intro v h
    unfold plainB at h
    split at h
    · exact .bool _
    · exact .int _ _
    · exact .bot ⟨by simp, by simp, by simp⟩
    · exact .sliceNone _ _
    · exact .mapNone
    · exact .chanNone
    · exact .agg rfl fun i h1 h2 => ih _ (by have := Array.all_eq_true.1 h i h1; exact this)
    · exact .tuple rfl fun i h1 h2 => ih _ (by have := Array.all_eq_true.1 h i h1; exact this)
    · cases h

/-- What an operation yields. -/
inductive NR (F : FuncId → Prop) (R : BR) : Next → Next → Prop
  | value {v v' : Value} (h : VR F R v v') : NR F R (.value v) (.value v')
  | skip : NR F R .skip .skip
  | enter {f : FuncId} {as as' : Array Value} (hf : F f) (h : AVR F R as as') : NR F R (.enter f as) (.enter f as')

section
variable {P : Program} {F : FuncId → Prop} {R : BR}

theorem sr_pure {α β : Type} {A : BR → α → β → Prop} {a : α} {a' : β} (h : A R a a') : SR P F A R (pure a) (pure a') := .pure h
theorem dead_halt {α : Type} {h : Halt} (ho : okHalt h) : Dead P (.halt h : Sem α) := fun w => ⟨h, w, rfl, ho⟩
theorem dead_stuck {α : Type} (why : String) : Dead P (stuck why : Sem α) := dead_halt trivial
theorem Dead.bind {α β : Type} {s : Sem α} (h : Dead P s) (k : α → Sem β) : Dead P (s >>= k) := fun w => by
  obtain ⟨x, w1, e, ho⟩ := h w
  exact ⟨x, w1, by rw [Sem.run_bind, e]; rfl, ho⟩
theorem sr_stuck {α β : Type} {A : BR → α → β → Prop} (why : String) (s' : Sem β) : SR P F A R (stuck why) s' := .dead (dead_stuck why)
theorem sr_stuckb {α β γ : Type} {A : BR → α → β → Prop} (why : String) (k : γ → Sem α) (s' : Sem β) : SR P F A R (stuck why >>= k) s' := .dead ((dead_stuck why).bind k)
theorem sr_unsup {α β : Type} {A : BR → α → β → Prop} {u : Unsupported} (h : okHalt (.unsupported u)) (s' : Sem β) : SR P F A R (unsupported u) s' := .dead (dead_halt h)
theorem sr_unsupb {α β γ : Type} {A : BR → α → β → Prop} {u : Unsupported} (h : okHalt (.unsupported u)) (k : γ → Sem α) (s' : Sem β) : SR P F A R (unsupported u >>= k) s' := .dead ((dead_halt h).bind k)

theorem sr_bind {α α' β β' : Type} (A : BR → α → α' → Prop) {B : BR → β → β' → Prop} {s : Sem α} {s' : Sem α'} (h : SR P F A R s s') {k : α → Sem β} {k' : α' → Sem β'}
    (hk : ∀ R1, (∀ b c, R b c → R1 b c) → ∀ a a', A R1 a a' → SR P F B R1 (k a) (k' a')) : SR P F B R (s >>= k) (s' >>= k') := h.bind hk

def EqR {α : Type} : BR → α → α → Prop := fun _ a a' => a' = a

theorem sr_program {β β' : Type} {B : BR → β → β' → Prop} {k : Program → Sem β} {k' : Program → Sem β'} (h : SR P F B R (k P) (k' P)) : SR P F B R (program >>= k) (program >>= k') := SR.program h

theorem sr_typeInfo (t : TypeId) : SR P F (fun _ a a' => a' = a ∧ P.info? t = some a) R (typeInfo t) (typeInfo t) := by
  unfold typeInfo
  refine sr_program ?_
  cases h : P.info? t with
  | none => exact sr_stuck _ _
  | some i => exact sr_pure ⟨rfl, rfl⟩
theorem sr_underlying (t : TypeId) : SR P F (fun _ a a' => a' = a ∧ P.underlying t = some a) R (underlying t) (underlying t) := by
  unfold underlying
  refine sr_program ?_
  cases h : P.underlying t with
  | none => exact sr_stuck _ _
  | some i => exact sr_pure ⟨rfl, rfl⟩
theorem sr_sizeOf (t : TypeId) : SR P F (fun _ a a' => a' = a ∧ ∃ i, P.info? t = some i ∧ a = i.size) R (sizeOf t) (sizeOf t) := by
  unfold sizeOf
  refine sr_bind _ (sr_typeInfo t) fun R1 _ a a' ⟨h1, h2⟩ => ?_
  subst h1
  exact sr_pure ⟨rfl, a', h2, rfl⟩
/-- The zero value of this type holds no address. -/
def zeroOk (P : Program) (t : TypeId) : Bool := match P.info? t with
  | some i => match i.zero with
    | some v => plainB 64 v
    | none => true
  | none => true
theorem sr_zeroValue (t : TypeId) (hz : zeroOk P t = true) : SR P F (fun R a a' => a' = a ∧ VR F R a a') R (zeroValue t) (zeroValue t) := by
  unfold zeroValue
  refine sr_bind _ (sr_typeInfo t) fun R1 _ a a' ⟨h1, h2⟩ => ?_
  subst h1
  unfold zeroOk at hz
  rw [h2] at hz
  cases h : a'.zero with
  | none => exact sr_unsup (by trivial) _
  | some v =>
    simp only [h] at hz
    exact sr_pure ⟨rfl, plain_VR _ _ hz⟩
theorem sr_isAgg (t : TypeId) : SR P F EqR R (isAgg t) (isAgg t) := by
  unfold isAgg
  refine sr_bind _ (sr_underlying t) fun R1 _ a a' ⟨h1, h2⟩ => ?_
  subst h1
  split <;> exact sr_pure rfl

theorem sr_asIntOf {v v' : Value} (h : VR F R v v') : SR P F EqR R (asIntOf v) (asIntOf v') := by
  cases h <;> first | exact sr_pure rfl | exact sr_stuck _ _ | exact sr_unsup (by trivial) _
theorem sr_asInt {v v' : Value} (h : VR F R v v') : SR P F EqR R (asInt v) (asInt v') := by
  unfold asInt
  refine sr_bind _ (sr_asIntOf h) fun R1 _ a a' h1 => ?_
  cases h1
  exact sr_pure rfl
theorem sr_asBool {v v' : Value} (h : VR F R v v') : SR P F EqR R (asBool v) (asBool v') := by
  cases h <;> first | exact sr_pure rfl | exact sr_stuck _ _
theorem sr_sureAddr {v v' : Value} (h : VR F R v v') : SR P F (fun R a a' => AR R a a') R (Instr.sureAddr v) (Instr.sureAddr v') := by
  cases h <;> first | (rename_i h; exact sr_pure h) | exact sr_stuck _ _

theorem sr_load {a a' : Addr} (h : AR R a a') : SR P F (VR F) R (load a) (load a') := .load h fun v v' hv => .pure hv
theorem sr_loadCellsFrom {a a' : Addr} : ∀ (n i : Nat) {R : BR} (acc acc' : Array Value), AR R a a' → AVR F R acc acc' → SR P F (AVR F) R (loadCellsFrom a i n acc) (loadCellsFrom a' i n acc') := by
  intro n
  induction n with
  | zero => intro i R acc acc' ha h; exact sr_pure h
  | succ n ih =>
    intro i R acc acc' ha h
    unfold loadCellsFrom
    refine sr_bind _ (sr_load (ha.add i)) fun R1 h1 v v' hv => ?_
    exact ih (i + 1) _ _ (ha.mono h1) ((h.mono h1).push hv)
theorem sr_loadCells {a a' : Addr} (n : Nat) (h : AR R a a') : SR P F (AVR F) R (loadCells a n) (loadCells a' n) := sr_loadCellsFrom n 0 _ _ h .nil
theorem sr_loadVar (t : TypeId) {a a' : Addr} (h : AR R a a') : SR P F (VR F) R (loadVar t a) (loadVar t a') := by
  unfold loadVar
  refine sr_bind _ (sr_isAgg t) fun R1 h1 x x' e => ?_
  cases e
  split
  · refine sr_bind _ (sr_sizeOf t) fun R2 h2 n n' e => ?_
    obtain ⟨rfl, _⟩ := e
    refine sr_bind _ (sr_loadCells _ ((h.mono h1).mono h2)) fun R3 h3 c c' hc => ?_
    exact sr_pure (.aggOf hc)
  · exact sr_load (h.mono h1)

def LVR (F : FuncId → Prop) (R : BR) : List Value → List Value → Prop
  | [], [] => True
  | v :: vs, v' :: vs' => VR F R v v' ∧ LVR F R vs vs'
  | _, _ => False
theorem LVR.mono {R' : BR} (h : ∀ b c, R b c → R' b c) : ∀ {l l' : List Value}, LVR F R l l' → LVR F R' l l'
  | [], [], _ => trivial
  | _ :: _, _ :: _, ⟨a, b⟩ => ⟨a.mono h, LVR.mono h b⟩
theorem LVR.of_get : ∀ {l l' : List Value}, l.length = l'.length → (∀ (i : Nat) v, l[i]? = some v → ∃ v', l'[i]? = some v' ∧ VR F R v v') → LVR F R l l'
  | [], [], _, _ => trivial
  | [], _ :: _, h, _ => by simp at h
  | _ :: _, [], h, _ => by simp at h
  | v :: l, v' :: l', hs, h => by
    refine ⟨?_, LVR.of_get (by simpa using hs) fun i u hu => by simpa using h (i + 1) u (by simpa using hu)⟩
    obtain ⟨u, h1, h2⟩ := h 0 v (by simp)
    simp only [List.getElem?_cons_zero, Option.some.injEq] at h1
    subst h1; exact h2
theorem AVR.list {c c' : Array Value} (h : AVR F R c c') : LVR F R c.toList c'.toList :=
  .of_get (by simp [h.1]) fun i v hv => by
    obtain ⟨v', h1, h2⟩ := h.get (i := i) (v := v) (by simpa using hv)
    exact ⟨v', by simpa using h1, h2⟩

theorem sr_storeCells {a a' : Addr} : ∀ (vs vs' : List Value) (i : Nat) {R : BR}, AR R a a' → LVR F R vs vs' → SR P F EqR R (storeCells a vs i) (storeCells a' vs' i) := by
  intro vs
  induction vs with
  | nil =>
    intro vs' i R ha h
    cases vs' with
    | nil => exact sr_pure rfl
    | cons _ _ => exact h.elim
  | cons v vs ih =>
    intro vs' i R ha h
    cases vs' with
    | nil => exact h.elim
    | cons v' vs' =>
      unfold storeCells
      exact SR.store (ha.add i) h.1 (ih vs' (i + 1) ha h.2)
theorem sr_storeVar (t : TypeId) {a a' : Addr} (ha : AR R a a') {v v' : Value} (hv : VR F R v v') : SR P F EqR R (storeVar t a v) (storeVar t a' v') := by
  unfold storeVar
  refine sr_bind _ (sr_sizeOf t) fun R1 h1 n n' e => ?_
  obtain ⟨rfl, _⟩ := e
  have hc := (hv.mono h1).cells
  rw [← hc.1]
  split
  · exact sr_stuckb _ _ _
  · exact sr_storeCells _ _ 0 (ha.mono h1) hc.list

theorem OR.fresh {c c' : Array Value} (el : TypeId) (h : AVR F R c c') : OR F R (.cells c el) (.cells c' el) :=
  .cells (fun j v hj => h.get hj) fun j _ _ => by simp [inFz]
theorem sr_newRow (el : TypeId) {c c' : Array Value} (h : AVR F R c c') : SR P F (fun R a a' => AR R a a') R (newRow el c) (newRow el c') := by
  unfold newRow newObj
  exact SR.new (OR.fresh el h) fun n n' => .pure ⟨.inr ⟨rfl, rfl⟩, rfl, rfl, rfl⟩
theorem sr_newVar (t : TypeId) {v v' : Value} (h : VR F R v v') : SR P F (fun R a a' => AR R a a') R (newVar t v) (newVar t v') := sr_newRow t h.cells

/-! ### panics -/
theorem dead_goPanic {α : Type} (v : Value) : Dead P (goPanic v : Sem α) := dead_halt trivial
theorem dead_error {α : Type} (m : String) : Dead P (runtimePanic (.error m) : Sem α) := fun w => ⟨_, w, rfl, trivial⟩
theorem dead_plain {α : Type} (m : String) : Dead P (runtimePanic (.plain m) : Sem α) := fun w => ⟨_, w, rfl, trivial⟩
theorem dead_nil {α : Type} : Dead P (runtimePanic .nilDeref : Sem α) := fun w => ⟨_, w, rfl, trivial⟩
theorem dead_bounds {α : Type} (x y : Int) (s : Bool) (c : BoundsCode) : Dead P (runtimePanic (.bounds x y s c) : Sem α) := fun w => ⟨_, w, rfl, trivial⟩
theorem Dead.later {α β : Type} {s : Sem α} {k : α → Sem β} (hs : ∀ w, ∃ a w1, s.run P w = .ok a w1) (h : ∀ a, Dead P (k a)) : Dead P (s >>= k) := fun w => by
  obtain ⟨a, w1, e⟩ := hs w
  obtain ⟨x, w2, e2, ho⟩ := h a w1
  exact ⟨x, w2, by rw [Sem.run_bind, e]; exact e2, ho⟩
theorem choose_ok (q : Question) (w : World) : ∃ a w1, (choose q).run P w = .ok a w1 := by
  rw [run_choose]
  split <;> exact ⟨_, _, rfl⟩
theorem dead_boundsPanic {α : Type} (k : IntKind) (x y : Int) (c : BoundsCode) : Dead P (boundsPanic k x y c : Sem α) := by
  unfold boundsPanic
  split
  · refine Dead.later (fun w => ?_) fun a => dead_bounds _ _ _ _
    obtain ⟨a, w1, e⟩ := choose_ok (P := P) (.extern "runtime.boundsError.signed" 2) w
    exact ⟨_, w1, by rw [Sem.run_map, e]; rfl⟩
  · exact Dead.later (fun w => ⟨_, w, rfl⟩) fun a => dead_bounds _ _ _ _
theorem sr_askRoom (n : Nat) : SR P F EqR R (askRoom n) (askRoom n) := by
  unfold askRoom
  split
  · exact SR.room (.pure rfl)
  · exact sr_pure rfl

/-! ### the instructions -/
def V (P : Program) (F : FuncId → Prop) (R : BR) (s s' : Sem Value) : Prop := SR P F (VR F) R s s'

theorem sr_alloc (el : TypeId) (hz : zeroOk P el = true) : V P F R (Instr.alloc el true (.tuple #[])) (Instr.alloc el true (.tuple #[])) := by
  unfold Instr.alloc
  refine sr_bind _ (sr_zeroValue el hz) fun R1 h1 z z' e => ?_
  refine sr_bind _ (sr_newVar el e.2) fun R2 h2 a a' ha => ?_
  exact sr_pure (.pointer ha)
theorem sr_box (el : TypeId) {v v' : Value} (h : VR F R v v') : V P F R (Instr.box el v) (Instr.box el v') := by
  unfold Instr.box
  refine sr_bind _ (sr_newVar el h) fun R2 h2 a a' ha => ?_
  exact sr_pure (.pointer ha)
theorem sr_loadAt (t : TypeId) {v v' : Value} (h : VR F R v v') : V P F R (Instr.loadAt t v) (Instr.loadAt t v') := by
  unfold Instr.loadAt
  refine sr_bind _ (sr_sureAddr h) fun R1 h1 a a' ha => sr_loadVar t ha
theorem sr_storeAt (t : TypeId) {v v' x x' : Value} (h : VR F R v v') (hx : VR F R x x') : SR P F EqR R (Instr.storeAt t v x) (Instr.storeAt t v' x') := by
  unfold Instr.storeAt
  refine sr_bind _ (sr_sureAddr h) fun R1 h1 a a' ha => sr_storeVar t ha (hx.mono h1)
theorem sr_extract (i : Nat) {v v' : Value} (h : VR F R v v') : V P F R (Instr.extract v i) (Instr.extract v' i) := by
  cases h with
  | @tuple c c' hs hc =>
    unfold Instr.extract
    have hA : AVR F R c c' := ⟨hs, hc⟩
    cases e : c[i]? with
    | none => simp only [e]; exact sr_stuck _ _
    | some x =>
      obtain ⟨x', e', hx⟩ := hA.get e
      simp only [e, e']
      exact sr_pure hx
  | _ => exact sr_stuck _ _

/-- The field's place: a field of a size. -/
def fieldOk (P : Program) (s : TypeId) (i : Nat) : Bool := match P.underlying s with
  | some (.struct fs) => match fs[i]? with
    | some f => match P.info? f.type with
      | some j => j.size != 0
      | none => true
    | none => true
  | _ => true
theorem sr_fieldAt (s : TypeId) (i : Nat) (hf : fieldOk P s i = true) {v v' : Value} (h : VR F R v v') : V P F R (Instr.fieldAt s v i) (Instr.fieldAt s v' i) := by
  unfold Instr.fieldAt
  refine sr_bind _ (sr_underlying s) fun R1 h1 x x' ⟨e, hu⟩ => ?_
  subst e
  cases x' with
  | struct fs =>
    unfold fieldOk at hf
    rw [hu] at hf
    dsimp only
    cases hfs : fs[i]? with
    | none => exact sr_stuck _ _
    | some f =>
      simp only [hfs] at hf ⊢
      refine sr_bind _ (sr_sureAddr (h.mono h1)) fun R2 h2 a a' ha => ?_
      refine sr_bind (fun R a a' => AR R a a') ?_ fun R3 h3 b b' hb => sr_pure (.pointer hb)
      unfold fieldPlace
      refine sr_bind _ (sr_sizeOf f.type) fun R3 h3 n n' ⟨e, j, hj, e2⟩ => ?_
      subst e
      rw [hj] at hf
      have : ¬ n' = 0 := by rw [e2]; simpa using hf
      simp only [this, if_false]
      exact sr_pure ((ha.mono h3).add _)
  | _ => exact sr_stuck _ _

theorem sr_indexAt (t : TypeId) {x x' i i' : Value} (hx : VR F R x x') (hi : VR F R i i') : V P F R (Instr.indexAt t x i) (Instr.indexAt t x' i') := by
  unfold Instr.indexAt
  refine sr_bind _ (sr_asIntOf hi) fun R1 h1 p p' e => ?_
  cases e
  obtain ⟨k, n⟩ := p
  dsimp only
  refine sr_bind _ (sr_underlying t) fun R2 h2 u u' ⟨e, hu⟩ => ?_
  subst e
  have hx2 := (hx.mono h1).mono h2
  have tail : ∀ (R3 : BR) (y y' : Addr) (len : Nat) (el : TypeId), AR R3 y y' → ∀ (tiny : TypeDesc → Bool),
      V P F R3 (underlying t >>= fun d => if 0 ≤ n ∧ n < (len : Int) then (do pure (Value.pointer (some (y.add (n.toNat * (← sizeOf el)))))) else if tiny d = true then unsupported (.noEntry "op/indexAddr.an index out of range at an array of length 0 or 1 (ledger 616)") else boundsPanic k n len .index)
        (underlying t >>= fun d => if 0 ≤ n ∧ n < (len : Int) then (do pure (Value.pointer (some (y'.add (n.toNat * (← sizeOf el)))))) else if tiny d = true then unsupported (.noEntry "op/indexAddr.an index out of range at an array of length 0 or 1 (ledger 616)") else boundsPanic k n len .index) := by
    intro R3 y y' len el hy tiny
    refine sr_bind _ (sr_underlying t) fun R4 h4 d d' ⟨e, _⟩ => ?_
    subst e
    split
    · refine sr_bind _ (sr_sizeOf el) fun R5 h5 s s' ⟨e, _⟩ => ?_
      subst e
      exact sr_pure (.pointer (((hy.mono h4).mono h5).add _))
    · split
      · exact sr_unsup (by trivial) _
      · exact .dead (dead_boundsPanic _ _ _ _)
  split
  · rename_i len el
    refine sr_bind _ (sr_sureAddr hx2) fun R3 h3 a a' ha => ?_
    exact tail _ _ _ _ _ ha _
  · rename_i el base len c
    cases hx2 with
    | sliceNone l c => exact SR.bind' (s := underlying t) (s' := underlying t) (sr_underlying t) fun R3 h3 d d' _ => .dead (dead_boundsPanic _ _ _ _)
    | sliceZero a' => exact .dead (Dead.later (s := underlying t) (fun w => ⟨_, w, by simp [underlying, hu]; rfl⟩) fun d => dead_boundsPanic _ _ _ _)
    | slice ha l c => exact tail _ _ _ _ _ ha _
  · exact sr_stuck _ _

/-! ### parts, rows -/
theorem foldl_set (f : Nat → Nat) : ∀ (xs ys : List (Value × Nat)) (cs cs' : Array Value), AVR F R cs cs' → xs.length = ys.length → (∀ (i : Nat) a, xs[i]? = some a → ∃ b, ys[i]? = some b ∧ VR F R a.1 b.1 ∧ b.2 = a.2) →
    AVR F R (xs.foldl (fun cs (c, j) => cs.setIfInBounds (f j) c) cs) (ys.foldl (fun cs (c, j) => cs.setIfInBounds (f j) c) cs') := by
  intro xs
  induction xs with
  | nil => intro ys cs cs' h hl _; cases ys with
    | nil => exact h
    | cons _ _ => simp at hl
  | cons x xs ih =>
    intro ys cs cs' h hl hx
    cases ys with
    | nil => simp at hl
    | cons y ys =>
      obtain ⟨b, h1, h2, h3⟩ := hx 0 x (by simp)
      simp only [List.getElem?_cons_zero, Option.some.injEq] at h1
      subst h1
      obtain ⟨c, j⟩ := x
      obtain ⟨c', j'⟩ := y
      simp only at h2 h3
      subst h3
      exact ih ys _ _ (h.set _ h2) (by simpa using hl) fun i a ha => by simpa using hx (i + 1) a (by simpa using ha)

/-- What is laid into a row. -/
def PVR (F : FuncId → Prop) (R : BR) : List (Nat × Value) → List (Nat × Value) → Prop
  | [], [] => True
  | p :: ps, p' :: ps' => p'.1 = p.1 ∧ VR F R p.2 p'.2 ∧ PVR F R ps ps'
  | _, _ => False
theorem PVR.mono {R' : BR} (h : ∀ b c, R b c → R' b c) : ∀ {l l' : List (Nat × Value)}, PVR F R l l' → PVR F R' l l'
  | [], [], _ => trivial
  | _ :: _, _ :: _, ⟨a, b, c⟩ => ⟨a, b.mono h, PVR.mono h c⟩

theorem zip_rel {c c' : Array Value} (h : AVR F R c c') : ∀ (i : Nat) a, c.zipIdx.toList[i]? = some a → ∃ b, c'.zipIdx.toList[i]? = some b ∧ VR F R a.1 b.1 ∧ b.2 = a.2 := by
  intro i a ha
  simp only [Array.toList_zipIdx, List.getElem?_zipIdx, Option.map_eq_some_iff] at ha ⊢
  obtain ⟨v, hv, rfl⟩ := ha
  obtain ⟨v', hv', hr⟩ := h.get (i := i) (v := v) (by simpa using hv)
  exact ⟨(v', 0 + i), ⟨v', by simpa using hv', rfl⟩, hr, rfl⟩

theorem fill_rel (place : Nat → Option (Nat × Nat)) : ∀ (ps ps' : List (Nat × Value)) (cs cs' : Array Value), PVR F R ps ps' → AVR F R cs cs' →
    (Instr.fill place cs ps = none ∧ Instr.fill place cs' ps' = none) ∨ ∃ d d', Instr.fill place cs ps = some d ∧ Instr.fill place cs' ps' = some d' ∧ AVR F R d d' := by
  intro ps
  induction ps with
  | nil => intro ps' cs cs' hp h; cases ps' with
    | nil => exact .inr ⟨cs, cs', rfl, rfl, h⟩
    | cons _ _ => exact hp.elim
  | cons p ps ih =>
    intro ps' cs cs' hp h
    cases ps' with
    | nil => exact hp.elim
    | cons p' ps' =>
      obtain ⟨i, v⟩ := p
      obtain ⟨i', v'⟩ := p'
      obtain ⟨e, hv, hp⟩ := hp
      simp only at e hv
      subst e
      unfold Instr.fill
      cases place i' with
      | none => exact .inl ⟨rfl, rfl⟩
      | some q =>
        obtain ⟨off, size⟩ := q
        dsimp only
        have hc := hv.cells
        rw [← hc.1, ← h.1]
        split
        · exact .inl ⟨rfl, rfl⟩
        · refine ih ps' _ _ hp ?_
          rw [← Array.foldl_toList, ← Array.foldl_toList]
          exact foldl_set (fun j => off + j) _ _ _ _ h (by simp [hc.1]) (zip_rel hc)

theorem AVR.index {c c' : Array Value} (h : AVR F R c c') (n m : Nat) : AVR F R ((Array.range n).map (c[· % m]!)) ((Array.range n).map (c'[· % m]!)) := by
  refine AVR.map _ fun x _ => ?_
  cases e : c[x % m]? with
  | none =>
    have e' := h.none e
    rw [getElem!_def, getElem!_def, e, e']
    exact VR.bool _
  | some v =>
    obtain ⟨v', e', hv⟩ := h.get e
    rw [getElem!_def, getElem!_def, e, e']
    exact hv
end
end Go.Proofs.Ytmfglflahlddbaa.Sm
namespace Go.Proofs.Ytmfglflahlddbaa.Sm
open Go Go.Conc
set_option linter.unusedVariables false
set_option linter.unusedSimpArgs false
section
variable {P : Program} {F : FuncId → Prop} {R : BR}

/-- The elements' zero value holds no address. -/
def elemOk (P : Program) (t : TypeId) : Bool := match P.underlying t with
  | some (.slice e) => zeroOk P e
  | _ => true

theorem sr_cellsOf (n : Nat) (el : TypeId) (hz : zeroOk P el = true) : SR P F (AVR F) R (if n = 0 then pure #[] else do pure (← zeroValue el).cells) (if n = 0 then pure #[] else do pure (← zeroValue el).cells) := by
  split
  · exact sr_pure .nil
  · refine sr_bind _ (sr_zeroValue el hz) fun R1 h1 z z' e => sr_pure e.2.cells

theorem sr_buildSlice (t : TypeId) (len : Nat) (hz : elemOk P t = true) {ps ps' : Array (Nat × Value)} (hp : PVR F R ps.toList ps'.toList) : V P F R (Instr.buildSlice t len ps) (Instr.buildSlice t len ps') := by
  unfold Instr.buildSlice
  refine sr_bind _ (sr_underlying t) fun R1 h1 u u' ⟨e, hu⟩ => ?_
  subst e
  cases u' with
  | slice el =>
    unfold elemOk at hz
    rw [hu] at hz
    refine sr_bind _ (sr_sizeOf el) fun R2 h2 s s' ⟨e, _⟩ => ?_
    subst e
    dsimp only
    have fills : ∀ R3, (∀ b c, R2 b c → R3 b c) → ∀ z z' : Array Value, AVR F R3 z z' →
        (Instr.fill (fun i => some (i * s', s')) ((Array.range (len * s')).map (z[· % z.size]!)) ps.toList = none ∧ Instr.fill (fun i => some (i * s', s')) ((Array.range (len * s')).map (z'[· % z'.size]!)) ps'.toList = none) ∨
        ∃ d d', Instr.fill (fun i => some (i * s', s')) ((Array.range (len * s')).map (z[· % z.size]!)) ps.toList = some d ∧ Instr.fill (fun i => some (i * s', s')) ((Array.range (len * s')).map (z'[· % z'.size]!)) ps'.toList = some d' ∧ AVR F R3 d d' := by
      intro R3 h3 z z' hzz
      rw [← hzz.1]
      exact fill_rel (fun i => some (i * s', s')) ps.toList ps'.toList _ _ (((hp.mono h1).mono h2).mono h3) (hzz.index (len * s') z.size)
    split
    · exact sr_unsupb (by trivial) _ _
    · split
      · refine sr_bind (AVR F) (sr_pure .nil) fun R3 h3 z z' hzz => ?_
        rcases fills R3 h3 z z' hzz with ⟨e1, e2⟩ | ⟨d, d', e1, e2, hd⟩
        · simp only [e1, e2]; exact sr_stuck _ _
        · simp only [e1, e2]
          refine sr_bind _ (sr_newRow el hd) fun R4 h4 a a' ha => sr_pure (.slice ha _ _)
      · refine sr_bind _ (sr_zeroValue el hz) fun R3 h3 z0 z0' h0 => ?_
        refine sr_bind (AVR F) (sr_pure h0.2.cells) fun R4 h4 z z' hzz => ?_
        rcases fills R4 (fun _ _ x => h4 _ _ (h3 _ _ x)) z z' hzz with ⟨e1, e2⟩ | ⟨d, d', e1, e2, hd⟩
        · simp only [e1, e2]; exact sr_stuck _ _
        · simp only [e1, e2]
          refine sr_bind _ (sr_newRow el hd) fun R4 h4 a a' ha => sr_pure (.slice ha _ _)
  | _ => exact sr_stuck _ _

theorem sr_makeSlice (t : TypeId) (hz : elemOk P t = true) {l l' c c' : Value} (hl : VR F R l l') (hc : VR F R c c') : V P F R (Instr.makeSlice t l c) (Instr.makeSlice t l' c') := by
  unfold Instr.makeSlice
  refine sr_bind _ (sr_underlying t) fun R1 h1 u u' ⟨e, hu⟩ => ?_
  subst e
  cases u' with
  | slice el =>
    unfold elemOk at hz
    rw [hu] at hz
    refine sr_bind _ (sr_asInt (hl.mono h1)) fun R2 h2 n n' e => ?_
    cases e
    refine sr_bind _ (sr_asInt ((hc.mono h1).mono h2)) fun R3 h3 m m' e => ?_
    cases e
    refine sr_bind _ (sr_typeInfo el) fun R4 h4 i i' ⟨e, _⟩ => ?_
    subst e
    dsimp only
    split
    · split
      · exact .dead ((dead_error _).bind _)
      · split
        · exact .dead ((dead_error _).bind _)
        · refine sr_bind EqR (SR.choose fun n => .pure rfl) fun R5 h5 x x' e => ?_
          exact .dead ((dead_error _).bind _)
    · refine sr_bind _ (sr_askRoom _) fun R5 h5 _ _ _ => ?_
      refine sr_bind _ (sr_sizeOf el) fun R6 h6 s s' ⟨e, _⟩ => ?_
      subst e
      have tail : ∀ R7 (z z' : Array Value), AVR F R7 z z' → V P F R7 (do let a ← newRow el ((Array.range ((IntKind.i64.wrap m).toNat * s')).map (z[· % z.size]!)); pure (Value.slice (some a) (IntKind.i64.wrap n).toNat (IntKind.i64.wrap m).toNat))
          (do let a ← newRow el ((Array.range ((IntKind.i64.wrap m).toNat * s')).map (z'[· % z'.size]!)); pure (Value.slice (some a) (IntKind.i64.wrap n).toNat (IntKind.i64.wrap m).toNat)) := by
        intro R7 z z' hzz
        rw [← hzz.1]
        refine sr_bind _ (sr_newRow el (hzz.index _ _)) fun R8 h8 a a' ha => ?_
        exact sr_pure (.slice ha _ _)
      split
      · exact tail R6 _ _ .nil
      · refine sr_bind _ (sr_zeroValue el hz) fun R7 h7 z z' hzz => tail R7 _ _ hzz.2.cells
  | _ => exact sr_stuck _ _

theorem sr_makeChan (t : TypeId) (k : IntKind) : V P F R (Instr.makeChan t (.int k 0)) (Instr.makeChan t (.int k 0)) := by
  unfold Instr.makeChan
  refine sr_bind (fun _ a a' => a = 0 ∧ a' = 0) (sr_pure ⟨rfl, rfl⟩) fun R1 h1 n n' e => ?_
  obtain ⟨rfl, rfl⟩ := e
  refine sr_bind _ (sr_underlying t) fun R2 h2 u u' ⟨e, hu⟩ => ?_
  subst e
  cases u' with
  | chan d el =>
    refine sr_bind _ (sr_typeInfo el) fun R3 h3 i i' ⟨e, _⟩ => ?_
    subst e
    dsimp only
    split
    · exact .dead ((dead_plain _).bind _)
    · refine SR.new (OR.chan _ _ _) fun n n' => .pure (.chan (.inr ⟨rfl, rfl⟩))
  | _ => exact sr_stuck _ _

/-! ### len, min, max, append -/
theorem sr_len (ts : Array TypeId) (ty : TypeId) {as as' : Array Value} (h : AVR F R as as') : V P F R (Builtin.len_ ts ty as) (Builtin.len_ ts ty as') := by
  unfold Builtin.len_
  cases ht : ts[0]? with
  | none => exact sr_stuck _ _
  | some t =>
    cases ha : as[0]? with
    | none => exact sr_stuck _ _
    | some x =>
      obtain ⟨x', hx', hx⟩ := h.get ha
      rw [hx']
      dsimp only
      refine sr_bind _ (sr_underlying t) fun R1 h1 u u' ⟨e, hu⟩ => ?_
      subst e
      have hx1 := hx.mono h1
      split
      · cases hx1
      · exact sr_pure (.int _ _)
      · refine sr_bind _ (sr_underlying _) fun R2 h2 u u' ⟨e, hu⟩ => ?_
        subst e
        cases u' with
        | array n _ => exact sr_pure (.int _ _)
        | _ => exact sr_stuck _ _
      · cases hx1 with
        | sliceNone => exact sr_pure (.int _ _)
        | sliceZero => exact sr_pure (.int _ _)
        | slice => exact sr_pure (.int _ _)
      · cases hx1; exact sr_pure (.int _ _)
      · cases hx1; exact sr_pure (.int _ _)
      · cases hx1 with
        | map hr =>
          refine SR.getObj hr fun o o' ho hn => ?_
          cases ho with
          | map hs _ => simp only [Sem.bind]; rw [← hs]; exact sr_pure (.int _ _)
          | cells => exact absurd trivial hn
          | _ => exact sr_stuck _ _
      · cases hx1 with
        | chan hr =>
          refine SR.getObj hr fun o o' ho hn => ?_
          cases ho with
          | chan => exact sr_pure (.int _ _)
          | cells => exact absurd trivial hn
          | _ => exact sr_stuck _ _
      · exact sr_stuck _ _

theorem sr_min2 {x x' y y' : Value} (hx : VR F R x x') (hy : VR F R y y') : V P F R (Builtin.min2 x y) (Builtin.min2 x' y') := by
  cases hx <;> cases hy <;> first | exact sr_pure (.int _ _) | exact sr_stuck _ _ | exact sr_unsup (by trivial) _
theorem sr_max2 {x x' y y' : Value} (hx : VR F R x x') (hy : VR F R y y') : V P F R (Builtin.max2 x y) (Builtin.max2 x' y') := by
  cases hx <;> cases hy <;> first | exact sr_pure (.int _ _) | exact sr_stuck _ _ | exact sr_unsup (by trivial) _
theorem sr_foldl {f : Value → Value → Sem Value} (hf : ∀ {R : BR} {x x' y y' : Value}, VR F R x x' → VR F R y y' → V P F R (f x y) (f x' y')) : ∀ (l l' : List Value) {R : BR} {x x' : Value}, VR F R x x' → LVR F R l l' → V P F R (l.foldlM f x) (l'.foldlM f x') := by
  intro l
  induction l with
  | nil => intro l' R x x' hx h; cases l' with
    | nil => exact sr_pure hx
    | cons _ _ => exact h.elim
  | cons y l ih =>
    intro l' R x x' hx h
    cases l' with
    | nil => exact h.elim
    | cons y' l' =>
      rw [List.foldlM_cons, List.foldlM_cons]
      refine sr_bind _ (hf hx h.1) fun R1 h1 z z' hz => ih l' hz (h.2.mono h1)
theorem sr_min (ts : Array TypeId) (ty : TypeId) {as as' : Array Value} (h : AVR F R as as') : V P F R (Builtin.min_ ts ty as) (Builtin.min_ ts ty as') := by
  unfold Builtin.min_
  have hl := h.list
  cases e : as.toList with
  | nil => exact sr_stuck _ _
  | cons x l =>
    rw [e] at hl
    cases e' : as'.toList with
    | nil => rw [e'] at hl; exact hl.elim
    | cons x' l' => rw [e'] at hl; exact sr_foldl sr_min2 l l' hl.1 hl.2
theorem sr_max (ts : Array TypeId) (ty : TypeId) {as as' : Array Value} (h : AVR F R as as') : V P F R (Builtin.max_ ts ty as) (Builtin.max_ ts ty as') := by
  unfold Builtin.max_
  have hl := h.list
  cases e : as.toList with
  | nil => exact sr_stuck _ _
  | cons x l =>
    rw [e] at hl
    cases e' : as'.toList with
    | nil => rw [e'] at hl; exact hl.elim
    | cons x' l' => rw [e'] at hl; exact sr_foldl sr_max2 l l' hl.1 hl.2

theorem sr_lenOf {v v' : Value} (h : VR F R v v') : SR P F (fun _ a a' => a' = a ∧ ∀ A l c, v = .slice A l c → a = l) R (Builtin.lenOf v) (Builtin.lenOf v') := by
  cases h <;> first | exact sr_pure ⟨rfl, fun A l c e => by cases e <;> rfl⟩ | exact sr_stuck _ _
theorem sr_firstCells (size n : Nat) {v v' : Value} (h : VR F R v v') (hn : ∀ A l c, v = .slice A l c → n = l) : SR P F (AVR F) R (Builtin.firstCells size n v) (Builtin.firstCells size n v') := by
  cases h with
  | sliceNone => exact sr_pure .nil
  | sliceZero a' =>
    obtain rfl := hn _ _ _ rfl
    unfold Builtin.firstCells
    dsimp only
    rw [Nat.zero_mul]
    exact sr_pure .nil
  | slice ha l c => exact sr_loadCells _ ha
  | _ => exact sr_stuck _ _
theorem sr_firstCells0 (size : Nat) {v v' : Value} (h : VR F R v v') : SR P F (fun _ q q' => q = #[] ∧ q' = #[]) R (Builtin.firstCells size 0 v) (Builtin.firstCells size 0 v') := by
  cases h with
  | sliceNone => exact sr_pure ⟨rfl, rfl⟩
  | sliceZero a' =>
    unfold Builtin.firstCells
    dsimp only
    rw [Nat.zero_mul]
    exact sr_pure ⟨rfl, rfl⟩
  | slice ha l c =>
    unfold Builtin.firstCells
    dsimp only
    rw [Nat.zero_mul]
    exact sr_pure ⟨rfl, rfl⟩
  | _ => exact sr_stuck _ _
theorem AVR.zeroCells {z z' : Array Value} (h : AVR F R z z') (n : Nat) : AVR F R (Builtin.zeroCells z n) (Builtin.zeroCells z' n) := by
  unfold Builtin.zeroCells
  rw [← h.1]
  exact h.index _ _
theorem holdsCells_ok (a : Addr) (n : Nat) (w : World) : ∃ b, (Builtin.holdsCells a n).run P w = .ok b w := by
  unfold Builtin.holdsCells
  rw [Sem.run_bind, run_shape, Result.andThen_ok]
  cases w.shape? a.block with
  | none => exact ⟨_, rfl⟩
  | some x => exact ⟨_, rfl⟩
theorem mayShare_ok (size l n : Nat) (base : Option Addr) (x : Value) (w : World) : ∃ b w1, (Builtin.mayShare size l n base x).run P w = .ok b w1 := by
  unfold Builtin.mayShare
  have two : ∀ (there : Bool), ∃ b w1, (do if !there then return true
                                           match x with
                                           | .slice (some b) _ _ => do pure (!(← Builtin.holdsCells b (n * size)) || base.any (·.block == b.block))
                                           | _ => pure false : Sem Bool).run P w = .ok b w1 := by
    intro there
    cases there with
    | false => exact ⟨_, _, rfl⟩
    | true =>
      simp only [Bool.not_true, Bool.false_eq_true, if_false]
      split
      · rename_i b _ _
        obtain ⟨y, hy⟩ := holdsCells_ok (P := P) b (n * size) w
        exact ⟨_, w, by rw [Sem.run_bind, hy]; rfl⟩
      · exact ⟨_, _, rfl⟩
  cases base with
  | none => exact two true
  | some a =>
    obtain ⟨y, hy⟩ := holdsCells_ok (P := P) a (l * size) w
    obtain ⟨b, w1, e⟩ := two (y && !w.frozen? (a.add (l / 2 * size)))
    refine ⟨b, w1, ?_⟩
    rw [← e]
    simp only [Sem.run_bind, hy, Result.andThen_ok]
    cases y
    · rfl
    · rfl
/-- An append of a slice to a slice. -/
theorem sr_append (ts : Array TypeId) (ty : TypeId) (hz : ∀ t, ts[0]? = some t → elemOk P t = true) (h1 : ∀ t, ts[1]? = some t → (match P.underlying t with | some (.int _) => false | _ => true) = true) {as as' : Array Value} (h : AVR F R as as') :
    V P F R (Builtin.append_ ts ty as) (Builtin.append_ ts ty as') := by
  unfold Builtin.append_
  cases ht : ts[0]? with
  | none => exact sr_stuck _ _
  | some t =>
    cases ha : as[0]? with
    | none => exact sr_stuck _ _
    | some s =>
      obtain ⟨s', hs', hs⟩ := h.get ha
      rw [hs']
      cases hb : as[1]? with
      | none => exact sr_stuck _ _
      | some x =>
        obtain ⟨x', hx', hx⟩ := h.get hb
        rw [hx']
        dsimp only
        refine sr_bind _ (sr_underlying t) fun R1 g1 u u' ⟨e, hu⟩ => ?_
        subst e
        cases u' with
        | slice el =>
          have hze : zeroOk P el = true := by have := hz t ht; unfold elemOk at this; rw [hu] at this; exact this
          have hsl : (∃ base base' l c, s = .slice base l c ∧ s' = .slice base' l c ∧ (base = none ∧ base' = none ∨ (base = none ∧ (∃ a', base' = some a') ∧ l = 0 ∧ c = 0) ∨ ∃ a a', base = some a ∧ base' = some a' ∧ AR R a a')) ∨ (∀ base l c, s ≠ .slice base l c) := by
            cases hs with
            | sliceNone l c => exact .inl ⟨none, none, l, c, rfl, rfl, .inl ⟨rfl, rfl⟩⟩
            | sliceZero a' => exact .inl ⟨none, some a', 0, 0, rfl, rfl, .inr (.inl ⟨rfl, ⟨_, rfl⟩, rfl, rfl⟩)⟩
            | slice hadr l c => exact .inl ⟨_, _, l, c, rfl, rfl, .inr (.inr ⟨_, _, rfl, rfl, hadr⟩)⟩
            | _ => exact .inr (by simp)
          rcases hsl with ⟨base, base', l, c, rfl, rfl, hbase⟩ | hno
          · dsimp only
            refine sr_bind _ (sr_sizeOf el) fun R2 g2 size size' ⟨e, _⟩ => ?_
            subst e
            cases ht1 : ts[1]? with
            | none =>
              dsimp only
              refine sr_bind (fun _ a a' => a = false ∧ a' = false) (sr_pure ⟨rfl, rfl⟩) fun R4 g4 z z' ⟨e1, e2⟩ => ?_
              subst e1 e2
              have gg : ∀ b c, R b c → R4 b c := fun _ _ x => g4 _ _ (g2 _ _ (g1 _ _ x))
              simp only [Bool.false_eq_true, if_false, false_or, Bool.not_false, if_true]
              refine sr_bind _ (sr_lenOf (hx.mono gg)) fun R5 g5 n n' ⟨e, hn⟩ => ?_
              subst e
              have g5' : ∀ b c, R b c → R5 b c := fun _ _ x => g5 _ _ (gg _ _ x)
              split
              · rename_i hneed
                rcases hbase with ⟨rfl, rfl⟩ | ⟨rfl, ⟨a0', rfl⟩, rfl, rfl⟩ | ⟨a0, a0', rfl, rfl, har⟩
                · refine sr_bind _ (sr_firstCells _ _ (hx.mono g5') hn) fun R6 g6 q q' hq6 => ?_
                  exact sr_pure (.sliceNone _ _)
                · obtain rfl : n' = 0 := by omega
                  refine sr_bind _ (sr_firstCells0 _ (hx.mono g5')) fun R6 g6 q q' ⟨e1, e2⟩ => ?_
                  subst e1 e2
                  exact sr_pure (.sliceZero _)
                · refine sr_bind _ (sr_firstCells _ _ (hx.mono g5') hn) fun R6 g6 q q' hq6 => ?_
                  have har6 := (har.mono g5').mono g6
                  refine sr_bind _ (sr_storeCells _ _ 0 (har6.add _) hq6.list) fun R7 g7 _ _ _ => ?_
                  exact sr_pure (.slice (har6.mono g7) _ _)
              · refine sr_bind _ (sr_typeInfo el) fun R6 g6 i i' ⟨e, _⟩ => ?_
                subst e
                split
                · exact .dead ((dead_error _).bind _)
                · refine sr_bind _ (sr_typeInfo el) fun R7 g7 i i' ⟨e, _⟩ => ?_
                  subst e
                  split
                  · refine .dead (Dead.bind (Dead.later (mayShare_ok _ _ _ _ _) fun b => ?_) _)
                    cases b
                    · exact Dead.later (fun w => ⟨(), w, rfl⟩) fun _ => dead_halt trivial
                    · exact dead_halt trivial
                  · refine sr_bind EqR (SR.choose fun n => .pure rfl) fun R8 g8 cap cap' e => ?_
                    cases e
                    refine sr_bind _ (sr_typeInfo el) fun R9 g9 i i' ⟨e, _⟩ => ?_
                    subst e
                    refine sr_bind _ (sr_askRoom _) fun R10 g10 _ _ _ => ?_
                    have g10' : ∀ b c, R b c → R10 b c := fun _ _ x => g10 _ _ (g9 _ _ (g8 _ _ (g7 _ _ (g6 _ _ (g5' _ _ x)))))
                    refine sr_bind _ (sr_firstCells _ _ (hs.mono g10') (fun A l' c' e => by cases e; rfl)) fun R11 g11 o o' ho => ?_
                    refine sr_bind _ (sr_firstCells _ _ ((hx.mono g10').mono g11) hn) fun R12 g12 p p' hp => ?_
                    refine sr_bind _ (sr_zeroValue el hze) fun R13 g13 z z' hz' => ?_
                    refine sr_bind _ (sr_newRow el ((((ho.mono g12).mono g13).append (hp.mono g13)).append (hz'.2.cells.zeroCells _))) fun R14 g14 a a' ha' => ?_
                    exact sr_pure (.slice ha' _ _)
            | some xt =>
              dsimp only
              refine sr_bind _ (sr_underlying xt) fun R3 g3 d d' ⟨e, hd⟩ => ?_
              subst e
              have hq := h1 xt ht1
              rw [hd] at hq
              refine sr_bind (fun _ a a' => a = false ∧ a' = false) (sr_pure ?_) fun R4 g4 z z' ⟨e1, e2⟩ => ?_
              · cases d' <;> first | exact ⟨rfl, rfl⟩ | cases hq
              subst e1 e2
              have gg : ∀ b c, R b c → R4 b c := fun _ _ x => g4 _ _ (g3 _ _ (g2 _ _ (g1 _ _ x)))
              simp only [Bool.false_eq_true, if_false, false_or, Bool.not_false, if_true]
              refine sr_bind _ (sr_lenOf (hx.mono gg)) fun R5 g5 n n' ⟨e, hn⟩ => ?_
              subst e
              have g5' : ∀ b c, R b c → R5 b c := fun _ _ x => g5 _ _ (gg _ _ x)
              split
              · rename_i hneed
                rcases hbase with ⟨rfl, rfl⟩ | ⟨rfl, ⟨a0', rfl⟩, rfl, rfl⟩ | ⟨a0, a0', rfl, rfl, har⟩
                · refine sr_bind _ (sr_firstCells _ _ (hx.mono g5') hn) fun R6 g6 q q' hq6 => ?_
                  exact sr_pure (.sliceNone _ _)
                · obtain rfl : n' = 0 := by omega
                  refine sr_bind _ (sr_firstCells0 _ (hx.mono g5')) fun R6 g6 q q' ⟨e1, e2⟩ => ?_
                  subst e1 e2
                  exact sr_pure (.sliceZero _)
                · refine sr_bind _ (sr_firstCells _ _ (hx.mono g5') hn) fun R6 g6 q q' hq6 => ?_
                  have har6 := (har.mono g5').mono g6
                  refine sr_bind _ (sr_storeCells _ _ 0 (har6.add _) hq6.list) fun R7 g7 _ _ _ => ?_
                  exact sr_pure (.slice (har6.mono g7) _ _)
              · refine sr_bind _ (sr_typeInfo el) fun R6 g6 i i' ⟨e, _⟩ => ?_
                subst e
                split
                · exact .dead ((dead_error _).bind _)
                · refine sr_bind _ (sr_typeInfo el) fun R7 g7 i i' ⟨e, _⟩ => ?_
                  subst e
                  split
                  · refine .dead (Dead.bind (Dead.later (mayShare_ok _ _ _ _ _) fun b => ?_) _)
                    cases b
                    · exact Dead.later (fun w => ⟨(), w, rfl⟩) fun _ => dead_halt trivial
                    · exact dead_halt trivial
                  · refine sr_bind EqR (SR.choose fun n => .pure rfl) fun R8 g8 cap cap' e => ?_
                    cases e
                    refine sr_bind _ (sr_typeInfo el) fun R9 g9 i i' ⟨e, _⟩ => ?_
                    subst e
                    refine sr_bind _ (sr_askRoom _) fun R10 g10 _ _ _ => ?_
                    have g10' : ∀ b c, R b c → R10 b c := fun _ _ x => g10 _ _ (g9 _ _ (g8 _ _ (g7 _ _ (g6 _ _ (g5' _ _ x)))))
                    refine sr_bind _ (sr_firstCells _ _ (hs.mono g10') (fun A l' c' e => by cases e; rfl)) fun R11 g11 o o' ho => ?_
                    refine sr_bind _ (sr_firstCells _ _ ((hx.mono g10').mono g11) hn) fun R12 g12 p p' hp => ?_
                    refine sr_bind _ (sr_zeroValue el hze) fun R13 g13 z z' hz' => ?_
                    refine sr_bind _ (sr_newRow el ((((ho.mono g12).mono g13).append (hp.mono g13)).append (hz'.2.cells.zeroCells _))) fun R14 g14 a a' ha' => ?_
                    exact sr_pure (.slice ha' _ _)
          · cases s <;> first | exact sr_stuck _ _ | exact absurd rfl (hno _ _ _)
        | _ => exact sr_stuck _ _
end
end Go.Proofs.Ytmfglflahlddbaa.Sm
namespace Go.Proofs.Ytmfglflahlddbaa.Sm
open Go Go.Conc
set_option linter.unusedVariables false
set_option linter.unusedSimpArgs false
section
variable {P : Program} {F : FuncId → Prop} {R : BR}

/-- An integer type or bool itself. -/
def baseT (P : Program) (t : TypeId) : Bool := match P.info? t with
  | some i => match i.desc with
    | .int _ | .bool => true
    | _ => false
  | none => false

theorem sr_numberAt {r r' : Nat} (h : R r r') : SR P F (fun R o o' => (o = none ∧ o' = none) ∨ ∃ a a' l, o = some (a, l) ∧ o' = some (a', l) ∧ AR R a a') R (numberAt r) (numberAt r') := by
  unfold numberAt
  refine SR.shape h fun s s' hs => ?_
  have getPart : SR P F (fun R o o' => (o = none ∧ o' = none) ∨ ∃ a a' l, o = some (a, l) ∧ o' = some (a', l) ∧ AR R a a') R
      (do match ← getObj r with | .number a lost => pure (some (a, lost)) | _ => pure none) (do match ← getObj r' with | .number a lost => pure (some (a, lost)) | _ => pure none) := by
    refine SR.getObj h fun o o' ho hn => ?_
    cases ho with
    | number ha l => exact SR.pure (.inr ⟨_, _, l, rfl, rfl, ha⟩)
    | cells => exact absurd trivial hn
    | _ => exact SR.pure (.inl ⟨rfl, rfl⟩)
  rcases hs with ⟨rfl, rfl⟩ | ⟨e, n, n', rfl, rfl, hle⟩
  · exact getPart
  · exact sr_pure (.inl ⟨rfl, rfl⟩)
theorem sr_viewAt {r r' : Nat} (h : R r r') : SR P F (fun _ o o' => o = none ∧ o' = none) R (viewAt r) (viewAt r') := by
  unfold viewAt
  refine SR.shape h fun s s' hs => ?_
  have getPart : SR P F (fun _ o o' => o = none ∧ o' = none) R
      (do match ← getObj r with | .view a t => pure (some (a, t)) | _ => pure none) (do match ← getObj r' with | .view a t => pure (some (a, t)) | _ => pure none) := by
    refine SR.getObj h fun o o' ho hn => ?_
    cases ho with
    | cells => exact absurd trivial hn
    | _ => exact SR.pure ⟨rfl, rfl⟩
  rcases hs with ⟨rfl, rfl⟩ | ⟨e, n, n', rfl, rfl, hle⟩
  · exact getPart
  · exact sr_pure ⟨rfl, rfl⟩
theorem sr_behind {a a' : Addr} (h : AR R a a') : SR P F (fun R p p' => AR R p.1 p'.1 ∧ p'.2 = p.2) R (behindNumber a) (behindNumber a') := by
  unfold behindNumber
  refine sr_bind _ (sr_numberAt h.1) fun R1 h1 o o' ho => ?_
  rcases ho with ⟨rfl, rfl⟩ | ⟨x, x', l, rfl, rfl, hx⟩
  · exact sr_pure ⟨h.mono h1, rfl⟩
  · exact sr_pure ⟨hx, rfl⟩
theorem cellAt_mono {d : Nat} {e : TypeId} {c c' off : Nat} {n : Int} {x : Nat} (hc : c ≤ c') (h : cellAtBytes P d e c off n = some x) : cellAtBytes P d e c' off n = some x := by
  unfold cellAtBytes at h ⊢
  simp only [bind, Option.bind, pure] at h ⊢
  split at h
  · cases h
  · rename_i h0
    rw [if_neg h0]
    cases hb : byteOfCell P d e (off % P.cellsOf e) with
    | none => simp [hb] at h
    | some y =>
      simp only [hb] at h ⊢
      split at h
      · cases h
      · rename_i h1
        rw [if_neg]
        · exact h
        · intro hh
          apply h1
          simp only [Bool.or_eq_true, decide_eq_true_eq] at hh ⊢
          rcases hh with hh | hh
          · exact .inl hh
          · right
            have : c * P.bytesOf e ≤ c' * P.bytesOf e := Nat.mul_le_mul_right _ hc
            have h3 : Int.ofNat (c * P.bytesOf e) ≤ Int.ofNat (c' * P.bytesOf e) := Int.ofNat_le.2 this
            omega

/-- Two pointers. -/
def PR : BR → Value → Value → Prop := fun R v v' => (v = .pointer none ∧ v' = .pointer none) ∨ ∃ a a', v = .pointer (some a) ∧ v' = .pointer (some a') ∧ AR R a a'
theorem PR.vr {v v' : Value} (h : PR R v v') : VR F R v v' := by
  rcases h with ⟨rfl, rfl⟩ | ⟨a, a', rfl, rfl, h⟩
  · exact .bot ⟨by simp, by simp, by simp⟩
  · exact .pointer h
theorem SR.weaken {α β : Type} {A B : BR → α → β → Prop} {R : BR} {s : Sem α} {s' : Sem β} (h : SR P F A R s s') (hk : ∀ R a a', A R a a' → B R a a') : SR P F B R s s' := by
  have := h.bind (k := Sem.pure) (k' := Sem.pure) (B := B) fun R1 _ a a' x => .pure (hk _ _ _ x)
  rwa [Sem.bind_pure', Sem.bind_pure'] at this

theorem sr_unsafeAdd (ts : Array TypeId) (t : TypeId) {a a' : Addr} {y y' : Value} (ha : AR R a a') (hy : VR F R y y') : SR P F PR R (Builtin.unsafeAdd_ ts t #[.pointer (some a), y]) (Builtin.unsafeAdd_ ts t #[.pointer (some a'), y']) := by
  unfold Builtin.unsafeAdd_
  dsimp only
  refine sr_bind _ (sr_asInt hy) fun R1 h1 n n' e => ?_
  cases e
  by_cases hn : n = 0
  · simp only [hn, if_true]
    refine sr_bind _ (sr_viewAt (ha.mono h1).1) fun R2 h2 o o' ⟨e1, e2⟩ => ?_
    subst e1 e2
    exact sr_pure (.inr ⟨_, _, rfl, rfl, (ha.mono h1).mono h2⟩)
  · simp only [hn, if_false]
    by_cases hn2 : n < 0
    · simp only [hn2, if_true]
      exact sr_unsupb (by trivial) _ _
    · simp only [hn2, if_false]
      refine SR.shape (ha.mono h1).1 fun s s' hs => ?_
      rcases hs with ⟨rfl, rfl⟩ | ⟨e, m, m', rfl, rfl, hle⟩
      · exact sr_unsup (by trivial) _
      · refine sr_program ?_
        rw [ha.2.1]
        cases hc : cellAtBytes P P.depth e (m / P.cellsOf e) a.off n with
        | none => exact sr_unsup (by trivial) _
        | some off =>
          have := cellAt_mono (Nat.div_le_div_right (c := P.cellsOf e) hle) hc
          simp only [this]
          exact sr_pure (.inr ⟨_, _, rfl, rfl, (ha.mono h1).1, rfl, ha.2.2.1, ha.2.2.2⟩)
theorem sr_asNumber {a a' : Addr} (h : AR R a a') (l : Bool) : V P F R (asNumber a l) (asNumber a' l) := by
  unfold asNumber newObj
  exact SR.new (OR.number h l) fun n n' => SR.pure (.pointer ⟨.inr ⟨rfl, rfl⟩, rfl, rfl, rfl⟩)
theorem sr_movedNumber (t : TypeId) {a a' : Addr} {y y' : Value} (ha : AR R a a') (hy : VR F R y y') : V P F R (movedNumber t (.pointer (some a)) y) (movedNumber t (.pointer (some a')) y') := by
  unfold movedNumber
  refine sr_bind _ (sr_underlying t) fun R1 h1 u u' ⟨e, _⟩ => ?_
  subst e
  dsimp only
  split
  · exact sr_unsupb (by trivial) _ _
  · simp only [Bool.false_eq_true, if_false]
    refine sr_bind _ (sr_behind (ha.mono h1)) fun R2 h2 p p' hp => ?_
    obtain ⟨b, l⟩ := p
    obtain ⟨b', l'⟩ := p'
    obtain ⟨hp1, hp2⟩ := hp
    simp only at hp1 hp2
    subst hp2
    refine sr_bind _ (sr_unsafeAdd _ _ hp1 ((hy.mono h1).mono h2)) fun R3 h3 v v' hv => ?_
    rcases hv with ⟨rfl, rfl⟩ | ⟨c, c', rfl, rfl, hc⟩
    · exact sr_pure (.bot ⟨by simp, by simp, by simp⟩)
    · exact sr_asNumber hc _
theorem dead_movedNone (t : TypeId) (k : IntKind) (n : Int) : Dead P (movedNumber t (.pointer none) (.int k n)) := by
  intro w
  unfold movedNumber
  rw [Sem.run_bind]
  unfold underlying
  simp only [Sem.run_bind, run_program, Result.andThen_ok]
  cases P.underlying t with
  | none => exact ⟨_, w, rfl, trivial⟩
  | some d =>
    simp only [Sem.run_pure, Result.andThen_ok]
    have add : Dead P (Builtin.unsafeAdd_ #[] t #[.pointer none, .int k n]) := by
      unfold Builtin.unsafeAdd_
      dsimp only
      refine Dead.later (s := asInt (.int k n)) (fun w => ⟨n, w, rfl⟩) fun m => ?_
      by_cases hn : m = 0
      · rw [if_pos hn]; exact dead_halt (by trivial)
      · rw [if_neg hn]
        by_cases hn2 : m < 0
        · rw [if_pos hn2]; exact Dead.bind (dead_halt (by trivial)) _
        · rw [if_neg hn2]; exact dead_halt (by trivial)
    cases d with
    | unsafePointer => exact ⟨_, w, rfl, trivial⟩
    | _ => exact add w

theorem sr_twoPlaces {α β : Type} {A : BR → α → β → Prop} (hG : P.globals.size = 0) (a b : Addr) (k : Nat × Nat → Sem α) (s' : Sem β) : SR P F A R (Op.twoPlaces a b >>= k) s' :=
  .dead (Dead.bind (fun w => ⟨.unsupported .addressObserved, w, by simp [Op.twoPlaces, hG], trivial⟩) _)

theorem sr_byteOf {a a' : Addr} (h : AR R a a') : SR P F EqR R (byteOf a) (byteOf a') := by
  unfold byteOf
  rw [h.2.2.1, h.2.2.2]
  dsimp only
  refine sr_program ?_
  have hv : SR P F EqR R (noView a) (noView a') := by
    unfold noView
    refine sr_bind _ (sr_viewAt h.1) fun R2 h2 o o' ⟨e1, e2⟩ => ?_
    subst e1 e2
    exact sr_pure rfl
  refine sr_bind _ hv fun R1 h1 _ _ _ => ?_
  refine SR.shape (h.mono h1).1 fun s s' hs => ?_
  rcases hs with ⟨rfl, rfl⟩ | ⟨e, n, n', rfl, rfl, hle⟩
  · exact sr_stuck _ _
  · simp only [Sem.bind]
    rw [h.2.1]
    split
    · exact sr_pure rfl
    · split
      · exact sr_pure rfl
      · exact sr_stuck _ _

theorem base_desc {t : TypeId} (hb : baseT P t = true) : ∃ i, P.info? t = some i ∧ P.underlying t = some i.desc ∧ (i.desc = .bool ∨ ∃ k, i.desc = .int k) := by
  unfold baseT at hb
  cases hi : P.info? t with
  | none => rw [hi] at hb; cases hb
  | some i =>
    rw [hi] at hb
    refine ⟨i, rfl, ?_, ?_⟩
    · unfold Program.underlying
      rw [hi]
      cases hd : i.desc <;> simp only [hd] at hb <;> first | (cases hb; done) | (obtain ⟨⟩ := i; simp only at hd; subst hd; rfl)
    · cases hd : i.desc <;> simp only [hd] at hb <;> first | (cases hb; done) | exact .inl rfl | exact .inr ⟨_, rfl⟩

theorem sr_equal {t : TypeId} (hb : baseT P t = true) (hG : P.globals.size = 0) {x x' y y' : Value} (hx : VR F R x x') (hy : VR F R y y') : SR P F EqR R (Op.equal t x y) (Op.equal t x' y') := by
  obtain ⟨i, hi, hu, hd⟩ := base_desc hb
  unfold Op.equal Op.maxDepth
  show SR P F EqR R (Op.equalIn (9999 + 1) t x y) (Op.equalIn (9999 + 1) t x' y')
  unfold Op.equalIn
  refine sr_bind _ (sr_underlying t) fun R1 h1 d d' ⟨e, hu'⟩ => ?_
  subst e
  rw [hu] at hu'
  simp only [Option.some.injEq] at hu'
  subst hu'
  have hx1 := hx.mono h1
  have hy1 := hy.mono h1
  rcases hd with hd | ⟨k, hd⟩
  · rw [hd]
    cases hx1 <;> first
      | exact sr_stuck _ _
      | (cases hy1 <;> first | exact sr_stuck _ _ | exact sr_pure rfl)
  · rw [hd]
    have ptr : ∀ {a a' b b' : Addr}, AR R1 a a' → AR R1 b b' → SR P F EqR R1
        (do let (a, b) := ((← behindNumber a).1, (← behindNumber b).1)
            if a.block == b.block && a.block < (← program).globals.size then return (← byteOf a) == (← byteOf b)
            let .named "sync.copyChecker" _ := (← typeInfo t).desc | unsupported .addressObserved
            if a == b then pure true else unsupported .addressObserved)
        (do let (a, b) := ((← behindNumber a').1, (← behindNumber b').1)
            if a.block == b.block && a.block < (← program).globals.size then return (← byteOf a) == (← byteOf b)
            let .named "sync.copyChecker" _ := (← typeInfo t).desc | unsupported .addressObserved
            if a == b then pure true else unsupported .addressObserved) := by
      intro a a' b b' ha hb
      refine sr_bind _ (sr_behind ha) fun R2 h2 p p' hp => ?_
      refine sr_bind _ (sr_behind (hb.mono h2)) fun R3 h3 q q' hq => ?_
      dsimp only
      refine sr_program ?_
      simp only [hG, Nat.not_lt_zero, decide_false, Bool.and_false, Bool.false_eq_true, if_false]
      refine sr_bind _ (sr_typeInfo t) fun R4 h4 j j' ⟨e, hj⟩ => ?_
      subst e
      rw [hi] at hj
      simp only [Option.some.injEq] at hj
      subst hj
      rw [hd]
      exact sr_unsup (by trivial) _
    cases hx1 with
    | int k1 n => cases hy1 with
      | pointer ha => rcases n with (_ | m) | m <;> first | exact sr_pure rfl | exact sr_unsup (by trivial) _
      | int k2 m =>
        dsimp only
        by_cases hk : k1 = k2
        · simp only [hk, if_true]; exact sr_pure rfl
        · simp only [hk, if_false]; exact sr_stuck _ _
      | _ => first | exact sr_stuck _ _ | exact sr_unsup (by trivial) _
    | pointer ha => cases hy1 with
      | int k2 n => rcases n with (_ | m) | m <;> first | exact sr_pure rfl | exact sr_unsup (by trivial) _
      | pointer hb => exact ptr ha hb
      | _ => first | exact sr_stuck _ _ | exact sr_unsup (by trivial) _
    | _ => cases hy1 <;> first | exact sr_stuck _ _ | exact sr_unsup (by trivial) _
end
end Go.Proofs.Ytmfglflahlddbaa.Sm
