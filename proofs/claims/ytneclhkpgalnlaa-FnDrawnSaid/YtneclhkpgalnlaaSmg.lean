/-
  A SIMULATION OF TREES: calls; every operation of the subset.
-/
import Derived.Test.YtneclhkpgalnlaaSmf
namespace Go.Proofs.Ytneclhkpgalnlaa.Sm
open Go Go.Conc
set_option linter.unusedVariables false
set_option linter.unusedSimpArgs false
section
variable {P : Program} {F : FuncId → Prop} {R : BR}

theorem sr_unary (op : UnOp) {x x' : Value} (hx : VR F R x x') : V P F R (Op.unary op x) (Op.unary op x') := by
  cases op <;> cases hx <;> first | exact sr_pure (.int _ _) | exact sr_pure (.bool _) | exact sr_stuck _ _ | exact sr_unsup (by trivial) _

/-- An integer type. -/
def intT (P : Program) (t : TypeId) : Bool := match P.underlying t with
  | some (.int _) => true
  | _ => false
theorem sr_convert (s d : TypeId) (hs : intT P s = true) (hd : intT P d = true) {x x' : Value} (hx : VR F R x x') : V P F R (convert s d x) (convert s d x') := by
  unfold convert
  refine sr_bind _ (sr_underlying s) fun R1 h1 u u' ⟨e, hu⟩ => ?_
  subst e
  refine sr_bind _ (sr_underlying d) fun R2 h2 v v' ⟨e, hv⟩ => ?_
  subst e
  unfold intT at hs hd
  rw [hu] at hs
  rw [hv] at hd
  cases u' <;> simp only at hs <;> first | (cases hs; done) | skip
  cases v' <;> simp only at hd <;> first | (cases hd; done) | skip
  have hx2 := (hx.mono h1).mono h2
  cases hx2 <;> first | exact sr_pure (.int _ _) | exact sr_stuck _ _ | exact sr_unsup (by trivial) _

theorem eqGuardType_base {t : TypeId} (hb : baseT P t = true) : P.eqGuardType P.depth t = false := by
  obtain ⟨i, hi, hu, hd⟩ := base_desc hb
  unfold Program.depth
  show P.eqGuardType ((2 * (P.types.size + Made.depth) + 1) + 1) t = false
  unfold Program.eqGuardType
  rw [hu]
  rcases hd with hd | ⟨k, hd⟩ <;> rw [hd]

def isEq : BinOp → Bool
  | .eql | .neq => true
  | _ => false
theorem guard_not {op : BinOp} (h : isEq op = false) (t : TypeId) (xo yo : Operand) (a b : Value) : eqGuard op t xo yo a b = pure () := by
  unfold eqGuard
  cases op <;> first | rfl | cases h
theorem guard_l (op : BinOp) (t : TypeId) (xo yo : Operand) (a b : Value) (h1 : ∀ c, a ≠ .agg c) (h2 : a ≠ .nilIface) : eqGuard op t xo yo a b = pure () := by
  unfold eqGuard
  cases a <;> first | exact absurd rfl (h1 _) | exact absurd rfl h2 | (cases op <;> rfl)
theorem guard_r (op : BinOp) (t : TypeId) (xo yo : Operand) (a b : Value) (h1 : ∀ c, b ≠ .agg c) (h2 : b ≠ .nilIface) : eqGuard op t xo yo a b = pure () := by
  unfold eqGuard
  cases b <;> first | exact absurd rfl (h1 _) | exact absurd rfl h2 | (cases a <;> cases op <;> rfl)
theorem sr_guard {op : BinOp} {t : TypeId} (hb : baseT P t = true) (xo yo : Operand) (a b c d : Array Value) : SR P F EqR R (eqGuard op t xo yo (.agg a) (.agg b)) (eqGuard op t xo yo (.agg c) (.agg d)) := by
  cases he : isEq op with
  | false => rw [guard_not he, guard_not he]; exact sr_pure rfl
  | true =>
    have e := eqGuardType_base (P := P) hb
    have hop3 : op = .eql ∨ op = .neq := by cases op <;> first | (cases he; done) | exact .inl rfl | exact .inr rfl
    unfold eqGuard
    rcases hop3 with rfl | rfl
    · simp only [Bool.not_true, Bool.false_eq_true, if_false]
      refine sr_program (sr_program ?_)
      rw [e]
      exact sr_pure rfl
    · simp only [Bool.not_true, Bool.false_eq_true, if_false]
      refine sr_program (sr_program ?_)
      rw [e]
      exact sr_pure rfl
theorem dead_opL {op : BinOp} (he : isEq op = true) {t : TypeId} (hb : baseT P t = true) (y : Value) : Dead P (binOp op t (.pointer none) y) := by
  have hop3 : op = .eql ∨ op = .neq := by cases op <;> first | (cases he; done) | exact .inl rfl | exact .inr rfl
  rcases hop3 with rfl | rfl <;> cases y <;> exact Dead.bind (dead_eqL hb _) _
theorem dead_opR {op : BinOp} (he : isEq op = true) {t : TypeId} (hb : baseT P t = true) (x : Value) : Dead P (binOp op t x (.pointer none)) := by
  have hop3 : op = .eql ∨ op = .neq := by cases op <;> first | (cases he; done) | exact .inl rfl | exact .inr rfl
  rcases hop3 with rfl | rfl <;> cases x <;> exact Dead.bind (dead_eqR hb _) _

attribute [local irreducible] binOp Op.equal
theorem sr_guarded {op : BinOp} (hop : okBin op = true) {t : TypeId} (hb : baseT P t = true) (hG : P.globals.size = 0) (xo yo : Operand) {x x' y y' : Value} (hx : VR F R x x') (hy : VR F R y y') :
    V P F R (do eqGuard op t xo yo x y; binOp op t x y) (do eqGuard op t xo yo x' y'; binOp op t x' y') := by
  have main := @sr_binOp P F R op hop t hb hG x x' y y' hx hy
  cases he : isEq op with
  | false => rw [guard_not he, guard_not he]; exact main
  | true =>
    cases hx with
    | bot _ => rw [guard_l _ _ _ _ _ _ (by simp) (by simp)]; exact .dead (dead_opL he hb _)
    | @agg c c' hs hc =>
      cases hy with
      | bot _ => rw [guard_r _ _ _ _ (.agg c) _ (by simp) (by simp)]; exact .dead (dead_opR he hb _)
      | @agg d d' hs2 hd =>
        refine sr_bind _ (sr_guard hb xo yo c d c' d') fun R1 h1 _ _ _ => ?_
        exact sr_binOp hop hb hG ((VR.agg hs hc).mono h1) ((VR.agg hs2 hd).mono h1)
      | _ => rw [guard_r _ _ _ _ _ _ (by simp) (by simp), guard_r _ _ _ _ _ _ (by simp) (by simp)]; exact main
    | _ => rw [guard_l _ _ _ _ _ _ (by simp) (by simp), guard_l _ _ _ _ _ _ (by simp) (by simp)]; exact main

/-! ### calls -/
def okX (Fs : FuncId → Bool) : Operand → Bool
  | .tmp _ => true
  | .const v => plainB 64 v
  | .global _ => false
  | .func f => Fs f

def notIntT (P : Program) (t : TypeId) : Bool := match P.underlying t with
  | some (.int _) => false
  | _ => true
def okBuiltin (P : Program) : Builtin → Array TypeId → Bool
  | .append, ts => (match ts[0]? with | some t => elemOk P t | none => true) && (match ts[1]? with | some t => notIntT P t | none => true)
  | .len, _ | .min, _ | .max, _ => true
  | _, _ => false
def okCall (P : Program) (Fs : FuncId → Bool) (c : Call) : Bool :=
  c.args.all (okX Fs) && match c.callee with
    | .value f => okX Fs f
    | .invoke _ _ => false
    | .builtin b => okBuiltin P b c.argTypes

/-- Functions with a body of their own. -/
def HasBody (P : Program) (F : FuncId → Prop) : Prop := ∀ f, F f → ∃ fn, P.funcs[f]? = some fn ∧ (fn.name == "runtime.NumGoroutine") = false ∧ fn.body.isNone = false

theorem sr_builtin (b : Builtin) (ts : Array TypeId) (ty : TypeId) (cs : Array Bool) (hok : okBuiltin P b ts = true) {as as' : Array Value} (h : AVR F R as as') :
    SR P F (NR F) R (builtin b ts ty cs as) (builtin b ts ty cs as') := by
  have val : ∀ {s s' : Sem Value}, V P F R s s' → SR P F (NR F) R (do pure (.value (← s))) (do pure (.value (← s'))) := fun h => sr_bind _ h fun R1 h1 v v' hv => sr_pure (.value hv)
  unfold builtin
  cases b <;> first | (cases hok; done) | skip
  · simp only [okBuiltin, Bool.and_eq_true] at hok
    refine val (sr_append ts ty (fun t ht => ?_) (fun t ht => ?_) h)
    · have := hok.1; rw [ht] at this; exact this
    · have := hok.2; rw [ht] at this; unfold notIntT at this; exact this
  · exact val (sr_len ts ty h)
  · exact val (sr_max ts ty h)
  · exact val (sr_min ts ty h)

theorem sr_callFunc (hB : HasBody P F) {f : FuncId} (hf : F f) {as as' : Array Value} (h : AVR F R as as') : SR P F (NR F) R (callFunc f as) (callFunc f as') := by
  unfold callFunc
  refine sr_program ?_
  obtain ⟨fn, h1, h2, h3⟩ := hB f hf
  rw [h1]
  simp only [h2, h3, Bool.false_eq_true, if_false]
  exact sr_pure (.enter hf h)

def RhoR (F : FuncId → Prop) (R : BR) (Fs : FuncId → Bool) (ρ ρ' : Operand → Value) : Prop := ∀ x, okX Fs x = true → VR F R (ρ x) (ρ' x)

theorem sr_call (hB : HasBody P F) {Fs : FuncId → Bool} {ρ ρ' : Operand → Value} (hρ : RhoR F R Fs ρ ρ') (c : Call) (ty : TypeId) (hc : okCall P Fs c = true) :
    SR P F (NR F) R (do let d ← resolve ρ c ty; invoke d.target d.args) (do let d ← resolve ρ' c ty; invoke d.target d.args) := by
  simp only [okCall, Bool.and_eq_true] at hc
  obtain ⟨ha, hc⟩ := hc
  have hargs : AVR F R (c.args.map ρ) (c.args.map ρ') := AVR.map _ fun x hx => hρ x (by
    obtain ⟨i, hi, rfl⟩ := Array.mem_iff_getElem.1 hx
    exact Array.all_eq_true.1 ha i hi)
  unfold resolve
  cases hcal : c.callee with
  | builtin b =>
    rw [hcal] at hc
    exact sr_builtin b c.argTypes ty _ hc hargs
  | invoke r n => rw [hcal] at hc; cases hc
  | value f =>
    rw [hcal] at hc
    have hf := hρ f hc
    dsimp only
    generalize ρ f = v at hf
    generalize ρ' f = v' at hf
    cases hf with
    | @func g hg p p' cc cc' hp hcs ip ic =>
      exact sr_callFunc hB hg ((AVR.append ⟨hp, ip⟩ hargs).append ⟨hcs, ic⟩)
    | _ => exact sr_stuckb _ _ _

/-! ### the operations -/
def isZero : Operand → Bool
  | .const (.int _ n) => n == 0
  | _ => false
theorem isZero_spec {x : Operand} (h : isZero x = true) : ∃ k, x = .const (.int k 0) := by
  unfold isZero at h
  split at h
  · exact ⟨_, by rw [eq_of_beq h]⟩
  · cases h
def okOp (P : Program) (Fs : FuncId → Bool) : Op → Bool
  | .move x | .assign x | .box _ x | .load _ x | .nilCheck x | .unOp _ _ x | .extract x _ => okX Fs x
  | .makeChan _ x => isZero x
  | .pick c a b => okX Fs c && okX Fs a && okX Fs b
  | .alloc e => zeroOk P e
  | .buildSlice t _ ps => elemOk P t && ps.all (fun p => okX Fs p.2)
  | .store _ a v => okX Fs a && okX Fs v
  | .binOp op t x y _ => okBin op && baseT P t && okX Fs x && okX Fs y
  | .convert s d x => intT P s && intT P d && okX Fs x
  | .makeFunc (.func f) first captured => Fs f && first.all (okX Fs) && captured.all (okX Fs)
  | .makeMap _ none => true
  | .makeSlice t l c => elemOk P t && okX Fs l && okX Fs c
  | .fieldAddr s x f => fieldOk P s f && okX Fs x
  | .indexAddr _ x i => okX Fs x && okX Fs i
  | .call c => okCall P Fs c
  | _ => false

theorem PVR.of {l : List (Nat × Operand)} {Fs : FuncId → Bool} {ρ ρ' : Operand → Value} (hρ : RhoR F R Fs ρ ρ') : l.all (fun p => okX Fs p.2) = true → PVR F R (l.map fun (i, x) => (i, ρ x)) (l.map fun (i, x) => (i, ρ' x)) := by
  induction l with
  | nil => intro _; trivial
  | cons p l ih =>
    intro h
    simp only [List.all_cons, Bool.and_eq_true] at h
    exact ⟨rfl, hρ _ h.1, ih h.2⟩

theorem avr_map {Fs : FuncId → Bool} {ρ ρ' : Operand → Value} (hρ : RhoR F R Fs ρ ρ') {xs : Array Operand} (h : xs.all (okX Fs) = true) : AVR F R (xs.map ρ) (xs.map ρ') := AVR.map _ fun x hx => hρ x (by
    obtain ⟨i, hi, rfl⟩ := Array.mem_iff_getElem.1 hx
    exact Array.all_eq_true.1 h i hi)

theorem sr_execOp {Fs : FuncId → Bool} (hB : HasBody P (fun f => Fs f = true)) (hG : P.globals.size = 0) {ρ ρ' : Operand → Value} (hρ : RhoR (fun f => Fs f = true) R Fs ρ ρ') (hρ' : ∀ x v, x = .const v → ρ x = v ∧ ρ' x = v) (o : Oper) (hok : okOp P Fs o.op = true) :
    SR P (fun f => Fs f = true) (NR fun f => Fs f = true) R (execOp ρ o) (execOp ρ' o) := by
  have val : ∀ {s s' : Sem Value}, V P (fun f => Fs f = true) R s s' → SR P (fun f => Fs f = true) (NR fun f => Fs f = true) R (do pure (.value (← s))) (do pure (.value (← s'))) := fun h => sr_bind _ h fun R1 h1 v v' hv => sr_pure (.value hv)
  have unt : ∀ {s s' : Sem Unit}, SR P (fun f => Fs f = true) EqR R s s' → SR P (fun f => Fs f = true) (NR fun f => Fs f = true) R (do s; pure .skip) (do s'; pure .skip) := fun h => sr_bind _ h fun R1 h1 v v' hv => sr_pure .skip
  unfold execOp
  cases ho : o.op <;> rw [ho] at hok <;> simp only [okOp, Bool.and_eq_true] at hok <;> try (cases hok; done)
  case move x => exact sr_pure (.value (hρ x hok))
  case assign x => exact sr_pure (.value (hρ x hok))
  case pick c a b =>
    refine sr_bind _ (sr_asBool (hρ c hok.1.1)) fun R1 h1 t t' e => ?_
    cases e
    cases t
    · exact sr_pure (.value ((hρ b hok.2).mono h1))
    · exact sr_pure (.value ((hρ a hok.1.2).mono h1))
  case alloc e => exact val (sr_alloc e hok)
  case box e x => exact val (sr_box e (hρ x hok))
  case buildSlice t n ps =>
    refine val (sr_buildSlice t n hok.1 ?_)
    simp only [Array.toList_map]
    exact PVR.of hρ (by simpa [Array.all_toList] using hok.2)
  case load t a => exact val (sr_loadAt t (hρ a hok))
  case store t a x => exact unt (sr_storeAt t (hρ a hok.1) (hρ x hok.2))
  case nilCheck x =>
    have hx := hρ x hok
    dsimp only
    generalize ρ x = v at hx
    generalize ρ' x = v' at hx
    cases hx <;> first
      | exact .dead dead_nil
      | exact sr_pure (.value (by first | exact .bool _ | exact .int _ _ | exact .sliceNone _ _ | exact .mapNone | exact .chanNone | exact .pointer (by assumption) | exact .slice (by assumption) _ _ | exact .map (by assumption) | exact .chan (by assumption) | exact .func (by assumption) (by assumption) (by assumption) (by assumption) (by assumption) | exact .agg (by assumption) (by assumption) | exact .tuple (by assumption) (by assumption)))
  case binOp op t x y _ => exact val (sr_guarded hok.1.1.1 hok.1.1.2 hG x y (hρ x hok.1.2) (hρ y hok.2))
  case unOp op t x => exact val (sr_unary op (hρ x hok))
  case convert s d x => exact val (sr_convert s d hok.1.1 hok.1.2 (hρ x hok.2))
  case makeFunc fn first captured =>
    cases fn <;> simp only [okOp, Bool.and_eq_true] at hok <;> try (cases hok; done)
    have h1 := avr_map hρ hok.1.2
    have h2 := avr_map hρ hok.2
    exact sr_pure (.value (.func hok.1.1 h1.1 h2.1 h1.2 h2.2))
  case makeMap t r =>
    cases r with
    | some _ => cases hok
    | none =>
      refine val ?_
      exact SR.new (OR.map (F := fun f => Fs f = true) (R := R) (es := #[]) (es' := #[]) (clock := 0) rfl fun i h _ => by simp at h) fun n n' => .pure (.map (.inr ⟨rfl, rfl⟩))
  case makeChan t x =>
    obtain ⟨k, rfl⟩ := isZero_spec hok
    have h1 := hρ (.const (.int k 0)) rfl
    have h2 := hρ' (.const (.int k 0)) (.int k 0) rfl
    dsimp only
    rw [h2.1, h2.2]
    exact val (sr_makeChan t k)
  case makeSlice t l c => exact val (sr_makeSlice t hok.1.1 (hρ l hok.1.2) (hρ c hok.2))
  case fieldAddr s x f => exact val (sr_fieldAt s f hok.1 (hρ x hok.2))
  case indexAddr t x i => exact val (sr_indexAt t (hρ x hok.1) (hρ i hok.2))
  case extract x i => exact val (sr_extract i (hρ x hok))
  case call c => exact sr_call hB hρ c o.type hok
end
end Go.Proofs.Ytneclhkpgalnlaa.Sm
