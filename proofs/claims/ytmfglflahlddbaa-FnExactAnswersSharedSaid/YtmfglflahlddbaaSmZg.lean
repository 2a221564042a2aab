/-
  A LONE WALK CUT IN THE MIDDLE OF A REGION; stretches.
-/
import Derived.Test.YtmfglflahlddbaaSmZf
import Derived.OrdersHeld
namespace Go.Proofs.Ytmfglflahlddbaa.Sm
open Go Go.Conc
set_option linter.unusedVariables false
set_option linter.unusedSimpArgs false

/-- The walk ends by going on. -/
def QN (K : Act → World → Prop) : Exit → Act → World → Prop := fun e a w => e = .normal ∧ K a w

section
variable {P : Program}

/-- The first operations of a region. -/
theorem ops_more {ops ops2 : Array Oper} {K : Act → World → Prop} (hy : ∀ t, yielded ops2 t = yielded ops t) (l : List Nat) : ∀ (a : Act) (w : World), (∀ i ∈ l, ops2[i]? = ops[i]?) → wpOps P ops2 (QN K) l a w → ∀ (b : Frame) (r : List Nat) (k : List Item) (cs : List Frame),
    ∃ a' w', K a' w' ∧ Steps P (lone (b.at a (.inRegion ops (l ++ r) :: k)) cs w) (lone (b.at a' (.inRegion ops r :: k)) cs w') := by
  induction l with
  | nil => exact fun a w _ h b r k cs => ⟨a, w, h.2, Steps.refl _ _⟩
  | cons i rest ih =>
    intro a w hs h b r k cs
    have ih := fun a w h => ih a w (fun j hj => hs j (List.mem_cons_of_mem _ hj)) h
    have hi := hs i (List.mem_cons_self ..)
    simp only [wpOps] at h
    rw [hi] at h
    rw [List.cons_append]
    cases ho : ops[i]? with
    | none =>
      simp only [ho] at h
      obtain ⟨a', w', hq, harr⟩ := ih a w h b r k cs
      have hs := step_op_skip (P := P) (b := b) (a := a) (k := k) (cs := cs) (w := w) (ops := ops) (i := i) (rest := rest ++ r) (by simp [ho])
      simp only [ho, Option.bind_none, Act.put] at hs
      exact ⟨a', w', hq, .head hs harr⟩
    | some o =>
      simp only [ho] at h
      rw [hy] at h
      by_cases hw : Region.wanted o (yielded ops a.tmps) = true
      · simp only [hw, if_true] at h
        rcases h with h | ⟨_, a₀, w₀, hq⟩
        case inr => cases hq.1
        simp only [Oper.wp, Oper.upon] at h
        have hg := stepG_op (P := P) (b := b) (k := k) (cs := cs) (w := w) (rest := rest ++ r) ho hw
        have hfin : ∀ v, (b.at a (.inRegion ops (i :: (rest ++ r)) :: k)).finish v = b.at (a.put o.dst v) (.inRegion ops (rest ++ r) :: k) := by
          intro v; rw [Frame.finish_at, ho]; rfl
        split at h
        · rename_i v w' hr
          obtain ⟨a', w'', hq, harr⟩ := ih _ _ h b r k cs
          refine ⟨a', w'', hq, .head (step_lone_go ?_) harr⟩
          rw [hg, ← hfin]; simp [stepG.apply, hr]
        · rename_i w' hr
          obtain ⟨a', w'', hq, harr⟩ := ih _ _ h b r k cs
          refine ⟨a', w'', hq, .head (step_lone_go ?_) harr⟩
          rw [hg, ← hfin]; simp [stepG.apply, hr]
        · rename_i d w' hr
          obtain ⟨a', w'', hq, harr⟩ := ih _ _ h b r k cs
          refine ⟨a', w'', hq, .head (step_lone_go ?_) harr⟩
          have : ({ b.at a (.inRegion ops (i :: (rest ++ r)) :: k) with defers := d :: a.defers } : Frame).finish undef =
              b.at ({ a with defers := d :: a.defers }.put o.dst undef) (.inRegion ops (rest ++ r) :: k) := by
            have := Frame.finish_at b { a with defers := d :: a.defers } ops i (rest ++ r) k undef
            rw [ho] at this; exact this
          rw [hg]; simp only [stepG.apply, Sem.runT_eq, hr, GStep.bare_after]
          exact congrArg (fun fr => GStep.go { frame := fr, callers := cs, status := .running, dying := none } w') this
        · rename_i f args w' hr
          obtain ⟨e, w'', fr, hR, hsteps, _, hleave⟩ := h (b.at a (.inRegion ops (i :: (rest ++ r)) :: k) :: cs)
          have henter : step P (lone (b.at a (.inRegion ops (i :: (rest ++ r)) :: k)) cs w) =
              .next (lone (Frame.enter P f args .normal) (b.at a (.inRegion ops (i :: (rest ++ r)) :: k) :: cs) w') :=
            step_lone_go (by rw [hg]; simp [stepG.apply, hr, Frame.at])
          cases e with
          | returned v =>
            obtain ⟨a', w₃, hq, harr⟩ := ih _ _ hR b r k cs
            refine ⟨a', w₃, hq, .head henter (Steps.trans hsteps (.head ?_ harr))⟩
            rw [← hfin]; exact step_leave_returned hleave
          | panicked chain => cases hR.1
          | outgrown => obtain ⟨_, _, hq⟩ := hR; cases hq.1
        · rename_i row args w' hr
          obtain ⟨v, w'', hR, hsteps⟩ := h (b.at a (.inRegion ops (i :: (rest ++ r)) :: k)) cs
          have henter : step P (lone (b.at a (.inRegion ops (i :: (rest ++ r)) :: k)) cs w) =
              .next (lone (Frame.ofRow P row args .normal) (b.at a (.inRegion ops (i :: (rest ++ r)) :: k) :: cs) w') :=
            step_lone_go (by rw [hg]; simp [stepG.apply, hr, Frame.at])
          obtain ⟨a', w₃, hq, harr⟩ := ih _ _ hR b r k cs
          refine ⟨a', w₃, hq, .head henter (Steps.trans hsteps ?_)⟩
          rw [hfin]; exact harr
        · cases h.1
        · exact h.elim
      · simp only [hw, if_false, Bool.false_eq_true] at h
        obtain ⟨a', w', hq, harr⟩ := ih _ _ h b r k cs
        have hs := step_op_skip (P := P) (b := b) (a := a) (k := k) (cs := cs) (w := w) (ops := ops) (i := i) (rest := rest ++ r)
          (by simp [ho]; simpa using hw)
        simp only [ho, Option.bind_some] at hs
        exact ⟨a', w', hq, .head hs harr⟩

/-- A walk that goes on arrives. -/
theorem wp_steps {c : Code} {K : Act → World → Prop} {a : Act} {w : World} (h : c.wp P (QN K) a w) (b : Frame) (k : List Item) (cs : List Frame) : ∃ a' w', K a' w' ∧ Steps P (lone (b.at a (.code c :: k)) cs w) (lone (b.at a' k) cs w') := by
  obtain ⟨e, a', w', ⟨rfl, hq⟩, harr⟩ := h b k cs
  exact ⟨a', w', hq, harr⟩
theorem wp_steps_exit {c : Code} {id : Nat} {K : Act → World → Prop} {a : Act} {w : World} (h : c.wp P (fun e a w => e = .exit id ∧ K a w) a w) (b : Frame) {k k' : List Item} (hk : exitTo id k = some k') (cs : List Frame) : ∃ a' w', K a' w' ∧ Steps P (lone (b.at a (.code c :: k)) cs w) (lone (b.at a' k') cs w') := by
  obtain ⟨e, a', w', ⟨rfl, hq⟩, harr⟩ := h b k cs
  exact ⟨a', w', hq, harr k' hk⟩

/-! ### the last operation of a region that draws its order -/
def unl (n : Nat) (listed : Array Bool) : List Nat := (List.range n).filter fun i => !listed.getD i true

theorem filter_one {p q : Nat → Bool} {i : Nat} (hp : p i = true) (hq : ∀ j, q j = (p j && (j != i))) : ∀ (l : List Nat), l.Nodup → i ∈ l → (l.filter q).length + 1 = (l.filter p).length
  | [], _, h => by cases h
  | x :: l, hn, h => by
    rw [List.nodup_cons] at hn
    by_cases e : x = i
    · subst e
      have hnot : (l.filter q) = l.filter p := List.filter_congr fun y hy => by
        rw [hq]
        have : (y != x) = true := by
          simp only [bne_iff_ne, ne_eq]
          rintro rfl; exact hn.1 hy
        rw [this, Bool.and_true]
      have hqx : q x = false := by rw [hq]; simp
      simp [List.filter_cons, hp, hqx, hnot]
    · have hi : i ∈ l := (List.mem_cons.1 h).resolve_left (Ne.symm e)
      have ih := filter_one hp hq l hn.2 hi
      have hxq : q x = p x := by
        rw [hq]
        have : (x != i) = true := by simpa using e
        rw [this, Bool.and_true]
      rw [List.filter_cons, List.filter_cons, hxq]
      split
      · simp; omega
      · exact ih

theorem unl_set {n i : Nat} {listed : Array Bool} (hs : listed.size = n) (hi : i < n) (hl : listed.getD i true = false) : (unl n (listed.setIfInBounds i true)).length + 1 = (unl n listed).length := by
  refine filter_one (i := i) (by rw [hl]; rfl) (fun j => ?_) _ List.nodup_range (List.mem_range.2 hi)
  by_cases e : j = i
  · subst e
    simp [Array.getD_eq_getD_getElem?, hs, hi]
  · have : (j != i) = true := by simpa using e
    rw [this, Bool.and_true]
    simp only [Array.getD_eq_getD_getElem?, Array.getElem?_setIfInBounds_ne (Ne.symm e)]

theorem go_last {ops : Array Oper} {md : Region.Mode} {n : Nat} (hn : ops.size = n + 1) (hlt : ∀ (i : Nat) o, ops[i]? = some o → ∀ e ∈ o.after, Region.binds md e = true → e.on < i)
    (hj : ∀ o, ops[n]? = some o → ∀ i, i < n → ∃ e ∈ o.after, Region.binds md e = true ∧ e.on = i) :
    ∀ (fuel t : Nat) (listed : Array Bool), listed.size = n + 1 → fuel = (unl (n + 1) listed).length → listed.getD n true = false → ∃ l', Region.linearise.go md ops fuel t listed [] = l' ++ [n] ∧ n ∉ l' := by
  intro fuel
  induction fuel with
  | zero =>
    intro t listed hs hf hl
    have : n ∈ unl (n + 1) listed := List.mem_filter.2 ⟨List.mem_range.2 (by omega), by rw [hl]; rfl⟩
    rw [List.eq_nil_of_length_eq_zero hf.symm] at this
    cases this
  | succ fuel ih =>
    intro t listed hs hf hl
    -- somebody is ready
    have hne : Region.ready md ops listed ≠ [] := by
      have key : ∀ m, (∃ i, i < m ∧ i ≤ n ∧ listed.getD i true = false) → ∃ i, i ∈ Region.ready md ops listed := by
        intro m
        induction m with
        | zero => rintro ⟨i, h, _⟩; omega
        | succ m ihm =>
          rintro ⟨i, h1, h2, h3⟩
          by_cases hex : ∃ i, i < m ∧ i ≤ n ∧ listed.getD i true = false
          · exact ihm hex
          · have him : i = m := by
              rcases Nat.lt_or_ge i m with h | h
              · exact absurd ⟨i, h, h2, h3⟩ hex
              · omega
            subst him
            refine ⟨i, mem_ready.2 ⟨h3, ops[i]'(by omega), by simp, fun e he hb => ?_⟩⟩
            have hlt' := hlt i (ops[i]'(by omega)) (by simp) e he hb
            cases hd : listed.getD e.on true with
            | false => exact absurd ⟨e.on, hlt', by omega, hd⟩ hex
            | true =>
              rw [Array.getD_eq_getD_getElem?] at hd ⊢
              rw [Array.getElem?_eq_getElem (by omega)] at hd ⊢
              simpa using hd
      obtain ⟨i, hi⟩ := key (n + 1) ⟨n, by omega, Nat.le_refl _, hl⟩
      intro h; rw [h] at hi; cases hi
    simp only [Region.linearise.go]
    change ∃ l', (match (Region.ready md ops listed)[t % (Region.ready md ops listed).length]? with
      | some i => Region.linearise.go md ops fuel (t / (Region.ready md ops listed).length) (listed.setIfInBounds i true) [i]
      | none => [].reverse) = l' ++ [n] ∧ n ∉ l'
    have hlen : 0 < (Region.ready md ops listed).length := List.length_pos_iff.2 hne
    have hmod := Nat.mod_lt t hlen
    rw [List.getElem?_eq_getElem hmod]
    simp only []
    generalize hi : (Region.ready md ops listed)[t % (Region.ready md ops listed).length] = i
    have hir : i ∈ Region.ready md ops listed := hi ▸ List.getElem_mem hmod
    obtain ⟨h1, o, h2, h3⟩ := mem_ready.1 hir
    have hin : i ≤ n := by have := (Array.getElem?_eq_some_iff.1 h2).1; omega
    have hun := unl_set hs (show i < n + 1 by omega) h1
    rw [linearise_go_acc, List.reverse_singleton, List.singleton_append]
    by_cases e : i = n
    · subst e
      have hz : fuel = 0 := by
        have : unl (i + 1) listed = [i] := by
          unfold unl
          rw [List.range_succ, List.filter_append]
          have h4 : (List.range i).filter (fun j => !listed.getD j true) = [] := by
            rw [List.filter_eq_nil_iff]
            intro j hj'
            obtain ⟨ed, he, hb, hon⟩ := hj o h2 j (List.mem_range.1 hj')
            have := h3 ed he hb
            rw [hon] at this
            have hjl := List.mem_range.1 hj'
            rw [Array.getD_eq_getD_getElem?, Array.getElem?_eq_getElem (by omega)] at this ⊢
            simp only [Option.getD_some] at this ⊢
            simp [this]
          have h1' : listed[i]?.getD true = false := by rw [← Array.getD_eq_getD_getElem?]; exact h1
          rw [h4]
          simp [h1']
        rw [this] at hf
        simpa using hf
      subst hz
      exact ⟨[], by simp [Region.linearise.go], by simp⟩
    · obtain ⟨l', h4, h5⟩ := ih (t / (Region.ready md ops listed).length) (listed.setIfInBounds i true) (by simpa using hs) (by omega) (by
        rw [Array.getD_eq_getD_getElem?, Array.getElem?_setIfInBounds_ne e, ← Array.getD_eq_getD_getElem?]; exact hl)
      exact ⟨i :: l', by rw [h4]; rfl, by simp [Ne.symm e, h5]⟩

/-- A region that draws its order, up to its last operation. -/
theorem region_cut {ops ops2 : Array Oper} {K : Act → World → Prop} {n id : Nat} (hm : P.follows .mixedOrders = true) (hn : ops.size = n + 1) (hn2 : ops2.size = n + 1) (hy : ∀ t, yielded ops2 t = yielded ops t)
    (hsame : ∀ i : Nat, i ≠ n → ops2[i]? = ops[i]?) (haf : ∀ i : Nat, (ops2[i]?).map (fun o : Oper => o.after) = (ops[i]?).map (fun o : Oper => o.after)) (hlt : ∀ (i : Nat) o, ops[i]? = some o → ∀ e ∈ o.after, Region.binds .any e = true → e.on < i)
    (hj : ∀ o, ops[n]? = some o → ∀ i, i < n → ∃ e ∈ o.after, Region.binds .any e = true ∧ e.on = i) (hlast : ∃ o2 x, ops2[n]? = some o2 ∧ o2.op = .move x ∧ o2.dst = none ∧ o2.guard = none) {a : Act} {w : World}
    (h : wpAny P .any ops2 (QN K) ops2.size (Array.replicate ops2.size false) a { w with drawn := w.drawn + 1 }) (b : Frame) (k : List Item) (cs : List Frame) :
    ∃ a' w', K a' w' ∧ Steps P (lone (b.at a (.code (.region id ops true) :: k)) cs w) (lone (b.at a' (.inRegion ops [n] :: k)) cs w') := by
  have hgo : ∀ fuel t listed, Region.linearise.go .any ops2 fuel t listed [] = Region.linearise.go .any ops fuel t listed [] := by
    intro fuel
    have hready : ∀ listed, Region.ready .any ops2 listed = Region.ready .any ops listed := by
      intro listed
      unfold Region.ready
      rw [hn, hn2]
      refine List.filter_congr fun i _ => ?_
      have := haf i
      cases h1 : ops[i]? <;> cases h2 : ops2[i]? <;> rw [h1, h2] at this <;> simp at this ⊢
      rw [this]
    induction fuel with
    | zero => intro t listed; rfl
    | succ fuel ih =>
      intro t listed
      simp only [Region.linearise.go]
      change (match (Region.ready .any ops2 listed)[t % (Region.ready .any ops2 listed).length]? with
        | some i => Region.linearise.go .any ops2 fuel (t / (Region.ready .any ops2 listed).length) (listed.setIfInBounds i true) [i]
        | none => [].reverse) = (match (Region.ready .any ops listed)[t % (Region.ready .any ops listed).length]? with
        | some i => Region.linearise.go .any ops fuel (t / (Region.ready .any ops listed).length) (listed.setIfInBounds i true) [i]
        | none => [].reverse)
      rw [hready]
      cases (Region.ready .any ops listed)[t % (Region.ready .any ops listed).length]? with
      | none => rfl
      | some i => simp only []; rw [linearise_go_acc, linearise_go_acc (ops := ops), ih]
  obtain ⟨t, ht⟩ : ∃ t, t = w.tape w.drawn (.order b.fn id) := ⟨_, rfl⟩
  have hw := wpAny_sound ops2.size t _ a _ h
  rw [hgo, hn2] at hw
  obtain ⟨l', hl, hnl⟩ := go_last hn hlt hj (n + 1) t (Array.replicate (n + 1) false) (by simp) (by
    unfold unl
    rw [List.filter_eq_self.2 (fun i hi => by
      have := List.mem_range.1 hi
      simp [Array.getD_eq_getD_getElem?, this])]
    simp) (by simp [Array.getD_eq_getD_getElem?])
  rw [hl] at hw
  -- the last one is a move
  have happ : ∀ (l : List Nat) a w, wpOps P ops2 (QN K) (l ++ [n]) a w → wpOps P ops2 (QN K) l a w := by
    intro l
    induction l with
    | nil =>
      intro a w h
      obtain ⟨o2, x, k1, k2, k3, k4⟩ := hlast
      simp only [List.nil_append, wpOps, k1, wanted_none k4, if_true] at h
      rcases h with h | ⟨_, _, _, hq⟩
      · have hr : (execOp a.eval o2).run P w = .ok (.value (a.eval x)) w := by unfold execOp; rw [k2]; rfl
        simp only [Oper.wp, Oper.upon, hr, k3, Act.put] at h
        exact h
      · cases hq.1
    | cons i l ih =>
      intro a w h
      rw [List.cons_append, wpOps_cons] at h
      rw [wpOps_cons]
      exact wpOp_mono (fun a w h => ih a w h) h
  obtain ⟨a', w', hk, hs⟩ := ops_more hy l' a _ (fun i hi => hsame i (fun e => hnl (e ▸ hi))) (happ _ _ _ hw) b [n] k cs
  refine ⟨a', w', hk, .head step_region_draw ?_⟩
  have : Region.schedule (P.follows .mixedOrders) ops (w.tape w.drawn (.order b.fn id)) = l' ++ [n] := by
    simp only [Region.schedule, hm, Bool.true_or, if_true]
    show Region.linearise.go .any ops ops.size _ _ [] = _
    rw [hn, ← ht]; exact hl
  rw [this]; exact hs

/-! ### stretches -/
theorem Seg.of_steps {Ch : Nat → Prop} {Q : VStop} {fr : Frame} {up : List Frame} {v : World} (h : ∀ T d, ∃ fr1 up1 v1, Steps P (lone fr (up ++ [trap]) (Sm.rt v T d)) (lone fr1 (up1 ++ [trap]) v1) ∧ Seg P Ch Q fr1 up1 v1) : Seg P Ch Q fr up v := fun T d => by
  obtain ⟨fr1, up1, v1, hs, hseg⟩ := h T d
  obtain ⟨frS, upS, vS, h1, h2⟩ := hseg v1.tape v1.drawn
  exact ⟨frS, upS, vS, Steps.trans hs h1, h2⟩

/-- What was there stands. -/
structure OldSame (v v' : World) : Prop where
  size : v.heap.size ≤ v'.heap.size
  block : ∀ b, b < v.heap.size → v'.heap[b]? = v.heap[b]?
theorem OldSame.refl (v : World) : OldSame v v := ⟨Nat.le_refl _, fun _ _ => rfl⟩
theorem OldSame.trans {a b c : World} (h : OldSame a b) (k : OldSame b c) : OldSame a c := ⟨Nat.le_trans h.size k.size, fun i hi => (k.block i (Nat.lt_of_lt_of_le hi h.size)).trans (h.block i hi)⟩
theorem OldSame.heap {a b : World} (h : b.heap = a.heap) : OldSame a b := ⟨by rw [h]; exact Nat.le_refl _, fun i _ => by rw [h]⟩
theorem OldSame.get {a b : World} (h : OldSame a b) {i : Nat} {o : Obj} (ho : a.heap[i]? = some o) : b.heap[i]? = some o := by rw [h.block i (Array.getElem?_eq_some_iff.1 ho).1]; exact ho
theorem OldSame.cell {a b : World} (h : OldSame a b) {p : Addr} {x : Value} (hx : a.cell? p = some x) : b.cell? p = some x := by
  unfold World.cell? at hx ⊢
  cases ho : a.heap[p.block]? with
  | none => rw [ho] at hx; cases hx
  | some o => rw [ho] at hx; rw [h.get ho]; exact hx
end
end Go.Proofs.Ytmfglflahlddbaa.Sm
namespace Go.Proofs.Ytmfglflahlddbaa.Sm
open Go Go.Conc
set_option linter.unusedVariables false
set_option linter.unusedSimpArgs false

theorem pt_int {k : IntKind} {z : Int} {b : Nat} : ¬ Pt (.int k z) b := fun h => by cases h
theorem pt_bool {z : Bool} {b : Nat} : ¬ Pt (.bool z) b := fun h => by cases h
theorem pt_none {b : Nat} : ¬ Pt (.pointer none) b := fun h => by cases h

/-! ### forgetting -/
theorem lump_of {F : FuncId → Prop} {R : BR} {x x' : Value} (h : VR F R x x') (h1 : ∀ cs, x ≠ .agg cs) (h2 : ∀ cs, x ≠ .tuple cs) (h3 : ∀ b, x ≠ .bool b) : VR F R (.pointer none) x' := by
  cases h with
  | bot h => exact .bot h
  | bool b => exact absurd rfl (h3 b)
  | agg hs h => exact absurd rfl (h1 _)
  | tuple hs h => exact absurd rfl (h2 _)
  | _ => exact .bot ⟨by simp, by simp, by simp⟩
theorem fade_ex (x : Value) : ∃ u, (∀ b, ¬ Pt u b) ∧ ∀ F R x', VR F R x x' → VR F R u x' := by
  match x with
  | .bool b => exact ⟨.bool b, fun _ => pt_bool, fun _ _ _ h => h⟩
  | .agg c =>
    have ih : ∀ i (h : i < c.size), ∃ u, (∀ b, ¬ Pt u b) ∧ ∀ F R x', VR F R c[i] x' → VR F R u x' := fun i h => fade_ex c[i]
    refine ⟨.agg (Array.ofFn fun i : Fin c.size => Classical.choose (ih i.1 i.2)), fun b hb => ?_, fun F R x' hx => ?_⟩
    · cases hb with
      | @agg _ i y _ h hx =>
        obtain ⟨hi, rfl⟩ := Array.getElem?_eq_some_iff.1 h
        simp only [Array.getElem_ofFn] at hx
        exact (Classical.choose_spec (ih i (by simpa using hi))).1 b hx
    · cases hx with
      | agg hs h =>
        refine .agg (by simpa using hs) fun i h1 h2 => ?_
        simp only [Array.getElem_ofFn]
        have h1' : i < c.size := by simpa using h1
        exact (Classical.choose_spec (ih i h1')).2 F R _ (h i h1' h2)
  | .tuple c =>
    have ih : ∀ i (h : i < c.size), ∃ u, (∀ b, ¬ Pt u b) ∧ ∀ F R x', VR F R c[i] x' → VR F R u x' := fun i h => fade_ex c[i]
    refine ⟨.tuple (Array.ofFn fun i : Fin c.size => Classical.choose (ih i.1 i.2)), fun b hb => ?_, fun F R x' hx => ?_⟩
    · cases hb with
      | @tuple _ i y _ h hx =>
        obtain ⟨hi, rfl⟩ := Array.getElem?_eq_some_iff.1 h
        simp only [Array.getElem_ofFn] at hx
        exact (Classical.choose_spec (ih i (by simpa using hi))).1 b hx
    · cases hx with
      | tuple hs h =>
        refine .tuple (by simpa using hs) fun i h1 h2 => ?_
        simp only [Array.getElem_ofFn]
        have h1' : i < c.size := by simpa using h1
        exact (Classical.choose_spec (ih i h1')).2 F R _ (h i h1' h2)
  | .int _ _ | .pointer _ | .slice .. | .string _ | .float .. | .complex .. | .map _ | .chan _ | .func .. | .nilFunc | .nilIface | .iface .. => exact ⟨.pointer none, fun _ => pt_none, fun _ _ _ h => lump_of h (by simp) (by simp) (by simp)⟩
termination_by SizeOf.sizeOf x

open Classical in
noncomputable def fade (N : Nat → Prop) (x : Value) : Value := if (∀ b, Pt x b → N b) then x else Classical.choose (fade_ex x)
theorem fade_pt {N : Nat → Prop} {x : Value} {b : Nat} (h : Pt (fade N x) b) : N b ∧ Pt x b := by
  unfold fade at h
  split at h
  · rename_i hk; exact ⟨hk b h, h⟩
  · exact absurd h ((Classical.choose_spec (fade_ex x)).1 b)
theorem fade_vr {N : Nat → Prop} {F : FuncId → Prop} {R : BR} {x x' : Value} (h : VR F R x x') : VR F R (fade N x) x' := by
  unfold fade
  split
  · exact h
  · exact (Classical.choose_spec (fade_ex x)).2 F R x' h
theorem fade_eq {N : Nat → Prop} {x : Value} (h : ∀ b, Pt x b → N b) : fade N x = x := by
  unfold fade
  rw [if_pos h]
noncomputable def fadeO (N : Nat → Prop) : Obj → Obj
  | .cells c el fz => .cells (c.map (fade N)) el fz
  | o => o
noncomputable def fadeW (N : Nat → Prop) (v : World) : World := { v with heap := v.heap.map (fadeO N) }
section
variable {N : Nat → Prop} {v : World}
theorem fade_size : (fadeW N v).heap.size = v.heap.size := by simp [fadeW]
theorem fade_get (b : Nat) : (fadeW N v).heap[b]? = (v.heap[b]?).map (fadeO N) := by simp only [fadeW, Array.getElem?_map]
theorem fade_cells {b : Nat} {c : Array Value} {el : TypeId} {fz : Nat × Nat} (h : v.heap[b]? = some (.cells c el fz)) : (fadeW N v).heap[b]? = some (.cells (c.map (fade N)) el fz) := by rw [fade_get, h]; rfl
theorem fade_non {b : Nat} {o : Obj} (h : v.heap[b]? = some o) (hn : ¬ IsCells o) : (fadeW N v).heap[b]? = some o := by
  rw [fade_get, h]
  cases o <;> first | rfl | exact absurd trivial hn
theorem fade_chan {b : Nat} : chansOf (fadeW N v) b ↔ chansOf v b := by
  constructor
  · rintro ⟨s, tm, h⟩
    rw [fade_get] at h
    cases ho : v.heap[b]? with
    | none => rw [ho] at h; cases h
    | some o =>
      rw [ho] at h
      simp only [Option.map_some, Option.some.injEq] at h
      cases o <;> simp only [fadeO] at h <;> first | (cases h; done) | (cases h; exact ⟨s, tm, ho⟩)
  · rintro ⟨s, tm, h⟩
    exact ⟨s, tm, fade_non h (by simp [IsCells])⟩
theorem fade_chans : chansOf (fadeW N v) = chansOf v := funext fun b => propext fade_chan
theorem fade_cell {p : Addr} {x : Value} (h : v.cell? p = some x) (hx : ∀ b, Pt x b → N b) : (fadeW N v).cell? p = some x := by
  unfold World.cell? at h ⊢
  cases ho : v.heap[p.block]? with
  | none => rw [ho] at h; cases h
  | some o =>
    rw [ho] at h
    cases o <;> first | (cases h; done) | skip
    rename_i c el fz
    rw [fade_cells ho]
    simp only at h ⊢
    split at h
    · cases h
    · rename_i hs
      rw [if_neg hs, Array.getElem?_map, h]
      simp [fade_eq hx]
theorem Calm_fade {P : Program} {Fs : FuncId → Bool} {H : Nat} {W : World} {gs : Array Goroutine} {w : World} {t : Trace} {q : Nat → Nat} {s : St} (h : Calm P Fs H W (fun _ => False) gs w t q s) (N : Nat → Prop) : Calm P Fs H W (fun _ => False) gs w t q { s with v := fadeW N s.v } := by
  refine ⟨h.g0, h.ok, ⟨fun b c hb => ?_, h.wr.fn, h.wr.inj⟩, fun b c hb hc => ?_, fun b hb => hb.elim, h.hle, h.old, h.tape, h.os, h.out, h.lv, h.nr, h.wl, h.kn⟩
  · obtain ⟨o, o', ho, ho', hOR⟩ := h.wr.obj b c hb
    cases hOR with
    | @cells c0 c1 el fz fz' h1 h2 =>
      refine ⟨_, _, fade_cells ho, ho', .cells (fun j u hj => ?_) fun j hj hn => h2 j (by simpa using hj) hn⟩
      rw [Array.getElem?_map] at hj
      cases hc : c0[j]? with
      | none => rw [hc] at hj; cases hj
      | some y =>
        rw [hc] at hj
        simp only [Option.map_some, Option.some.injEq] at hj
        subst hj
        obtain ⟨u', g1, g2⟩ := h1 j y hc
        exact ⟨u', g1, fade_vr g2⟩
    | map hs h1 => exact ⟨_, _, fade_non ho (by simp [IsCells]), ho', .map hs h1⟩
    | chan a b tm => exact ⟨_, _, fade_non ho (by simp [IsCells]), ho', .chan a b tm⟩
    | number x lost => exact ⟨_, _, fade_non ho (by simp [IsCells]), ho', .number x lost⟩
  · obtain ⟨cs, el, fz, ho, hf⟩ := h.lay b c hb hc
    exact ⟨_, el, fz, fade_cells ho, fun j hj => hf j (by simpa using hj)⟩
end

/-! ### the phase -/
/-- A row. -/
def Kc (v : World) (b : Nat) : Prop := ∃ cs el fz, v.heap[b]? = some (.cells cs el fz)
/-- The value holds addresses of rows alone. -/
def Hk (v : World) (x : Value) : Prop := ∀ b, Pt x b → Kc v b
def Nn (v : World) (b : Nat) : Prop := Kc v b ∨ chansOf v b
theorem Hk.int {v : World} {k : IntKind} {z : Int} : Hk v (.int k z) := fun b h => absurd h pt_int
theorem Hk.nn {v : World} {x : Value} (h : Hk v x) : ∀ b, Pt x b → Nn v b := fun b hb => .inl (h b hb)
theorem Hk.none_ {v : World} {l c : Nat} : Hk v (.slice none l c) := fun b h => by cases h
theorem Hk.slice {v : World} {a : Addr} {l c : Nat} (h : Kc v a.block) : Hk v (.slice (some a) l c) := fun b hb => by cases hb; exact h
theorem Hk.ptr {v : World} {a : Addr} (h : Kc v a.block) : Hk v (.pointer (some a)) := fun b hb => by cases hb; exact h
theorem Kc.of_cell {v : World} {p : Addr} {x : Value} (h : v.cell? p = some x) : Kc v p.block := by
  unfold World.cell? at h
  cases ho : v.heap[p.block]? with
  | none => rw [ho] at h; cases h
  | some o => rw [ho] at h; cases o <;> first | (cases h; done) | exact ⟨_, _, _, ho⟩
theorem Kc.old {a b : World} (h : OldSame a b) {i : Nat} (k : Kc a i) : Kc b i := by
  obtain ⟨cs, el, fz, e⟩ := k
  exact ⟨cs, el, fz, h.get e⟩
theorem Hk.old {a b : World} (h : OldSame a b) {x : Value} (k : Hk a x) : Hk b x := fun i hi => (k i hi).old h

/-- What such a phase leaves as it was. -/
structure KpN (v v' : World) : Prop where
  size : v.heap.size ≤ v'.heap.size
  row : ∀ (b : Nat) (c : Array Value) (el : TypeId) (fz : Nat × Nat), v.heap[b]? = some (.cells c el fz) → ∃ c' : Array Value, v'.heap[b]? = some (.cells c' el fz) ∧ c'.size = c.size ∧ ∀ (i : Nat) x, c[i]? = some x → Hk v x → c'[i]? = some x
theorem KpN.kc {v v' : World} (h : KpN v v') {b : Nat} (k : Kc v b) : Kc v' b := by
  obtain ⟨cs, el, fz, e⟩ := k
  obtain ⟨c', h1, _⟩ := h.row b cs el fz e
  exact ⟨c', el, fz, h1⟩
theorem KpN.hk {v v' : World} (h : KpN v v') {x : Value} (k : Hk v x) : Hk v' x := fun b hb => h.kc (k b hb)
theorem KpN.of_old {v v' : World} (h : OldSame v v') : KpN v v' := ⟨h.size, fun b c el fz e => ⟨c, h.get e, rfl, fun _ _ hx _ => hx⟩⟩
theorem KpN.trans {a b c : World} (h : KpN a b) (k : KpN b c) : KpN a c := by
  refine ⟨Nat.le_trans h.size k.size, fun i x el fz e => ?_⟩
  obtain ⟨c1, e1, s1, h1⟩ := h.row i x el fz e
  obtain ⟨c2, e2, s2, h2⟩ := k.row i c1 el fz e1
  exact ⟨c2, e2, s2.trans s1, fun j u hu hk => h2 j u (h1 j u hu hk) (h.hk hk)⟩
theorem KpN.cell {v v' : World} (h : KpN v v') {p : Addr} {x : Value} (hx : v.cell? p = some x) (hk : Hk v x) : v'.cell? p = some x := by
  unfold World.cell? at hx ⊢
  cases ho : v.heap[p.block]? with
  | none => rw [ho] at hx; cases hx
  | some o =>
    rw [ho] at hx
    cases o <;> first | (cases hx; done) | skip
    rename_i c el fz
    obtain ⟨c', e1, s1, h1⟩ := h.row _ _ _ _ ho
    rw [e1]
    simp only at hx ⊢
    split at hx
    · cases hx
    · rename_i hs
      rw [if_neg hs]
      exact h1 _ _ hx hk

/-- ████ THE PHASE ████ -/
theorem phase_fade {P : Program} {Fs : FuncId → Bool} (hP : OkProg P Fs) {H : Nat} {W : World} {gs : Array Goroutine} {w : World} {sl : Option (Nat × Nat)} {t : Trace} {q : Nat → Nat} {s : St}
    {fW : FuncId} {n len : Nat} {f : Nat → Int} {bO bC : Nat} {el0 elO : TypeId} {ps : List Nat} {Fin : VStop} (hC : Calm P Fs H W (fun _ => False) gs w t q s) (hn : 1 ≤ n) (hF : Fs fW = true)
    (rO : ∃ c, s.R bO c) (rC : ∃ c, s.R bC c) (rps : ∀ b ∈ ps, (∃ c, s.R b c) ∧ Kc s.v b) (row : ∃ zs, s.v.heap[bO]? = some (.cells zs elO (0, 0)) ∧ zs.size = len) (chan : chansOf s.v bC)
    (segW : ∀ k, k < n → Seg P (chansOf s.v) (WStop P (chansOf s.v) bO bC n len f (len + 1) k) (Frame.enter P fW (#[.pointer (some ⟨(shade (fadeW (Nn s.v) s.v) bO elO).heap.size, 0, none⟩)] ++ (ps.map fun b => Value.pointer (some ⟨b, 0, none⟩)).toArray) .deferred) []
      { shade (fadeW (Nn s.v) s.v) bO elO with heap := (shade (fadeW (Nn s.v) s.v) bO elO).heap.push (.cells #[.int .i64 (k : Nat)] el0 (0, 1)) })
    (segG : GNext P (chansOf s.v) fW ps el0 bC n Fin n s.fr s.up (shade (fadeW (Nn s.v) s.v) bO elO)) :
    ∃ N gs' w' sl' t' q' s', runNT P N (crowd gs w sl) t = (.next (crowd gs' w' sl'), t') ∧ Calm P Fs H W (fun _ => False) gs' w' t' q' s' ∧ (∃ T d u, Fin s'.fr s'.up (rt u T d)) ∧ s'.v.heap[bO]? = some (.cells (results f len) elO (0, 0)) ∧
      s.v.heap.size ≤ s'.v.heap.size ∧ ∀ (b : Nat) (c : Array Value) (el : TypeId) (fz : Nat × Nat), b ≠ bO → s.v.heap[b]? = some (.cells c el fz) → ∃ c', s'.v.heap[b]? = some (.cells c' el fz) ∧ c'.size = c.size ∧ ∀ (i : Nat) x, c[i]? = some x → (∀ b, Pt x b → Nn s.v b) → c'[i]? = some x := by
  have hC2 := Calm_fade hC (Nn s.v)
  obtain ⟨zs, hzs, hzl⟩ := row
  have hS : StartR P Fs s.R fW n len f bO bC el0 elO ps (fun b => (∃ c, s.R b c) ∧ Nn s.v b) Fin s.fr s.up (fadeW (Nn s.v) s.v) := by
    refine ⟨hn, hF, fun b hb => hb.1, fun b hb => ?_, ⟨rO, .inl ⟨_, _, _, hzs⟩⟩, ⟨rC, .inr chan⟩, fun b hb => ⟨(rps b hb).1, .inl (rps b hb).2⟩, ⟨_, fade_cells hzs, by simpa using hzl⟩, fade_chan.2 chan, ?_, ?_⟩
    · rcases hb.2 with ⟨cs, el, fz, e⟩ | e
      · refine .inl ⟨_, el, fz, fade_cells e, fun _ i x hx b' hp => ?_⟩
        rw [Array.getElem?_map] at hx
        cases hc : cs[i]? with
        | none => rw [hc] at hx; cases hx
        | some y =>
          rw [hc] at hx
          simp only [Option.map_some, Option.some.injEq] at hx
          subst hx
          obtain ⟨h1, h2⟩ := fade_pt hp
          obtain ⟨c, hr⟩ := hb.1
          obtain ⟨o, o', ho, ho', hOR⟩ := hC.wr.obj b c hr
          rw [e] at ho
          cases ho
          cases hOR with
          | cells k1 k2 =>
            obtain ⟨y', g1, g2⟩ := k1 i y hc
            exact ⟨g2.pt h2, h1⟩
      · exact .inr (fade_chan.2 e)
    · rw [fade_chans]; exact segW
    · rw [fade_chans]; exact segG
  obtain ⟨N, gs', w', sl', t', q', s', u, hrun, hC', ⟨T, d, hfin⟩, hsz, hv⟩ := phase_core (sl := sl) hP hC2 hS
  have hsz' : s.v.heap.size ≤ u.heap.size := by
    have : (fadeW (Nn s.v) s.v).heap.size ≤ u.heap.size := hsz
    rwa [fade_size] at this
  have hlt : ∀ {b : Nat} {o : Obj}, s.v.heap[b]? = some o → b < u.heap.size := fun h => Nat.lt_of_lt_of_le (Array.getElem?_eq_some_iff.1 h).1 hsz'
  refine ⟨N, gs', w', sl', t', q', s', hrun, hC', ⟨T, d, u, hfin⟩, ?_, ?_, fun b c el fz hne hb => ⟨c.map (fade (Nn s.v)), ?_, by simp, fun i x hx hk => ?_⟩⟩
  · rw [hv]; exact rst_O (hlt hzs)
  · rw [hv, rst_size]; exact hsz'
  · rw [hv]; exact rst_cells (hlt hb) hne (fade_cells hb)
  · rw [Array.getElem?_map, hx]
    simp [fade_eq hk]
end Go.Proofs.Ytmfglflahlddbaa.Sm
