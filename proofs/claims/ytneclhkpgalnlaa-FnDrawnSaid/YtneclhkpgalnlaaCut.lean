/-
  A LONE WALK CUT IN THE MIDDLE OF A REGION; stretches.
-/
import Derived.Test.YtneclhkpgalnlaaSmt
import Derived.OrdersHeld
namespace Go.Proofs.Ytneclhkpgalnlaa.Sm
open Go Go.Conc
set_option linter.unusedVariables false
set_option linter.unusedSimpArgs false

/-- The walk ends by going on. -/
def QN (K : Act → World → Prop) : Exit → Act → World → Prop := fun e a w => e = .normal ∧ K a w

section
variable {P : Program}

/-- The first operations of a region. -/
theorem ops_more {ops ops2 : Array Oper} {K : Act → World → Prop} (hy : ∀ t, yielded ops2 t = yielded ops t) (l : List Nat) : ∀ (a : Act) (w : World), (∀ i ∈ l, ops2[i]? = ops[i]?) → wpOps P ops2 (QN K) l a w → ∀ (b : Frame) (r : List Nat) (k : List Item) (cs : List Frame),
    ∃ a' w', K a' w' ∧ Steps P (lone (b.at a (.inRegion ops (l ++ r) :: k)) cs w) (lone (b.at a' (.inRegion ops r :: k)) cs w') := by
  induction l with
  | nil => exact fun a w _ h b r k cs => ⟨a, w, h.2, Steps.refl _ _⟩
  | cons i rest ih =>
    intro a w hs h b r k cs
    have ih := fun a w h => ih a w (fun j hj => hs j (List.mem_cons_of_mem _ hj)) h
    have hi := hs i (List.mem_cons_self ..)
    simp only [wpOps] at h
    rw [hi] at h
    rw [List.cons_append]
    cases ho : ops[i]? with
    | none =>
      simp only [ho] at h
      obtain ⟨a', w', hq, harr⟩ := ih a w h b r k cs
      have hs := step_op_skip (P := P) (b := b) (a := a) (k := k) (cs := cs) (w := w) (ops := ops) (i := i) (rest := rest ++ r) (by simp [ho])
      simp only [ho, Option.bind_none, Act.put] at hs
      exact ⟨a', w', hq, .head hs harr⟩
    | some o =>
      simp only [ho] at h
      rw [hy] at h
      by_cases hw : Region.wanted o (yielded ops a.tmps) = true
      · simp only [hw, if_true] at h
        rcases h with h | ⟨_, a₀, w₀, hq⟩
        case inr => cases hq.1
        simp only [Oper.wp, Oper.upon] at h
        have hg := stepG_op (P := P) (b := b) (k := k) (cs := cs) (w := w) (rest := rest ++ r) ho hw
        have hfin : ∀ v, (b.at a (.inRegion ops (i :: (rest ++ r)) :: k)).finish v = b.at (a.put o.dst v) (.inRegion ops (rest ++ r) :: k) := by
          intro v; rw [Frame.finish_at, ho]; rfl
        split at h
        · rename_i v w' hr
          obtain ⟨a', w'', hq, harr⟩ := ih _ _ h b r k cs
          refine ⟨a', w'', hq, .head (step_lone_go ?_) harr⟩
          rw [hg, ← hfin]; simp [stepG.apply, hr]
        · rename_i w' hr
          obtain ⟨a', w'', hq, harr⟩ := ih _ _ h b r k cs
          refine ⟨a', w'', hq, .head (step_lone_go ?_) harr⟩
          rw [hg, ← hfin]; simp [stepG.apply, hr]
        · rename_i d w' hr
          obtain ⟨a', w'', hq, harr⟩ := ih _ _ h b r k cs
          refine ⟨a', w'', hq, .head (step_lone_go ?_) harr⟩
          have : ({ b.at a (.inRegion ops (i :: (rest ++ r)) :: k) with defers := d :: a.defers } : Frame).finish undef =
              b.at ({ a with defers := d :: a.defers }.put o.dst undef) (.inRegion ops (rest ++ r) :: k) := by
            have := Frame.finish_at b { a with defers := d :: a.defers } ops i (rest ++ r) k undef
            rw [ho] at this; exact this
          rw [hg]; simp only [stepG.apply, Sem.runT_eq, hr, GStep.bare_after]
          exact congrArg (fun fr => GStep.go { frame := fr, callers := cs, status := .running, dying := none } w') this
        · rename_i f args w' hr
          obtain ⟨e, w'', fr, hR, hsteps, _, hleave⟩ := h (b.at a (.inRegion ops (i :: (rest ++ r)) :: k) :: cs)
          have henter : step P (lone (b.at a (.inRegion ops (i :: (rest ++ r)) :: k)) cs w) =
              .next (lone (Frame.enter P f args .normal) (b.at a (.inRegion ops (i :: (rest ++ r)) :: k) :: cs) w') :=
            step_lone_go (by rw [hg]; simp [stepG.apply, hr, Frame.at])
          cases e with
          | returned v =>
            obtain ⟨a', w₃, hq, harr⟩ := ih _ _ hR b r k cs
            refine ⟨a', w₃, hq, .head henter (Steps.trans hsteps (.head ?_ harr))⟩
            rw [← hfin]; exact step_leave_returned hleave
          | panicked chain => cases hR.1
          | outgrown => obtain ⟨_, _, hq⟩ := hR; cases hq.1
        · rename_i row args w' hr
          obtain ⟨v, w'', hR, hsteps⟩ := h (b.at a (.inRegion ops (i :: (rest ++ r)) :: k)) cs
          have henter : step P (lone (b.at a (.inRegion ops (i :: (rest ++ r)) :: k)) cs w) =
              .next (lone (Frame.ofRow P row args .normal) (b.at a (.inRegion ops (i :: (rest ++ r)) :: k) :: cs) w') :=
            step_lone_go (by rw [hg]; simp [stepG.apply, hr, Frame.at])
          obtain ⟨a', w₃, hq, harr⟩ := ih _ _ hR b r k cs
          refine ⟨a', w₃, hq, .head henter (Steps.trans hsteps ?_)⟩
          rw [hfin]; exact harr
        · cases h.1
        · exact h.elim
      · simp only [hw, if_false, Bool.false_eq_true] at h
        obtain ⟨a', w', hq, harr⟩ := ih _ _ h b r k cs
        have hs := step_op_skip (P := P) (b := b) (a := a) (k := k) (cs := cs) (w := w) (ops := ops) (i := i) (rest := rest ++ r)
          (by simp [ho]; simpa using hw)
        simp only [ho, Option.bind_some] at hs
        exact ⟨a', w', hq, .head hs harr⟩

/-- A walk that goes on arrives. -/
theorem wp_steps {c : Code} {K : Act → World → Prop} {a : Act} {w : World} (h : c.wp P (QN K) a w) (b : Frame) (k : List Item) (cs : List Frame) : ∃ a' w', K a' w' ∧ Steps P (lone (b.at a (.code c :: k)) cs w) (lone (b.at a' k) cs w') := by
  obtain ⟨e, a', w', ⟨rfl, hq⟩, harr⟩ := h b k cs
  exact ⟨a', w', hq, harr⟩
theorem wp_steps_exit {c : Code} {id : Nat} {K : Act → World → Prop} {a : Act} {w : World} (h : c.wp P (fun e a w => e = .exit id ∧ K a w) a w) (b : Frame) {k k' : List Item} (hk : exitTo id k = some k') (cs : List Frame) : ∃ a' w', K a' w' ∧ Steps P (lone (b.at a (.code c :: k)) cs w) (lone (b.at a' k') cs w') := by
  obtain ⟨e, a', w', ⟨rfl, hq⟩, harr⟩ := h b k cs
  exact ⟨a', w', hq, harr k' hk⟩

/-! ### the last operation of a region that draws its order -/
def unl (n : Nat) (listed : Array Bool) : List Nat := (List.range n).filter fun i => !listed.getD i true

theorem filter_one {p q : Nat → Bool} {i : Nat} (hp : p i = true) (hq : ∀ j, q j = (p j && (j != i))) : ∀ (l : List Nat), l.Nodup → i ∈ l → (l.filter q).length + 1 = (l.filter p).length
  | [], _, h => by cases h
  | x :: l, hn, h => by
    rw [List.nodup_cons] at hn
    by_cases e : x = i
    · subst e
      have hnot : (l.filter q) = l.filter p := List.filter_congr fun y hy => by
        rw [hq]
        have : (y != x) = true := by
          simp only [bne_iff_ne, ne_eq]
          rintro rfl; exact hn.1 hy
        rw [this, Bool.and_true]
      have hqx : q x = false := by rw [hq]; simp
      simp [List.filter_cons, hp, hqx, hnot]
    · have hi : i ∈ l := (List.mem_cons.1 h).resolve_left (Ne.symm e)
      have ih := filter_one hp hq l hn.2 hi
      have hxq : q x = p x := by
        rw [hq]
        have : (x != i) = true := by simpa using e
        rw [this, Bool.and_true]
      rw [List.filter_cons, List.filter_cons, hxq]
      split
      · simp; omega
      · exact ih

theorem unl_set {n i : Nat} {listed : Array Bool} (hs : listed.size = n) (hi : i < n) (hl : listed.getD i true = false) : (unl n (listed.setIfInBounds i true)).length + 1 = (unl n listed).length := by
  refine filter_one (i := i) (by rw [hl]; rfl) (fun j => ?_) _ List.nodup_range (List.mem_range.2 hi)
  by_cases e : j = i
  · subst e
    simp [Array.getD_eq_getD_getElem?, hs, hi]
  · have : (j != i) = true := by simpa using e
    rw [this, Bool.and_true]
    simp only [Array.getD_eq_getD_getElem?, Array.getElem?_setIfInBounds_ne (Ne.symm e)]

theorem go_last {ops : Array Oper} {md : Region.Mode} {n : Nat} (hn : ops.size = n + 1) (hlt : ∀ (i : Nat) o, ops[i]? = some o → ∀ e ∈ o.after, Region.binds md e = true → e.on < i)
    (hj : ∀ o, ops[n]? = some o → ∀ i, i < n → ∃ e ∈ o.after, Region.binds md e = true ∧ e.on = i) :
    ∀ (fuel t : Nat) (listed : Array Bool), listed.size = n + 1 → fuel = (unl (n + 1) listed).length → listed.getD n true = false → ∃ l', Region.linearise.go md ops fuel t listed [] = l' ++ [n] ∧ n ∉ l' := by
  intro fuel
  induction fuel with
  | zero =>
    intro t listed hs hf hl
    have : n ∈ unl (n + 1) listed := List.mem_filter.2 ⟨List.mem_range.2 (by omega), by rw [hl]; rfl⟩
    rw [List.eq_nil_of_length_eq_zero hf.symm] at this
    cases this
  | succ fuel ih =>
    intro t listed hs hf hl
    -- somebody is ready
    have hne : Region.ready md ops listed ≠ [] := by
      have key : ∀ m, (∃ i, i < m ∧ i ≤ n ∧ listed.getD i true = false) → ∃ i, i ∈ Region.ready md ops listed := by
        intro m
        induction m with
        | zero => rintro ⟨i, h, _⟩; omega
        | succ m ihm =>
          rintro ⟨i, h1, h2, h3⟩
          by_cases hex : ∃ i, i < m ∧ i ≤ n ∧ listed.getD i true = false
          · exact ihm hex
          · have him : i = m := by
              rcases Nat.lt_or_ge i m with h | h
              · exact absurd ⟨i, h, h2, h3⟩ hex
              · omega
            subst him
            refine ⟨i, mem_ready.2 ⟨h3, ops[i]'(by omega), by simp, fun e he hb => ?_⟩⟩
            have hlt' := hlt i (ops[i]'(by omega)) (by simp) e he hb
            cases hd : listed.getD e.on true with
            | false => exact absurd ⟨e.on, hlt', by omega, hd⟩ hex
            | true =>
              rw [Array.getD_eq_getD_getElem?] at hd ⊢
              rw [Array.getElem?_eq_getElem (by omega)] at hd ⊢
              simpa using hd
      obtain ⟨i, hi⟩ := key (n + 1) ⟨n, by omega, Nat.le_refl _, hl⟩
      intro h; rw [h] at hi; cases hi
    simp only [Region.linearise.go]
    change ∃ l', (match (Region.ready md ops listed)[t % (Region.ready md ops listed).length]? with
      | some i => Region.linearise.go md ops fuel (t / (Region.ready md ops listed).length) (listed.setIfInBounds i true) [i]
      | none => [].reverse) = l' ++ [n] ∧ n ∉ l'
    have hlen : 0 < (Region.ready md ops listed).length := List.length_pos_iff.2 hne
    have hmod := Nat.mod_lt t hlen
    rw [List.getElem?_eq_getElem hmod]
    simp only []
    generalize hi : (Region.ready md ops listed)[t % (Region.ready md ops listed).length] = i
    have hir : i ∈ Region.ready md ops listed := hi ▸ List.getElem_mem hmod
    obtain ⟨h1, o, h2, h3⟩ := mem_ready.1 hir
    have hin : i ≤ n := by have := (Array.getElem?_eq_some_iff.1 h2).1; omega
    have hun := unl_set hs (show i < n + 1 by omega) h1
    rw [linearise_go_acc, List.reverse_singleton, List.singleton_append]
    by_cases e : i = n
    · subst e
      have hz : fuel = 0 := by
        have : unl (i + 1) listed = [i] := by
          unfold unl
          rw [List.range_succ, List.filter_append]
          have h4 : (List.range i).filter (fun j => !listed.getD j true) = [] := by
            rw [List.filter_eq_nil_iff]
            intro j hj'
            obtain ⟨ed, he, hb, hon⟩ := hj o h2 j (List.mem_range.1 hj')
            have := h3 ed he hb
            rw [hon] at this
            have hjl := List.mem_range.1 hj'
            rw [Array.getD_eq_getD_getElem?, Array.getElem?_eq_getElem (by omega)] at this ⊢
            simp only [Option.getD_some] at this ⊢
            simp [this]
          have h1' : listed[i]?.getD true = false := by rw [← Array.getD_eq_getD_getElem?]; exact h1
          rw [h4]
          simp [h1']
        rw [this] at hf
        simpa using hf
      subst hz
      exact ⟨[], by simp [Region.linearise.go], by simp⟩
    · obtain ⟨l', h4, h5⟩ := ih (t / (Region.ready md ops listed).length) (listed.setIfInBounds i true) (by simpa using hs) (by omega) (by
        rw [Array.getD_eq_getD_getElem?, Array.getElem?_setIfInBounds_ne e, ← Array.getD_eq_getD_getElem?]; exact hl)
      exact ⟨i :: l', by rw [h4]; rfl, by simp [Ne.symm e, h5]⟩

/-- A region that draws its order, up to its last operation. -/
theorem region_cut {ops ops2 : Array Oper} {K : Act → World → Prop} {n id : Nat} (hm : P.follows .mixedOrders = true) (hn : ops.size = n + 1) (hn2 : ops2.size = n + 1) (hy : ∀ t, yielded ops2 t = yielded ops t)
    (hsame : ∀ i : Nat, i ≠ n → ops2[i]? = ops[i]?) (haf : ∀ i : Nat, (ops2[i]?).map (fun o : Oper => o.after) = (ops[i]?).map (fun o : Oper => o.after)) (hlt : ∀ (i : Nat) o, ops[i]? = some o → ∀ e ∈ o.after, Region.binds .any e = true → e.on < i)
    (hj : ∀ o, ops[n]? = some o → ∀ i, i < n → ∃ e ∈ o.after, Region.binds .any e = true ∧ e.on = i) (hlast : ∃ o2 x, ops2[n]? = some o2 ∧ o2.op = .move x ∧ o2.dst = none ∧ o2.guard = none) {a : Act} {w : World}
    (h : wpAny P .any ops2 (QN K) ops2.size (Array.replicate ops2.size false) a { w with drawn := w.drawn + 1 }) (b : Frame) (k : List Item) (cs : List Frame) :
    ∃ a' w', K a' w' ∧ Steps P (lone (b.at a (.code (.region id ops true) :: k)) cs w) (lone (b.at a' (.inRegion ops [n] :: k)) cs w') := by
  have hgo : ∀ fuel t listed, Region.linearise.go .any ops2 fuel t listed [] = Region.linearise.go .any ops fuel t listed [] := by
    intro fuel
    have hready : ∀ listed, Region.ready .any ops2 listed = Region.ready .any ops listed := by
      intro listed
      unfold Region.ready
      rw [hn, hn2]
      refine List.filter_congr fun i _ => ?_
      have := haf i
      cases h1 : ops[i]? <;> cases h2 : ops2[i]? <;> rw [h1, h2] at this <;> simp at this ⊢
      rw [this]
    induction fuel with
    | zero => intro t listed; rfl
    | succ fuel ih =>
      intro t listed
      simp only [Region.linearise.go]
      change (match (Region.ready .any ops2 listed)[t % (Region.ready .any ops2 listed).length]? with
        | some i => Region.linearise.go .any ops2 fuel (t / (Region.ready .any ops2 listed).length) (listed.setIfInBounds i true) [i]
        | none => [].reverse) = (match (Region.ready .any ops listed)[t % (Region.ready .any ops listed).length]? with
        | some i => Region.linearise.go .any ops fuel (t / (Region.ready .any ops listed).length) (listed.setIfInBounds i true) [i]
        | none => [].reverse)
      rw [hready]
      cases (Region.ready .any ops listed)[t % (Region.ready .any ops listed).length]? with
      | none => rfl
      | some i => simp only []; rw [linearise_go_acc, linearise_go_acc (ops := ops), ih]
  obtain ⟨t, ht⟩ : ∃ t, t = w.tape w.drawn (.order b.fn id) := ⟨_, rfl⟩
  have hw := wpAny_sound ops2.size t _ a _ h
  rw [hgo, hn2] at hw
  obtain ⟨l', hl, hnl⟩ := go_last hn hlt hj (n + 1) t (Array.replicate (n + 1) false) (by simp) (by
    unfold unl
    rw [List.filter_eq_self.2 (fun i hi => by
      have := List.mem_range.1 hi
      simp [Array.getD_eq_getD_getElem?, this])]
    simp) (by simp [Array.getD_eq_getD_getElem?])
  rw [hl] at hw
  -- the last one is a move
  have happ : ∀ (l : List Nat) a w, wpOps P ops2 (QN K) (l ++ [n]) a w → wpOps P ops2 (QN K) l a w := by
    intro l
    induction l with
    | nil =>
      intro a w h
      obtain ⟨o2, x, k1, k2, k3, k4⟩ := hlast
      simp only [List.nil_append, wpOps, k1, wanted_none k4, if_true] at h
      rcases h with h | ⟨_, _, _, hq⟩
      · have hr : (execOp a.eval o2).run P w = .ok (.value (a.eval x)) w := by unfold execOp; rw [k2]; rfl
        simp only [Oper.wp, Oper.upon, hr, k3, Act.put] at h
        exact h
      · cases hq.1
    | cons i l ih =>
      intro a w h
      rw [List.cons_append, wpOps_cons] at h
      rw [wpOps_cons]
      exact wpOp_mono (fun a w h => ih a w h) h
  obtain ⟨a', w', hk, hs⟩ := ops_more hy l' a _ (fun i hi => hsame i (fun e => hnl (e ▸ hi))) (happ _ _ _ hw) b [n] k cs
  refine ⟨a', w', hk, .head step_region_draw ?_⟩
  have : Region.schedule (P.follows .mixedOrders) ops (w.tape w.drawn (.order b.fn id)) = l' ++ [n] := by
    simp only [Region.schedule, hm, Bool.true_or, if_true]
    show Region.linearise.go .any ops ops.size _ _ [] = _
    rw [hn, ← ht]; exact hl
  rw [this]; exact hs

/-! ### stretches -/
theorem Seg.of_steps {Ch : Nat → Prop} {Q : VStop} {fr : Frame} {up : List Frame} {v : World} (h : ∀ T d, ∃ fr1 up1 v1, Steps P (lone fr (up ++ [trap]) (Sm.rt v T d)) (lone fr1 (up1 ++ [trap]) v1) ∧ Seg P Ch Q fr1 up1 v1) : Seg P Ch Q fr up v := fun T d => by
  obtain ⟨fr1, up1, v1, hs, hseg⟩ := h T d
  obtain ⟨frS, upS, vS, h1, h2⟩ := hseg v1.tape v1.drawn
  exact ⟨frS, upS, vS, Steps.trans hs h1, h2⟩

/-- What was there stands. -/
structure OldSame (v v' : World) : Prop where
  size : v.heap.size ≤ v'.heap.size
  block : ∀ b, b < v.heap.size → v'.heap[b]? = v.heap[b]?
theorem OldSame.refl (v : World) : OldSame v v := ⟨Nat.le_refl _, fun _ _ => rfl⟩
theorem OldSame.trans {a b c : World} (h : OldSame a b) (k : OldSame b c) : OldSame a c := ⟨Nat.le_trans h.size k.size, fun i hi => (k.block i (Nat.lt_of_lt_of_le hi h.size)).trans (h.block i hi)⟩
theorem OldSame.heap {a b : World} (h : b.heap = a.heap) : OldSame a b := ⟨by rw [h]; exact Nat.le_refl _, fun i _ => by rw [h]⟩
theorem OldSame.get {a b : World} (h : OldSame a b) {i : Nat} {o : Obj} (ho : a.heap[i]? = some o) : b.heap[i]? = some o := by rw [h.block i (Array.getElem?_eq_some_iff.1 ho).1]; exact ho
theorem OldSame.cell {a b : World} (h : OldSame a b) {p : Addr} {x : Value} (hx : a.cell? p = some x) : b.cell? p = some x := by
  unfold World.cell? at hx ⊢
  cases ho : a.heap[p.block]? with
  | none => rw [ho] at hx; cases hx
  | some o => rw [ho] at hx; rw [h.get ho]; exact hx
end
end Go.Proofs.Ytneclhkpgalnlaa.Sm
