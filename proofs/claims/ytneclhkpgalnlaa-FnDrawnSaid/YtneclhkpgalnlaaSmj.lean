/-
  THE SIMULATION: every step.
-/
import Derived.Test.YtneclhkpgalnlaaSmi
namespace Go.Proofs.Ytneclhkpgalnlaa.Sm
open Go Go.Conc
set_option linter.unusedVariables false
set_option linter.unusedSimpArgs false
section
variable {P : Program} {Fs : FuncId → Bool} {R : BR}

theorem stepG_return {main : Bool} {fn : FuncId} {kind : CallKind} {t : Array Value} {todo : List Item} {cs : List Frame} {w w1 : World} {f : Func} {x : Value} {es : Array Event} (hf : P.funcs[fn]? = some f) (hr : (results f t).runT P w #[] = (.ok x w1, es)) :
    stepG P main (G { (B fn kind).at ⟨t, []⟩ todo with mode := .returning } cs) w = GStep.after (seen P fn es) (doReturn P main { (B fn kind).at ⟨t, []⟩ todo with mode := .returning } cs none x w1) := by
  simp only [G, stepG, unwind, Frame.at, B, hf]
  rw [hr]

theorem doReturn_normal {main : Bool} {fn : FuncId} {t : Array Value} {todo : List Item} {c : Frame} {cs : List Frame} {w : World} {x : Value} :
    doReturn P main { (B fn .normal).at ⟨t, []⟩ todo with mode := .returning } (c :: cs) none x w = .go (G (c.finish x) cs) w := rfl
theorem doReturn_deferred {main : Bool} {fn : FuncId} {t : Array Value} {todo : List Item} {c : Frame} {cs : List Frame} {w : World} {x : Value} (hc : c.mode = .run ∨ c.mode = .returning) :
    doReturn P main { (B fn .deferred).at ⟨t, []⟩ todo with mode := .returning } (c :: cs) none x w = .go (G c cs) w := by
  unfold doReturn
  simp only [B, Frame.at]
  rcases hc with hc | hc <;> rw [hc] <;> rfl

theorem FR.mode {fr fr' : Frame} (h : FR P Fs R fr fr') : (fr.mode = .run ∨ fr.mode = .returning) ∧ (fr'.mode = .run ∨ fr'.mode = .returning) := by
  obtain ⟨fn, t, t', todo, mode, kind, rfl, rfl, h3, h4, h5, h6, h7⟩ := h
  exact ⟨h5, h5⟩

/-- Where a return goes on. -/
def back (kind : CallKind) (c : Frame) (x : Value) : Frame := match kind with
  | .deferred => c
  | _ => c.finish x

theorem ret_sim (hP : OkProg P Fs) {main : Bool} {fn : FuncId} {kind : CallKind} {t t' : Array Value} {todo : List Item} {up up' bs : List Frame} {v w : World}
    (hF : Fs fn = true) (hk : kind = .normal ∨ kind = .deferred) (ht : AVR (FFs Fs) R t t') (hcs : CsR P Fs R up up') (hw : WR (FFs Fs) R v w) (hag : ∀ n, Agr v w n) :
    Doomed P (lone { (B fn kind).at ⟨t, []⟩ todo with mode := .returning } (up ++ [trap]) v) ∨
    Followed P Fs main R { (B fn kind).at ⟨t, []⟩ todo with mode := .returning } { (B fn kind).at ⟨t', []⟩ todo with mode := .returning } up up' bs v w := by
  obtain ⟨f, c, hf, hname, hbody, hcode⟩ := hP.body fn hF
  have hsr := sr_results (P := P) (F := FFs Fs) f ht
  have hfol := hsr.follows v w #[] hw (.inl hag)
  have hloc := fun x v1 hr => hsr.local v w hw x v1 hr
  cases hr : (results f t).run P v with
  | halt h v1 =>
    left
    have hrT : ∃ es, (results f t).runT P v #[] = (.halt h v1, es) := ⟨((results f t).runT P v #[]).2, by
      have := Sem.runT_fst P (results f t) v #[]
      rw [hr] at this
      exact Prod.ext this rfl⟩
    obtain ⟨es, hrT⟩ := hrT
    have e : ∃ o es', stepG P true (G { (B fn kind).at ⟨t, []⟩ todo with mode := .returning } (up ++ [trap])) v = .ended o v1 es' := by
      simp only [G, stepG, unwind, Frame.at, B, hf]
      rw [hrT]
      cases h <;> exact ⟨_, _, rfl⟩
    obtain ⟨o, es', e⟩ := e
    exact doomed_ended (step_Ge e)
  | ok x v1 =>
    rw [hr] at hfol
    obtain ⟨R1, x', w1, es, hrun, hst, hx⟩ := hfol
    rw [Array.empty_append] at hrun
    have runT : ∀ {x : Value} {v v1 : World}, (results f t).run P v = .ok x v1 → ∃ es, (results f t).runT P v #[] = (.ok x v1, es) := fun {x v v1} hr => ⟨((results f t).runT P v #[]).2, by
      have := Sem.runT_fst P (results f t) v #[]
      rw [hr] at this
      exact Prod.ext this rfl⟩
    have hst' := hst.evs_sub (es' := seen P fn es) fun e he => mem_seen he
    have l := hloc x v1 hr
    cases up with
    | nil =>
      left
      obtain ⟨esv, hrv⟩ := runT hr
      have e := stepG_return (P := P) (main := true) (kind := kind) (todo := todo) (cs := [] ++ [trap]) hf hrv
      have e2 : ∃ es, stepG P true (G { (B fn kind).at ⟨t, []⟩ todo with mode := .returning } ([] ++ [trap])) v = .go (G trap []) v1 es := by
        rw [e]
        rcases hk with rfl | rfl
        · exact ⟨_, by rw [show ([] ++ [trap] : List Frame) = trap :: [] from rfl, doReturn_normal]; rfl⟩
        · exact ⟨_, by rw [show ([] ++ [trap] : List Frame) = trap :: [] from rfl, doReturn_deferred (.inl rfl)]; rfl⟩
      obtain ⟨es2, e2⟩ := e2
      exact Doomed.of_next (step_G e2) (doomed_trap (P := P) _ _).1 (doomed_trap _ _).2
    | cons c up =>
      cases up' with
      | nil => exact hcs.elim
      | cons c' up' =>
        right
        obtain ⟨hc, hcs⟩ := hcs
        have step : ∀ {x : Value} {v v1 : World}, (results f t).run P v = .ok x v1 → step P (lone { (B fn kind).at ⟨t, []⟩ todo with mode := .returning } (c :: up ++ [trap]) v) = .next (lone (back kind c x) (up ++ [trap]) v1) := by
          intro x v v1 hr
          obtain ⟨esv, hrv⟩ := runT hr
          have e := stepG_return (P := P) (main := true) (kind := kind) (todo := todo) (cs := c :: up ++ [trap]) hf hrv
          rcases hk with rfl | rfl
          · rw [show (c :: up ++ [trap] : List Frame) = c :: (up ++ [trap]) from rfl, doReturn_normal] at e
            exact step_G e
          · rw [show (c :: up ++ [trap] : List Frame) = c :: (up ++ [trap]) from rfl, doReturn_deferred hc.mode.1] at e
            exact step_G e
        have e' := stepG_return (P := P) (main := main) (kind := kind) (todo := todo) (cs := c' :: up' ++ bs) hf hrun
        have e2' : stepG P main (G { (B fn kind).at ⟨t', []⟩ todo with mode := .returning } (c' :: up' ++ bs)) w = .go (G (back kind c' x') (up' ++ bs)) w1 (seen P fn es) := by
          rcases hk with rfl | rfl
          · rw [show (c' :: up' ++ bs : List Frame) = c' :: (up' ++ bs) from rfl, doReturn_normal] at e'
            rw [show (c' :: up' ++ bs : List Frame) = c' :: (up' ++ bs) from rfl, e']
            simp [GStep.after, back]
          · rw [show (c' :: up' ++ bs : List Frame) = c' :: (up' ++ bs) from rfl, doReturn_deferred hc.mode.2] at e'
            rw [show (c' :: up' ++ bs : List Frame) = c' :: (up' ++ bs) from rfl, e']
            simp [GStep.after, back]
        refine ⟨⟨_, up, v1, R1, _, up', w1, _, step hr, e2', hst', ?_, hcs.mono hst.ext, fun T d hT => step (l T d hT)⟩⟩
        rcases hk with rfl | rfl
        · exact (hc.mono hst.ext).finish hx
        · exact hc.mono hst.ext

/-- EVERY STEP. -/
theorem step_sim (hP : OkProg P Fs) {main : Bool} {fr fr' : Frame} {up up' bs : List Frame} {v w : World} (hfr : FR P Fs R fr fr') (hcs : CsR P Fs R up up') (hw : WR (FFs Fs) R v w) (hag : ∀ n, Agr v w n) :
    Doomed P (lone fr (up ++ [trap]) v) ∨ Followed P Fs main R fr fr' up up' bs v w := by
  obtain ⟨fn, t, t', todo, mode, kind, rfl, rfl, hF, hk, hm, ht, hi⟩ := hfr
  rcases hm with rfl | rfl
  · have b1 : ({ fn := fn, tmps := t, todo := todo, defers := [], mode := .run, kind := kind, roundOf := none } : Frame) = (B fn kind).at ⟨t, []⟩ todo := rfl
    have b2 : ({ fn := fn, tmps := t', todo := todo, defers := [], mode := .run, kind := kind, roundOf := none } : Frame) = (B fn kind).at ⟨t', []⟩ todo := rfl
    rw [b1, b2]
    have still : ∀ {todo1 : List Item}, (∀ (main : Bool) (t : Array Value) (cs : List Frame) (v : World), stepG P main (G ((B fn kind).at ⟨t, []⟩ todo) cs) v = .go (G ((B fn kind).at ⟨t, []⟩ todo1) cs) v) → todo1.all (okItem P Fs) = true →
        Followed P Fs main R ((B fn kind).at ⟨t, []⟩ todo) ((B fn kind).at ⟨t', []⟩ todo) up up' bs v w := fun h h1 =>
      Followed.still hw (fun v => h true t _ v) (h main t' _ w) (FR.mk' hF hk ht h1) hcs
    have toRet : (∀ (main : Bool) (t : Array Value) (cs : List Frame) (v : World), stepG P main (G ((B fn kind).at ⟨t, []⟩ todo) cs) v = .go (G { (B fn kind).at ⟨t, []⟩ todo with mode := .returning } cs) v) →
        Followed P Fs main R ((B fn kind).at ⟨t, []⟩ todo) ((B fn kind).at ⟨t', []⟩ todo) up up' bs v w := fun h =>
      Followed.still hw (fun v => h true t _ v) (h main t' _ w) (FR.mkr hF hk ht hi) hcs
    cases todo with
    | nil => exact .inr (toRet fun main t cs v => stepG_end)
    | cons x k =>
      have hi2 := hi
      simp only [List.all_cons, Bool.and_eq_true] at hi2
      obtain ⟨hx, hkk⟩ := hi2
      cases x with
      | inBlock id => exact .inr (still (fun main t cs v => stepG_inBlock) hkk)
      | inLoop c => exact .inr (still (fun main t cs v => stepG_inLoop) (by simp only [List.all_cons, Bool.and_eq_true]; exact ⟨hx, hx, hkk⟩))
      | inRegion ops todo =>
        cases todo with
        | nil => exact .inr (still (fun main t cs v => stepG_region_end) hkk)
        | cons i rest =>
          have hr2 : (Item.inRegion ops rest :: k).all (okItem P Fs) = true := by simp only [List.all_cons, Bool.and_eq_true]; exact ⟨hx, hkk⟩
          cases ho : ops[i]? with
          | none =>
            exact .inr (still (todo1 := .inRegion ops rest :: k) (fun main t cs v => by simp [G, stepG, stepG.exec, Frame.at, ho, Frame.finish]) hr2)
          | some o =>
            cases hwa : Region.wanted o (yielded ops t) with
            | true => exact oper_sim hP hF hk ht hi hcs hw hag ho hwa
            | false =>
              have hwa' : Region.wanted o (yielded ops t') = false := by
                have : yielded ops t' = yielded ops t := funext (yield_eq ht ops)
                rw [this]; exact hwa
              obtain ⟨p1, p2, p3⟩ := put_rel ht o.dst (VR.undef (F := FFs Fs) (R := R))
              exact .inr (Followed.still hw (fun v => stepG_unwanted ho hwa) (stepG_unwanted ho hwa') (FR.mka hF hk p2 p3 p1 hr2) hcs)
      | code c =>
        have hx : okCode P Fs c = true := hx
        cases c with
        | skip => exact .inr (still (fun main t cs v => stepG_skip) hkk)
        | label l => exact .inr (still (fun main t cs v => stepG_label) hkk)
        | ret => exact .inr (toRet fun main t cs v => stepG_ret')
        | seq a b =>
          simp only [okCode, Bool.and_eq_true] at hx
          exact .inr (still (fun main t cs v => stepG_seq) (by simp only [List.all_cons, Bool.and_eq_true, okItem]; exact ⟨hx.1, hx.2, hkk⟩))
        | block id b => exact .inr (still (fun main t cs v => stepG_block) (by simp only [List.all_cons, Bool.and_eq_true, okItem]; exact ⟨hx, trivial, hkk⟩))
        | loop b => exact .inr (still (fun main t cs v => stepG_loop) (by simp only [List.all_cons, Bool.and_eq_true, okItem]; exact ⟨hx, hx, hkk⟩))
        | exit id =>
          cases he : exitTo id k with
          | some k' => exact .inr (still (fun main t cs v => stepG_exit he) (exit_ok he hkk))
          | none =>
            left
            exact doomed_ended (step_Ge (es := #[]) (o := .stuck "exit, goto: no such block or label" (((B fn kind).at ⟨t, []⟩ (.code (.exit id) :: k)).pos P)) (v1 := v) (by simp [G, stepG, stepG.exec, Frame.at, he]))
        | cond c x y =>
          simp only [okCode, Bool.and_eq_true] at hx
          have hρ : VR (FFs Fs) R ((⟨t, []⟩ : Act).eval c) ((⟨t', []⟩ : Act).eval c) := (FR.rho (FR.mk' hF hk ht hi)) c hx.1.1
          cases hb : (⟨t, []⟩ : Act).eval c with
          | bool b =>
            rw [hb] at hρ
            have hb' : (⟨t', []⟩ : Act).eval c = .bool b := by generalize (⟨t', []⟩ : Act).eval c = z at hρ; cases hρ; rfl
            refine .inr (Followed.still hw (fun v => stepG_cond hb) (stepG_cond hb') (FR.mk' hF hk ht ?_) hcs)
            simp only [List.all_cons, Bool.and_eq_true, okItem]
            cases b
            · exact ⟨hx.2, hkk⟩
            · exact ⟨hx.1.2, hkk⟩
          | _ =>
            left
            have h' : ((B fn kind).at ⟨t, []⟩ (.code (.cond c x y) :: k)).eval c = _ := (Frame.eval_at _ _ _ _).trans hb
            simp only [Frame.at, B] at h'
            exact doomed_ended (step_Ge (es := #[]) (o := .stuck "cond: bool expected" (((B fn kind).at ⟨t, []⟩ (.code (.cond c x y) :: k)).pos P)) (v1 := v) (by simp [G, stepG, stepG.exec, Frame.at, B, h']))
        | region id ops draw =>
          have hr2 : ∀ l, (Item.inRegion ops l :: k).all (okItem P Fs) = true := fun l => by simp only [List.all_cons, Bool.and_eq_true]; exact ⟨hx, hkk⟩
          cases draw with
          | false => exact .inr (still (fun main t cs v => stepG_region) (hr2 _))
          | true =>
            right
            have e0 : w.tape w.drawn (.order fn id) = v.tape v.drawn (.order fn id) := hag 1 0 _ (by omega)
            have hst : Stretch (FFs Fs) R R v { v with drawn := v.drawn + 1 } w { w with drawn := w.drawn + 1 } #[] :=
              ⟨fun _ _ x => x, fun _ _ x => .inl x, ⟨hw.obj, hw.fn, hw.inj⟩, Nat.le_succ _, by simp only []; omega, rfl, rfl, rfl, rfl, ⟨Nat.le_refl _, fun b c el fz h => ⟨c, h, rfl, fun _ _ => rfl⟩, fun b o h n => ⟨o, h, n, .inl rfl⟩⟩, ⟨Nat.le_refl _, fun _ _ _ => rfl, fun c x el fz hx => ⟨x, hx, rfl, fun _ => .inl rfl⟩⟩, by simp, fun _ _ _ _ h _ => .inl h⟩
            refine ⟨⟨_, up, _, R, _, up', _, #[], step_G stepG_region_draw, stepG_region_draw, hst, ?_, hcs, fun T d hT => ?_⟩⟩
            · rw [show (B fn kind).fn = fn from rfl, e0]
              exact FR.mk' hF hk ht (hr2 _)
            · have e1 : T d (.order fn id) = v.tape v.drawn (.order fn id) := hT 0 _ (by simp)
              refine (step_G stepG_region_draw).trans ?_
              simp only [rt, show (B fn kind).fn = fn from rfl, e1]
              simp
        | _ => cases hx
      | _ => cases hx
  · exact ret_sim hP hF hk ht hcs hw hag
end
end Go.Proofs.Ytneclhkpgalnlaa.Sm
