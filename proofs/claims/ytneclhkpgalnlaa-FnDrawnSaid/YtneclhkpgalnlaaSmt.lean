/-
  FROM 'BESIDE LEAVERS' INTO A PHASE AND BACK: goroutine 0 stands ahead of its first worker; behind the last receive it stands beside leavers again, the row filled.
-/
import Derived.Test.YtneclhkpgalnlaaSms
namespace Go.Proofs.Ytneclhkpgalnlaa.Sm
open Go Go.Conc
open Go.ConcN (sumTo upd sumTo_upd upd_ne upd_same sumTo_congr)
set_option linter.unusedVariables false
set_option linter.unusedSimpArgs false

/-! ### what can be reached -/
inductive Pt : Value → Nat → Prop
  | pointer (a : Addr) : Pt (.pointer (some a)) a.block
  | slice (a : Addr) (l c : Nat) : Pt (.slice (some a) l c) a.block
  | map (r : Nat) : Pt (.map (some r)) r
  | chan (r : Nat) : Pt (.chan (some r)) r
  | first {f : Fn} {p c : Array Value} {i : Nat} {x : Value} {b : Nat} (h : p[i]? = some x) (hx : Pt x b) : Pt (.func f p c) b
  | capt {f : Fn} {p c : Array Value} {i : Nat} {x : Value} {b : Nat} (h : c[i]? = some x) (hx : Pt x b) : Pt (.func f p c) b
  | agg {c : Array Value} {i : Nat} {x : Value} {b : Nat} (h : c[i]? = some x) (hx : Pt x b) : Pt (.agg c) b
  | tuple {c : Array Value} {i : Nat} {x : Value} {b : Nat} (h : c[i]? = some x) (hx : Pt x b) : Pt (.tuple c) b

section
variable {F : FuncId → Prop} {R : BR}
theorem VR.pt {x x' : Value} {b : Nat} (h : VR F R x x') (hp : Pt x b) : ∃ c, R b c := by
  induction hp generalizing x' with
  | pointer a => cases h with
    | pointer h => exact ⟨_, h.1⟩
  | slice a l c => cases h with
    | slice h => exact ⟨_, h.1⟩
  | map r => cases h with
    | map h => exact ⟨_, h⟩
  | chan r => cases h with
    | chan h => exact ⟨_, h⟩
  | first hi hx ih => cases h with
    | func hf hp hc ip ic =>
      obtain ⟨hlt, rfl⟩ := Array.getElem?_eq_some_iff.1 hi
      exact ih (ip _ hlt (hp ▸ hlt))
  | capt hi hx ih => cases h with
    | func hf hp hc ip ic =>
      obtain ⟨hlt, rfl⟩ := Array.getElem?_eq_some_iff.1 hi
      exact ih (ic _ hlt (hc ▸ hlt))
  | agg hi hx ih => cases h with
    | agg hs h =>
      obtain ⟨hlt, rfl⟩ := Array.getElem?_eq_some_iff.1 hi
      exact ih (h _ hlt (hs ▸ hlt))
  | tuple hi hx ih => cases h with
    | tuple hs h =>
      obtain ⟨hlt, rfl⟩ := Array.getElem?_eq_some_iff.1 hi
      exact ih (h _ hlt (hs ▸ hlt))

theorem VR.cutR {x x' : Value} (h : VR F R x x') {N : Nat → Prop} (hn : ∀ b, Pt x b → N b) : VR F (fun b c => R b c ∧ N b) x x' := by
  induction h with
  | bot h => exact .bot h
  | bool b => exact .bool b
  | int k n => exact .int k n
  | pointer h => exact .pointer ⟨⟨h.1, hn _ (.pointer _)⟩, h.2⟩
  | sliceNone l c => exact .sliceNone l c
  | slice h l c => exact .slice ⟨⟨h.1, hn _ (.slice _ _ _)⟩, h.2⟩ l c
  | mapNone => exact .mapNone
  | map h => exact .map ⟨h, hn _ (.map _)⟩
  | chanNone => exact .chanNone
  | chan h => exact .chan ⟨h, hn _ (.chan _)⟩
  | func hf hp hc ip ic ih1 ih2 => exact .func hf hp hc (fun i h1 h2 => ih1 i h1 h2 fun b hb => hn b (.first (Array.getElem?_eq_getElem h1) hb)) (fun i h1 h2 => ih2 i h1 h2 fun b hb => hn b (.capt (Array.getElem?_eq_getElem h1) hb))
  | agg hs h ih => exact .agg hs fun i h1 h2 => ih i h1 h2 fun b hb => hn b (.agg (Array.getElem?_eq_getElem h1) hb)
  | tuple hs h ih => exact .tuple hs fun i h1 h2 => ih i h1 h2 fun b hb => hn b (.tuple (Array.getElem?_eq_getElem h1) hb)
end

inductive Reach (t : Array Value) (v : World) : Nat → Prop
  | slot {i : Nat} {x : Value} {b : Nat} (h : t[i]? = some x) (hx : Pt x b) : Reach t v b
  | cell {b' : Nat} {cs : Array Value} {el : TypeId} {fz : Nat × Nat} {i : Nat} {x : Value} {b : Nat} (h : Reach t v b') (hc : v.heap[b']? = some (.cells cs el fz)) (hi : cs[i]? = some x) (hx : Pt x b) : Reach t v b

theorem Reach.real {F : FuncId → Prop} {R : BR} {t t' : Array Value} {v w : World} (ht : AVR F R t t') (hw : WR F R v w) {b : Nat} (h : Reach t v b) : ∃ c, R b c := by
  induction h with
  | slot h hx => obtain ⟨x', _, hv⟩ := ht.get h; exact hv.pt hx
  | cell h hc hi hx ih =>
    obtain ⟨c, hc'⟩ := ih
    obtain ⟨o, o', ho, ho', hOR⟩ := hw.obj _ _ hc'
    rw [hc] at ho
    simp only [Option.some.injEq] at ho
    subst ho
    cases hOR with
    | cells h1 h2 => obtain ⟨x', _, hv⟩ := h1 _ _ hi; exact hv.pt hx

/-! ### a row without cells -/
def cutRow (v : World) (bO : Nat) (el : TypeId) : World := { v with heap := v.heap.setIfInBounds bO (.cells #[] el (0, 0)) }
def shade (v : World) (bO : Nat) (el : TypeId) : World := frz (cutRow v bO el)
def chansOf (v : World) : Nat → Prop := fun b => ∃ s tm, v.heap[b]? = some (.chan 0 #[] false s s tm)

section
variable {v : World} {bO : Nat} {el : TypeId}
theorem shade_size : (shade v bO el).heap.size = v.heap.size := by simp [shade, frz, cutRow]
theorem shade_O (h : bO < v.heap.size) : (shade v bO el).heap[bO]? = some (.cells #[] el (0, 0)) := by
  refine frz_cells (c := #[]) (el := el) (fz := (0, 0)) ?_
  simp [cutRow, h]
theorem cut_ne {b : Nat} (h : b ≠ bO) : (cutRow v bO el).heap[b]? = v.heap[b]? := by simp only [cutRow, Array.getElem?_setIfInBounds_ne (Ne.symm h)]
theorem shade_cells {b : Nat} {c : Array Value} {e : TypeId} {fz : Nat × Nat} (hb : b ≠ bO) (h : v.heap[b]? = some (.cells c e fz)) : (shade v bO el).heap[b]? = some (.cells c e (0, c.size)) :=
  frz_cells (by rw [cut_ne hb]; exact h)
theorem shade_non {b : Nat} {o : Obj} (hb : b ≠ bO) (h : v.heap[b]? = some o) (hn : ¬ IsCells o) : (shade v bO el).heap[b]? = some o := frz_non (by rw [cut_ne hb]; exact h) hn
theorem wr_cut {F : FuncId → Prop} {R : BR} {w : World} (h : WR F R v w) (hO : ∃ zs fz, v.heap[bO]? = some (.cells zs el fz)) : WR F R (cutRow v bO el) w := by
  obtain ⟨zs, fz, hO⟩ := hO
  refine ⟨fun b c hb => ?_, h.fn, h.inj⟩
  obtain ⟨o, o', ho, ho', hOR⟩ := h.obj b c hb
  by_cases e : b = bO
  · subst e
    rw [hO] at ho
    simp only [Option.some.injEq] at ho
    subst ho
    have hlt := (Array.getElem?_eq_some_iff.1 hO).1
    cases hOR with
    | cells h1 h2 => exact ⟨.cells #[] el (0, 0), _, by simp only [cutRow, Array.getElem?_setIfInBounds_self_of_lt hlt], ho', .cells (fun j u hj => by simp at hj) (fun j hj => by simp at hj)⟩
  · exact ⟨o, o', by rw [cut_ne e]; exact ho, ho', hOR⟩
end

/-- Behind the phase: what goroutine 0 held ahead of it, the row filled, and what it made since. -/
def restore (v : World) (bO : Nat) (row : Obj) (u : World) : World := { u with heap := u.heap.mapIdx fun b o => if b = bO then row else match v.heap[b]? with
  | some (.cells c el fz) => .cells c el fz
  | some (.chan a b c d e f) => .chan a b c d e f
  | _ => o }
section
variable {v u : World} {bO : Nat} {row : Obj}
theorem rst_O (h : bO < u.heap.size) : (restore v bO row u).heap[bO]? = some row := by simp [restore, h]
theorem rst_cells {b : Nat} {c : Array Value} {e : TypeId} {fz : Nat × Nat} (hu : b < u.heap.size) (hb : b ≠ bO) (h : v.heap[b]? = some (.cells c e fz)) : (restore v bO row u).heap[b]? = some (.cells c e fz) := by simp [restore, hu, hb, h]
theorem rst_chan {b : Nat} {a1 : Nat} {a2 : Array Value} {a3 : Bool} {a4 a5 : Nat} {a6 : Bool} (hu : b < u.heap.size) (hb : b ≠ bO) (h : v.heap[b]? = some (.chan a1 a2 a3 a4 a5 a6)) : (restore v bO row u).heap[b]? = some (.chan a1 a2 a3 a4 a5 a6) := by simp [restore, hu, hb, h]
theorem rst_other {b : Nat} (hb : b ≠ bO) (h : (v.heap[b]? = none) ∨ ∃ o, v.heap[b]? = some o ∧ ¬ IsCells o ∧ ∀ a1 a2 a3 a4 a5 a6, o ≠ .chan a1 a2 a3 a4 a5 a6) : (restore v bO row u).heap[b]? = u.heap[b]? := by
  have key : ∀ o, (match v.heap[b]? with
      | some (.cells c el fz) => .cells c el fz
      | some (.chan a b c d e f) => .chan a b c d e f
      | _ => o : Obj) = o := by
    intro o
    rcases h with h | ⟨p, h, h1, h2⟩
    · rw [h]
    · rw [h]
      cases p <;> first | rfl | exact absurd trivial h1 | exact absurd rfl (h2 _ _ _ _ _ _)
  simp only [restore, Array.getElem?_mapIdx, if_neg hb]
  cases hu : u.heap[b]? with
  | none => rfl
  | some o => simp only [Option.map_some]; rw [key o]
theorem rst_size : (restore v bO row u).heap.size = u.heap.size := by simp [restore]
end

def results (f : Nat → Int) (len : Nat) : Array Value := ((List.range len).map fun i => Value.int .i64 (f i)).toArray

/-- What is asked of the virtual side ahead of the first worker. -/
structure Start (P : Program) (Fs : FuncId → Bool) (fW : FuncId) (n len : Nat) (f : Nat → Int) (bO bC : Nat) (el0 elO : TypeId) (ps : List Nat) (Need : Nat → Prop) (Fin : VStop) (fr : Frame) (up : List Frame) (v : World) : Prop where
  hn : 1 ≤ n
  hF : Fs fW = true
  root : ∃ fn kind t todo, fr = (B fn kind).at ⟨t, []⟩ todo ∧ ∀ b, Need b → Reach t v b
  need : ∀ b, Need b → (∃ cs el fz, v.heap[b]? = some (.cells cs el fz) ∧ (b ≠ bO → ∀ (i : Nat) x, cs[i]? = some x → ∀ b', Pt x b' → Need b')) ∨ chansOf v b
  nO : Need bO
  nC : Need bC
  nps : ∀ b ∈ ps, Need b
  row : ∃ zs, v.heap[bO]? = some (.cells zs elO (0, 0)) ∧ zs.size = len
  chan : chansOf v bC
  segW : ∀ k, k < n → Seg P (chansOf v) (WStop P (chansOf v) bO bC n len f (len + 1) k) (Frame.enter P fW (#[.pointer (some ⟨(shade v bO elO).heap.size, 0, none⟩)] ++ (ps.map fun b => Value.pointer (some ⟨b, 0, none⟩)).toArray) .deferred) []
    { shade v bO elO with heap := (shade v bO elO).heap.push (.cells #[.int .i64 (k : Nat)] el0 (0, 1)) }
  segG : GNext P (chansOf v) fW ps el0 bC n Fin n fr up (shade v bO elO)

theorem cnt_zero : ∀ n, cnt n (fun _ => false) = 0
  | 0 => rfl
  | n + 1 => by
    have := cnt_zero n
    unfold cnt at this ⊢
    simp only [sumTo, this]
    rfl

theorem ro_not_un0 {v : World} {b : Nat} {zs : Array Value} {el : TypeId} (h : RO v b) (hb : v.heap[b]? = some (.cells zs el (0, 0))) : zs.size = 0 := by
  rcases Nat.eq_zero_or_pos zs.size with e | e
  · exact e
  · exact absurd ⟨zs, el, (0, 0), hb, e, by simp [inFz]⟩ (h.not_un (j := 0))

/-- ████ A PHASE, FROM BESIDE LEAVERS TO BESIDE LEAVERS ████ -/
theorem phase_calm {P : Program} {Fs : FuncId → Bool} (hP : OkProg P Fs) {H : Nat} {W : World} {gs : Array Goroutine} {w : World} {sl : Option (Nat × Nat)} {t : Trace} {q : Nat → Nat} {s : St}
    {fW : FuncId} {n len : Nat} {f : Nat → Int} {bO bC : Nat} {el0 elO : TypeId} {ps : List Nat} {Need : Nat → Prop} {Fin : VStop} (hC : Calm P Fs H W (fun _ => False) gs w t q s) (hS : Start P Fs fW n len f bO bC el0 elO ps Need Fin s.fr s.up s.v) :
    ∃ N gs' w' sl' t' q' s' u, runNT P N (crowd gs w sl) t = (.next (crowd gs' w' sl'), t') ∧ Calm P Fs H W (fun _ => False) gs' w' t' q' s' ∧ (∃ T d, Fin s'.fr s'.up (rt u T d)) ∧ s.v.heap.size ≤ u.heap.size ∧ s'.v = restore s.v bO (.cells (results f len) elO (0, 0)) u := by
  obtain ⟨fn0, kind0, t0, todo0, hfr, hreach⟩ := hS.root
  have hslots : ∃ t', AVR (FFs Fs) s.R t0 t' := by
    obtain ⟨fn1, t1, t1', todo1, mode1, kind1, e1, _, _, _, _, h6, _⟩ := hC.ok.1
    rw [hfr] at e1
    simp only [Frame.at, B, Frame.mk.injEq] at e1
    obtain ⟨_, rfl, _⟩ := e1
    exact ⟨t1', h6⟩
  obtain ⟨t0', ht0⟩ := hslots
  have hreal : ∀ b, Need b → ∃ c, s.R b c := fun b hb => (hreach b hb).real ht0 hC.wr
  obtain ⟨cO, hcO⟩ := hreal bO hS.nO
  obtain ⟨cC, hcC⟩ := hreal bC hS.nC
  obtain ⟨zs, hzs, hzl⟩ := hS.row
  obtain ⟨s1, tm, hch⟩ := hS.chan
  have hltO := (hC.wr.lt hcO)
  -- the real row
  have hrow : ∃ y fz, w.heap[cO]? = some (.cells y elO fz) ∧ len ≤ y.size ∧ ∀ i, i < len → ¬ inFz fz i := by
    obtain ⟨o, o', ho, ho', hOR⟩ := hC.wr.obj _ _ hcO
    rw [hzs] at ho
    simp only [Option.some.injEq] at ho
    subst ho
    have hle := @OR.le (FFs Fs) s.R
    cases hOR with
    | @cells _ y _ _ fz h1 h2 => exact ⟨y, fz, ho', by rw [← hzl]; exact hle (OR.cells (el := elO) h1 h2), fun i hi => h2 i (by omega) (by simp [inFz])⟩
  obtain ⟨yO, fzO, hyO, hyl, hyf⟩ := hrow
  have hchan : ∃ s0, w.heap[cC]? = some (.chan 0 #[] false s0 s0 tm) := by
    obtain ⟨o, o', ho, ho', hOR⟩ := hC.wr.obj _ _ hcC
    rw [hch] at ho
    simp only [Option.some.injEq] at ho
    subst ho
    cases hOR with
    | chan a b c => exact ⟨_, ho'⟩
  obtain ⟨s0, hs0⟩ := hchan
  let Old : Nat → Prop := fun c => c < w.heap.size ∧ ¬ ∃ b, s.R b c ∧ ∃ o, s.v.heap[b]? = some o ∧ ¬ IsCells o ∧ ¬ chansOf s.v b
  let J : Job := { P := P, Fs := Fs, fW := fW, n := n, len := len, f := f, m := gs.size - 1, H0 := w.heap.size, Old := Old, cO := cO, cC := cC, bO := bO, bC := bC, Rb := fun b c => s.R b c ∧ Need b, vb := shade s.v bO elO, ps := ps, el0 := el0, wB := w, elO := elO, fzO := fzO, szO := yO.size, tm := tm, s0 := s0, RB := s.R, nB := s.v.heap.size, Fin := Fin, Ch := chansOf s.v }
  have chO : ¬ chansOf s.v bO := by rintro ⟨a, b, h⟩; rw [hzs] at h; cases h
  have hwrb : WR (FFs Fs) s.R (shade s.v bO elO) w := wr_frz (wr_cut hC.wr ⟨zs, _, hzs⟩)
  have hveil : Veil (chansOf s.v) (shade s.v bO elO) := by
    rintro b ⟨a, c, h⟩
    have hb : b ≠ bO := by rintro rfl; exact chO ⟨a, c, h⟩
    exact ⟨_, shade_non hb h (by simp [IsCells]), by simp [IsCells], by simp [IsMap]⟩
  have hJ : J.Ok := by
    refine ⟨hP, hS.hF, hS.hn, ⟨fun b c hb => ?_, fun b c c' h1 h2 => hC.wr.fn _ _ _ h1.1 h2.1, fun b b' c h1 h2 => hC.wr.inj _ _ _ h1.1 h2.1⟩, ⟨hcO, hS.nO⟩, ⟨hcC, hS.nC⟩, fun b hb => ?_, fun b c h => h.1, fun b c hb => ⟨?_, fun e off hcl => ?_⟩, hveil, rfl, fun c h => h.1, fun b c hb => ⟨(hC.wr.lt hb.1).2, ?_⟩, ⟨yO, hyO, rfl⟩, hyl, hyf, hs0, fun k hk => hS.segW k hk⟩
    · obtain ⟨hb1, hb2⟩ := hb
      obtain ⟨o, o', ho, ho', hOR⟩ := hC.wr.obj b c hb1
      by_cases e : b = bO
      · subst e
        rw [hzs] at ho
        simp only [Option.some.injEq] at ho
        subst ho
        cases hOR with
        | cells h1 h2 => exact ⟨_, _, shade_O hltO.1, ho', .cells (fun j u hj => by simp at hj) (fun j hj => by simp at hj)⟩
      · rcases hS.need b hb2 with ⟨cs, el, fz, h1, h2⟩ | ⟨a, c', h1⟩
        · rw [h1] at ho
          simp only [Option.some.injEq] at ho
          subst ho
          cases hOR with
          | cells k1 k2 =>
            refine ⟨_, _, shade_cells e h1, ho', .cells (fun j u hj => ?_) (fun j hj hn => absurd ⟨Nat.zero_le _, hj⟩ hn)⟩
            obtain ⟨u', g1, g2⟩ := k1 j u hj
            exact ⟨u', g1, g2.cutR fun b' hb' => h2 e j u hj b' hb'⟩
        · rw [h1] at ho
          simp only [Option.some.injEq] at ho
          subst ho
          cases hOR with
          | chan x y z => exact ⟨_, _, shade_non e h1 (by simp [IsCells]), ho', .chan _ _ _⟩
    · obtain ⟨c, hc⟩ := hreal b (hS.nps b hb)
      exact ⟨c, hc, hS.nps b hb⟩
    · by_cases e : b = bO
      · subst e; exact .inl ⟨_, _, _, shade_O hltO.1, fun j hj => by simp at hj⟩
      · rcases hS.need b hb.2 with ⟨cs, el, fz, h1, _⟩ | h1
        · exact .inl ⟨_, _, _, shade_cells e h1, fun j hj => ⟨Nat.zero_le _, hj⟩⟩
        · exact .inr h1
    · have e2 : b = bO := hC.wr.inj _ _ _ hb.1 (by rw [show c = cO from e]; exact hcO)
      subst e2
      obtain ⟨z, el, fz, z1, z2⟩ := hcl
      rw [show J.vb.heap[b]? = _ from shade_O hltO.1] at z1
      simp only [Option.some.injEq, Obj.cells.injEq] at z1
      obtain ⟨rfl, _⟩ := z1
      simp at z2
    · rintro ⟨b', hb', o, ho, h1, h2⟩
      obtain rfl := hC.wr.inj _ _ _ hb' hb.1
      rcases hS.need b' hb.2 with ⟨cs, el, fz, k1, _⟩ | k1
      · rw [k1] at ho
        simp only [Option.some.injEq] at ho
        subst ho
        exact h1 trivial
      · exact h2 k1
  let g : Geo := { Old := Old, cO := cO, n := n, own := fun _ => 0, box := fun _ => 0, j := 0 }
  have hgsz : 0 < gs.size := (Array.getElem?_eq_some_iff.1 hC.g0).1
  have hgok : g.Ok w.heap.size := ⟨fun c h => h.1, hJ.oldR _ _ hJ.rO, fun x h1 h2 => by have h2 : x ≤ 0 := h2; omega, fun x y h1 h2 => by have h2 : x ≤ 0 := h2; omega⟩
  have hcom : Com J g gs w t (fun _ => false) := by
    refine ⟨rfl, Nat.le_refl _, rfl, rfl, Nat.zero_le _, hgok, by show gs.size = gs.size - 1 + 1 + 0; omega, ⟨yO, hyO, rfl⟩, fun _ => rfl, by rw [cnt_zero]; exact hs0, fun _ _ _ _ => rfl, rfl, rfl, rfl, ⟨hC.nr, hC.wl, fun i a ha hm => .inl (hC.kn i a ha hm), fun x hx hax => ?_⟩, fun x hx => by cases hx⟩
    have : x ≤ 0 := hax.2.1
    omega
  let sB : St := { s with v := shade s.v bO elO }
  have hlay : Lay g 0 J.Ch s.R (shade s.v bO elO) := by
    intro b c hb
    obtain ⟨o, o', ho, ho', hOR⟩ := hC.wr.obj b c hb
    refine Classical.byCases (p := ¬ IsCells o ∧ ¬ chansOf s.v b) (fun ⟨h1, h2⟩ => ?_) fun h => ?_
    · exact .inl ⟨fun hold => hold.2 ⟨b, hb, o, ho, h1, h2⟩, rfl, by rintro ⟨x, h1, h2, _⟩; have h2 : x ≤ 0 := h2; omega⟩
    · have hold : Old c := ⟨(hC.wr.lt hb).2, by
        rintro ⟨b', hb', o2, ho2, k1, k2⟩
        obtain rfl := hC.wr.inj _ _ _ hb' hb
        rw [ho] at ho2
        simp only [Option.some.injEq] at ho2
        subst ho2
        exact h ⟨k1, k2⟩⟩
      refine .inr ⟨.inl hold, ?_, fun e off hcl => ?_⟩
      · refine Classical.byCases (p := chansOf s.v b) .inr fun hnc => .inl ?_
        have hcl : IsCells o := Classical.byContradiction fun hn => h ⟨hn, hnc⟩
        cases o with
        | cells cs el fz =>
          by_cases e : b = bO
          · subst e; exact ⟨_, _, _, shade_O hltO.1, fun j hj => by simp at hj⟩
          · exact ⟨_, _, _, shade_cells e ho, fun j hj => ⟨Nat.zero_le _, hj⟩⟩
        | _ => exact hcl.elim
      · have e2 : b = bO := hC.wr.inj _ _ _ hb (by rw [show c = cO from e]; exact hcO)
        subst e2
        obtain ⟨z, el, fz, z1, z2⟩ := hcl
        rw [shade_O hltO.1] at z1
        simp only [Option.some.injEq, Obj.cells.injEq] at z1
        obtain ⟨rfl, _⟩ := z1
        simp at z2
  have hzr : ZR J g w sB := ⟨hC.ok, hwrb, hlay, hveil, fun _ _ h => h, fun _ _ h => .inl h, by rw [show sB.v.heap.size = _ from shade_size]; exact Nat.le_refl _⟩
  obtain ⟨sp, hsp⟩ : ∃ sp, n = sp + 1 := ⟨n - 1, by have := hS.hn; omega⟩
  have hseg : Seg P J.Ch (QG J g.j sp) sB.fr sB.up sB.v := by
    have h1 := hS.segG
    have h2 : GNext P (chansOf s.v) fW ps el0 bC n Fin (sp + 1) s.fr s.up (shade s.v bO elO) := by rw [← hsp]; exact h1
    have h3 : n - (sp + 1) = 0 := by omega
    unfold GNext at h2
    rw [h3] at h2
    exact h2
  obtain ⟨tr, hway⟩ := way_of_seg (main := true) (bs := []) (s := sB) hP hC.ok hseg hveil
  have hPI : PI J g (fun _ => false) ((2 * (sp + 1 + n) + 1, tr), fun i => (q i, .leaf)) gs w t := by
    refine ⟨hcom, ⟨_, hC.g0, .go (s := sB) rfl hzr (sp := sp) (by show 0 + sp + 1 = n; omega) hway⟩, fun x h1 h2 => by have h2 : x ≤ 0 := h2; omega, fun i i1 i2 => ?_, fun gr hgr hb => ?_⟩
    · have i2 : i ≤ gs.size - 1 := i2
      have hi : gs[i]? = some gs[i] := Array.getElem?_eq_getElem (by omega)
      exact ⟨_, hi, hC.lv i _ (by omega) hi, rfl⟩
    · rw [hC.g0] at hgr
      obtain rfl := Option.some.inj hgr
      cases hb
  obtain ⟨N, gs', w', sl', t', g', q', s', hrun, hF⟩ := phase hJ _ g _ gs w sl t hPI
  obtain ⟨jd, hcom', hall⟩ := hF.com
  have hsv : s.v.heap.size ≤ s'.v.heap.size := hF.zr.size
  let v2 : World := restore s.v bO (.cells (results f len) elO (0, 0)) s'.v
  have hltb : ∀ b o, s.v.heap[b]? = some o → b < s'.v.heap.size := fun b o h => Nat.lt_of_lt_of_le (Array.getElem?_eq_some_iff.1 h).1 hsv
  have hout : ∃ y, w'.heap[cO]? = some (.cells y elO fzO) ∧ y.size = yO.size := hcom'.out
  have hsubR : ∀ b c, s.R b c → s'.R b c := hF.zr.sub
  have cCO : cC ≠ cO := by rintro rfl; rw [hyO] at hs0; cases hs0
  have hwr2 : WR (FFs Fs) s'.R v2 w' := by
    refine ⟨fun b c hb => ?_, hF.zr.wr.fn, hF.zr.wr.inj⟩
    rcases hF.zr.new b c hb with hb0 | ⟨hb1, _⟩
    · have hb0 : s.R b c := hb0
      by_cases e : b = bO
      · subst e
        obtain rfl : cO = c := (hC.wr.fn _ _ _ hb0 hcO)
        obtain ⟨y, hy, hys⟩ := hout
        refine ⟨_, _, rst_O (hltb _ _ hzs), hy, .cells (fun j u hj => ?_) (fun j hj _ => hyf j (by simpa [results] using hj))⟩
        have hjl : j < len := by
          have := (Array.getElem?_eq_some_iff.1 hj).1
          simpa [results] using this
        obtain ⟨y2, hy2, hv2⟩ := hF.done j hjl
        rw [show w'.heap[cO]? = _ from hy2] at hy
        simp only [Option.some.injEq, Obj.cells.injEq] at hy
        obtain ⟨rfl, _⟩ := hy
        have : u = .int .i64 (f j) := by
          simp only [results, List.getElem?_toArray, List.getElem?_map, List.getElem?_range hjl, Option.map_some, Option.some.injEq] at hj
          exact hj.symm
        subst this
        exact ⟨_, hv2, .int _ _⟩
      · obtain ⟨o, o', ho, ho', hOR⟩ := hC.wr.obj b c hb0
        have hcne : c ≠ cO := fun e2 => e (hC.wr.inj _ _ _ hb0 (by rw [e2]; exact hcO))
        refine Classical.byCases (p := ¬ IsCells o ∧ ¬ chansOf s.v b) (fun ⟨h1, h2⟩ => ?_) fun h => ?_
        · obtain ⟨p, p', hp, hp', hOR'⟩ := hF.zr.wr.obj b c hb
          refine ⟨p, p', ?_, hp', hOR'⟩
          rw [show v2.heap[b]? = _ from rst_other e (.inr ⟨o, ho, h1, fun a1 a2 a3 a4 a5 a6 e2 => ?_⟩)]
          · exact hp
          · subst e2
            cases hOR with
            | chan x y z => exact h2 ⟨_, _, ho⟩
        · have hold : Old c := ⟨(hC.wr.lt hb0).2, by
            rintro ⟨b', hb', o2, ho2, k1, k2⟩
            obtain rfl := hC.wr.inj _ _ _ hb' hb0
            rw [ho] at ho2
            simp only [Option.some.injEq] at ho2
            subst ho2
            exact h ⟨k1, k2⟩⟩
          by_cases ec : c = cC
          · subst ec
            rw [hs0] at ho'
            simp only [Option.some.injEq] at ho'
            subst ho'
            cases hOR with
            | chan x y z => exact ⟨_, _, rst_chan (hltb _ _ ho) e ho, hcom'.chan, .chan _ _ _⟩
          · have hsame : w'.heap[c]? = w.heap[c]? := hcom'.old c hold hcne ec
            cases o with
            | cells cs el fz => exact ⟨_, o', rst_cells (hltb _ _ ho) e ho, by rw [hsame]; exact ho', hOR.mono hsubR⟩
            | chan a1 a2 a3 a4 a5 a6 => exact ⟨_, o', rst_chan (hltb _ _ ho) e ho, by rw [hsame]; exact ho', hOR.mono hsubR⟩
            | _ =>
              refine absurd ⟨by simp [IsCells], ?_⟩ h
              rintro ⟨a1, a2, h3⟩
              rw [ho] at h3
              cases h3
    · have hb1 : s.v.heap.size ≤ b := hb1
      obtain ⟨p, p', hp, hp', hOR'⟩ := hF.zr.wr.obj b c hb
      have hne : b ≠ bO := by have := hltO.1; omega
      exact ⟨p, p', by rw [show v2.heap[b]? = _ from rst_other hne (.inl (by simp; omega))]; exact hp, hp', hOR'⟩
  have hlen0 : ∀ {c}, c < H → s.R bO c → len = 0 := fun {c} h1 h2 => by
    have := ro_not_un0 (hC.lay _ _ h2 h1) hzs
    omega
  have hlow : ∀ b c, s'.R b c → c < H → s.R b c := fun b c hb hc => by
    rcases hF.zr.new b c hb with hb0 | ⟨_, hb1⟩
    · exact hb0
    · have hb1 : w.heap.size ≤ c := hb1
      have := hC.hle
      omega
  refine ⟨N, gs', w', sl', t', q', { s' with v := v2 }, s'.v, hrun, ⟨hF.g0, hF.zr.ok, hwr2, fun b c hb hc => ?_, fun b hb => hb.elim, Nat.le_trans hC.hle hcom'.hsz, fun c hc => ?_, hcom'.tape.trans hC.tape, hcom'.os.trans hC.os, hcom'.outp.trans hC.out, fun i gr hi hgr => hF.lv i gr (by omega) hgr, hcom'.tr.nr, hcom'.tr.wl, fun i a ha hm => ?_⟩, hF.fin, hsv, rfl⟩
  · have hb0 := hlow b c hb hc
    have hro := hC.lay b c hb0 hc
    by_cases e : b = bO
    · subst e
      have hl0 := hlen0 hc hb0
      exact ⟨_, _, _, rst_O (hltb _ _ hzs), fun j hj => by simp [results, hl0] at hj⟩
    · obtain ⟨cs, el, fz, h1, h2⟩ := hro
      exact ⟨_, _, _, rst_cells (hltb _ _ h1) e h1, h2⟩
  · rw [← hC.old c hc]
    have hold : Old c := ⟨Nat.lt_of_lt_of_le hc hC.hle, by
      rintro ⟨b, hb, o, ho, h1, _⟩
      obtain ⟨cs, el, fz, k1, _⟩ := hC.lay b c hb hc
      rw [ho] at k1
      simp only [Option.some.injEq] at k1
      subst k1
      exact h1 trivial⟩
    by_cases e1 : c = cO
    · subst e1
      exact hcom'.outz (hlen0 hc hcO)
    · by_cases e2 : c = cC
      · subst e2
        obtain ⟨cs, el, fz, k1, _⟩ := hC.lay _ _ hcC hc
        rw [hch] at k1
        cases k1
      · exact hcom'.old c hold e1 e2
  · rcases hcom'.tr.k0 i a ha hm with hk | ⟨y, op, y1, ⟨_, y2, y3⟩, _⟩
    · exact hk
    · rw [hall y y1 (Nat.le_trans y2 hcom'.j)] at y3
      cases y3
end Go.Proofs.Ytneclhkpgalnlaa.Sm
