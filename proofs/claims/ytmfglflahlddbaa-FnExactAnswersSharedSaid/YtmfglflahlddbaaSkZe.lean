/-
  The start of the law's run: the arguments, of which nothing is changed, in a world of their own.
-/
import Derived.Test.YtmfglflahlddbaaSkZd
import Derived.Deep.Slices
import Derived.ChangeSame
namespace Go.Proofs.Ytmfglflahlddbaa
open Go.ConcN (sumTo)
open Go.ChangeShapes Go.WideShapes Go.ChangeAt Go.RowKit Sm Go.Conc Go.Deep
set_option linter.unusedVariables false

/-! ### rows kept -/
/-- The value holds addresses of rows below B alone. -/
def HkB (w : World) (B : Nat) (x : Value) : Prop := ∀ b, Pt x b → b < B ∧ Kc w b
theorem HkB.hk {w : World} {B : Nat} {x : Value} (h : HkB w B x) : Hk w x := fun b hb => (h b hb).2
theorem HkB.below {w w' : World} {B : Nat} {x : Value} (h : HkB w B x) (hb : Below B w w') : HkB w' B x := fun b hp => by
  obtain ⟨h1, cs, el, fz, e⟩ := h b hp
  exact ⟨h1, cs, el, fz, by rw [hb.block b h1]; exact e⟩
theorem HkB.kpn {w w' : World} {B : Nat} {x : Value} (h : HkB w B x) (k : KpN w w') : HkB w' B x := fun b hp => ⟨(h b hp).1, k.kc (h b hp).2⟩
def RsK (w : World) (B : Nat) (A : Option Addr) (m : Nat) (ds : List Rl) : Prop := ∃ rs, RRd w B A m rs ∧ rs.map Ru.dat = ds ∧ ∀ r ∈ rs, HkB w B r.V
def MsK (w : World) (B : Nat) (A : Option Addr) (m : Nat) (zss : List (List Int)) : Prop := ∃ ws, MRd w B A m ws ∧ ws.map Rw.zs = zss ∧ ∀ r ∈ ws, HkB w B r.V
section
variable {w w' : World} {B m : Nat} {A : Option Addr} {ds : List Rl} {zss : List (List Int)}
theorem RsK.rd (h : RsK w B A m ds) : RsRd w B A m ds := by obtain ⟨rs, h1, h2, _⟩ := h; exact ⟨rs, h1, h2⟩
theorem MsK.rd (h : MsK w B A m zss) : MsRd w B A m zss := by obtain ⟨rs, h1, h2, _⟩ := h; exact ⟨rs, h1, h2⟩
theorem RsK.below (h : RsK w B A m ds) (hb : Below B w w') : RsK w' B A m ds := by obtain ⟨rs, h1, h2, h3⟩ := h; exact ⟨rs, h1.below hb, h2, fun r hr => (h3 r hr).below hb⟩
theorem MsK.below (h : MsK w B A m zss) (hb : Below B w w') : MsK w' B A m zss := by obtain ⟨rs, h1, h2, h3⟩ := h; exact ⟨rs, h1.below hb, h2, fun r hr => (h3 r hr).below hb⟩
theorem RsK.heap (h : RsK w B A m ds) (e : w'.heap = w.heap) : RsK w' B A m ds := by
  obtain ⟨rs, h1, h2, h3⟩ := h
  exact ⟨rs, h1.keep_heap e, h2, fun r hr b hb => ⟨(h3 r hr b hb).1, by unfold Kc; rw [e]; exact (h3 r hr b hb).2⟩⟩
theorem MsK.heap (h : MsK w B A m zss) (e : w'.heap = w.heap) : MsK w' B A m zss := by
  obtain ⟨rs, h1, h2, h3⟩ := h
  exact ⟨rs, h1.keep_heap e, h2, fun r hr b hb => ⟨(h3 r hr b hb).1, by unfold Kc; rw [e]; exact (h3 r hr b hb).2⟩⟩
theorem RsK.kpn (h : RsK w B A m ds) (k : KpN w w') : RsK w' B A m ds := by
  obtain ⟨rs, h1, h2, h3⟩ := h
  exact ⟨rs, h1.kp (Q := Hk w) (fun r hr => (h3 r hr).hk) (fun z => Hk.int) (fun p x _ hx hc => k.cell hc hx), h2, fun r hr => (h3 r hr).kpn k⟩
theorem MsK.kpn (h : MsK w B A m zss) (k : KpN w w') : MsK w' B A m zss := by
  obtain ⟨rs, h1, h2, h3⟩ := h
  exact ⟨rs, h1.kp (Q := Hk w) (fun r hr => (h3 r hr).hk) (fun z => Hk.int) (fun p x _ hx hc => k.cell hc hx), h2, fun r hr => (h3 r hr).kpn k⟩
end
theorem own_kpn {w w' : World} {base n s : Nat} {e : TypeId} {u : Value} {xs : List Value} (h : w.ownsRow base e s u n xs) (k : KpN w w') (hx : ∀ x ∈ xs, Hk w x) : w'.ownsRow base e s u n xs := by
  refine ⟨h.1, ?_⟩
  rcases h.2 with hn | ⟨g, cap, cur, e1, h1, h2, h3, h4, h5, h6⟩
  · exact .inl hn
  · obtain ⟨c', q1, q2, q3⟩ := k.row g cur _ _ h2
    refine .inr ⟨g, cap, c', e1, h1, q1, h3, h4, by rw [q2]; exact h5, ?_⟩
    rw [← h6]
    have hl := h.1
    refine List.ext_getElem? fun i => ?_
    rw [List.getElem?_take, List.getElem?_take]
    split
    · rename_i hi
      cases hc : cur[i]? with
      | none =>
        have : c'[i]? = none := by
          rw [Array.getElem?_eq_none_iff] at hc ⊢
          omega
        rw [Array.getElem?_toList, Array.getElem?_toList, hc, this]
      | some x =>
        have hm : x ∈ xs := by
          rw [← h6]
          refine List.mem_of_getElem? (i := i) ?_
          rw [List.getElem?_take, if_pos hi, Array.getElem?_toList]
          exact hc
        rw [Array.getElem?_toList, Array.getElem?_toList, hc, q3 i x hc (hx x hm)]
    · rfl

/-! ### the start -/
theorem pale_ex (x : Value) : ∃ u, ∀ F R, VR F R u x := by
  match x with
  | .int k z => exact ⟨.int k z, fun _ _ => .int k z⟩
  | .bool b => exact ⟨.bool b, fun _ _ => .bool b⟩
  | .agg c =>
    have ih : ∀ i (h : i < c.size), ∃ u, ∀ F R, VR F R u c[i] := fun i h => pale_ex c[i]
    refine ⟨.agg (Array.ofFn fun i : Fin c.size => Classical.choose (ih i.1 i.2)), fun F R => .agg (by simp) fun i h1 h2 => ?_⟩
    simp only [Array.getElem_ofFn]
    exact Classical.choose_spec (ih i h2) F R
  | .tuple c =>
    have ih : ∀ i (h : i < c.size), ∃ u, ∀ F R, VR F R u c[i] := fun i h => pale_ex c[i]
    refine ⟨.tuple (Array.ofFn fun i : Fin c.size => Classical.choose (ih i.1 i.2)), fun F R => .tuple (by simp) fun i h1 h2 => ?_⟩
    simp only [Array.getElem_ofFn]
    exact Classical.choose_spec (ih i h2) F R
  | .pointer _ | .slice .. | .string _ | .float .. | .complex .. | .map _ | .chan _ | .func .. | .nilFunc | .nilIface | .iface .. => exact ⟨.pointer none, fun _ _ => .bot ⟨by simp, by simp, by simp⟩⟩
termination_by SizeOf.sizeOf x
/-- The blocks of the arguments. -/
def argR (S : Nat → Prop) : BR := fun b c => b = c ∧ S b
theorem pal_ex (F : FuncId → Prop) (S : Nat → Prop) (x : Value) : ∃ u, VR F (argR S) u x ∧ (VR F (argR S) x x → u = x) ∧ (¬ VR F (argR S) x x → ∀ a, x = .slice (some a) 0 0 → u = .slice none 0 0) := by
  refine Classical.byCases (p := VR F (argR S) x x) (fun h => ⟨x, h, fun _ => rfl, fun hn => absurd h hn⟩) fun h => ?_
  refine Classical.byCases (p := ∃ a, x = .slice (some a) 0 0) (fun ⟨a, e⟩ => ?_) fun hn => ?_
  · subst e
    exact ⟨.slice none 0 0, .sliceZero a, fun h' => absurd h' h, fun _ _ _ => rfl⟩
  · obtain ⟨u, hu⟩ := pale_ex x
    exact ⟨u, hu F _, fun h' => absurd h' h, fun _ a e => absurd ⟨a, e⟩ hn⟩
noncomputable def palV (F : FuncId → Prop) (S : Nat → Prop) (x : Value) : Value := Classical.choose (pal_ex F S x)
section
variable {F : FuncId → Prop} {S : Nat → Prop}
theorem pal_rel (x : Value) : VR F (argR S) (palV F S x) x := (Classical.choose_spec (pal_ex F S x)).1
theorem pal_self {x : Value} (h : VR F (argR S) x x) : palV F S x = x := (Classical.choose_spec (pal_ex F S x)).2.1 h
theorem pal_zero {a : Addr} (h : ¬ VR F (argR S) (.slice (some a) 0 0) (.slice (some a) 0 0)) : palV F S (.slice (some a) 0 0) = .slice none 0 0 := (Classical.choose_spec (pal_ex F S _)).2.2 h a rfl
theorem pal_int (k : IntKind) (z : Int) : palV F S (.int k z) = .int k z := pal_self (.int k z)
theorem slice_self {a : Addr} {n c : Nat} (h1 : a.spot = none) (h2 : S a.block) : VR F (argR S) (.slice (some a) n c) (.slice (some a) n c) := .slice ⟨⟨rfl, h2⟩, rfl, h1, h1⟩ n c
theorem pal_slice {A : Option Addr} {n c : Nat} (h : ∀ a, A = some a → (a.spot = none ∧ S a.block) ∨ (n = 0 ∧ c = 0)) : ∃ A', palV F S (.slice A n c) = .slice A' n c ∧ (∀ a, A' = some a → A = some a ∧ S a.block) ∧ (0 < n → A' = A) := by
  cases A with
  | none => exact ⟨none, pal_self (.sliceNone n c), by simp, fun _ => rfl⟩
  | some a =>
    refine Classical.byCases (p := a.spot = none ∧ S a.block) (fun hg => ⟨some a, pal_self (slice_self hg.1 hg.2), fun b e => by cases e; exact ⟨rfl, hg.2⟩, fun _ => rfl⟩) fun hn => ?_
    rcases h a rfl with hg | ⟨rfl, rfl⟩
    · exact absurd hg hn
    · refine ⟨none, pal_zero fun hv => ?_, by simp, by omega⟩
      cases hv with
      | slice ha =>
        obtain ⟨⟨_, h1⟩, _, _, h2⟩ := ha
        exact hn ⟨h2, h1⟩
noncomputable def palO (F : FuncId → Prop) (S : Nat → Prop) : Go.Obj → Go.Obj
  | .cells c el _ => .cells (c.map (palV F S)) el (0, c.size)
  | o => o
noncomputable def palW (F : FuncId → Prop) (S : Nat → Prop) (W : World) : World := { W with heap := W.heap.map (palO F S) }
theorem pal_size (W : World) : (palW F S W).heap.size = W.heap.size := by simp [palW]
theorem pal_get {W : World} {b : Nat} {c : Array Value} {el : TypeId} {fz : Nat × Nat} (h : W.heap[b]? = some (.cells c el fz)) : (palW F S W).heap[b]? = some (.cells (c.map (palV F S)) el (0, c.size)) := by
  simp only [palW, Array.getElem?_map, h]; rfl
theorem pal_cell {W : World} {p : Addr} {x : Value} (h : W.cell? p = some x) : (palW F S W).cell? p = some (palV F S x) := by
  unfold World.cell? at h ⊢
  cases ho : W.heap[p.block]? with
  | none => rw [ho] at h; cases h
  | some o =>
    rw [ho] at h
    cases o <;> first | (cases h; done) | skip
    rename_i c el fz
    rw [pal_get ho]
    simp only at h ⊢
    split at h
    · cases h
    · rename_i hs
      rw [if_neg hs, Array.getElem?_map, h]
      rfl
theorem pal_kc {W : World} {b : Nat} (h : Kc W b) : Kc (palW F S W) b := by
  obtain ⟨cs, el, fz, e⟩ := h
  exact ⟨_, _, _, pal_get e⟩
theorem pal_rd {W : World} {H s n : Nat} {A : Option Addr} {xs : List Value} (h : Rd W H s A n xs) : Rd (palW F S W) H s A n (xs.map (palV F S)) :=
  ⟨by rw [List.length_map]; exact h.1, fun hn => by
    obtain ⟨ad, e, hb, hc⟩ := h.2 hn
    refine ⟨ad, e, hb, fun j u hu => ?_⟩
    rw [List.getElem?_map] at hu
    cases hx : xs[j]? with
    | none => rw [hx] at hu; cases hu
    | some x =>
      rw [hx] at hu
      simp only [Option.map_some, Option.some.injEq] at hu
      subst hu
      exact pal_cell (hc j x hx)⟩
theorem pal_ints (zs : List Int) : (ints zs).map (palV F S) = ints zs := by
  unfold ints
  rw [List.map_map]
  exact List.map_congr_left fun z _ => pal_int .i64 z
/-- What is told of a slice in a cell of an argument. -/
def Gs (W : World) (A : Option Addr) (n c : Nat) : Prop := ∀ a, A = some a → (a.spot = none ∧ Kc W a.block) ∨ (n = 0 ∧ c = 0)
theorem pal_inner {W : World} {H n c : Nat} {A : Option Addr} {zs : List Int} (h : Rd W H 1 A n (ints zs)) (hg : Gs W A n c) : ∃ A', palV F (Kc W) (.slice A n c) = .slice A' n c ∧ Rd (palW F (Kc W) W) H 1 A' n (ints zs) ∧ (H = W.heap.size → HkB (palW F (Kc W) W) H (.slice A' n c)) := by
  obtain ⟨A', e, h1, h2⟩ := pal_slice (F := F) (S := Kc W) (c := c) hg
  refine ⟨A', e, ?_, fun hH b hb => ?_⟩
  · have := pal_rd (F := F) (S := Kc W) h
    rw [pal_ints] at this
    rcases Nat.eq_zero_or_pos n with e0 | e0
    · exact ⟨this.1, fun hn => by omega⟩
    · rw [h2 e0]; exact this
  · cases hb with
    | slice a _ _ =>
      obtain ⟨_, hk⟩ := h1 a rfl
      refine ⟨?_, pal_kc hk⟩
      obtain ⟨cs, el, fz, e⟩ := hk
      have := (Array.getElem?_eq_some_iff.1 e).1
      omega
theorem pal_rules {W : World} {A : Option Addr} {m : Nat} {rs : List Ru} (h : RRd W W.heap.size A m rs) (hg : ∀ r ∈ rs, Gs W r.A r.n r.c) : RsK (palW F (Kc W) W) W.heap.size A m (rs.map Ru.dat) := by
  have key : ∀ r : Ru, ∃ r' : Ru, r ∈ rs → r'.dat = r.dat ∧ r.cells.map (palV F (Kc W)) = r'.cells ∧ Rd (palW F (Kc W) W) W.heap.size 1 r'.A r'.n (ints r'.ifs) ∧ HkB (palW F (Kc W) W) W.heap.size r'.V := by
    intro r
    refine Classical.byCases (p := r ∈ rs) (fun hr => ?_) fun hn => ⟨r, fun h => absurd h hn⟩
    obtain ⟨A', e, h1, h2⟩ := pal_inner (F := F) (h.2 r hr) (hg r hr)
    exact ⟨{ r with A := A' }, fun _ => ⟨rfl, by simp only [Ru.cells, List.map_cons, List.map_nil, pal_int, e], h1, h2 rfl⟩⟩
  obtain ⟨f, hf⟩ := Classical.axiomOfChoice key
  refine ⟨rs.map f, ⟨?_, fun r hr => ?_⟩, ?_, fun r hr => ?_⟩
  · have := pal_rd (F := F) (S := Kc W) h.1
    have e : (flat rs).map (palV F (Kc W)) = flat (rs.map f) := by
      unfold flat
      rw [List.map_flatMap, List.flatMap_map]
      have hc : ∀ l : List Ru, (∀ r ∈ l, r ∈ rs) → (l.flatMap fun r => r.cells.map (palV F (Kc W))) = l.flatMap fun r => (f r).cells := by
        intro l
        induction l with
        | nil => intro _; rfl
        | cons r l ih => intro hl; rw [List.flatMap_cons, List.flatMap_cons, ih fun a ha => hl a (by simp [ha]), (hf r (hl r (by simp))).2.1]
      exact hc rs fun r hr => hr
    rw [e] at this
    exact this
  · obtain ⟨a, ha, rfl⟩ := List.mem_map.1 hr
    exact (hf a ha).2.2.1
  · rw [List.map_map]
    exact List.map_congr_left fun r hr => (hf r hr).1
  · obtain ⟨a, ha, rfl⟩ := List.mem_map.1 hr
    exact (hf a ha).2.2.2
theorem pal_many {W : World} {A : Option Addr} {m : Nat} {ws : List Rw} (h : MRd W W.heap.size A m ws) (hg : ∀ r ∈ ws, Gs W r.A r.n r.c) : MsK (palW F (Kc W) W) W.heap.size A m (ws.map Rw.zs) := by
  have key : ∀ r : Rw, ∃ r' : Rw, r ∈ ws → r'.zs = r.zs ∧ palV F (Kc W) r.V = r'.V ∧ Rd (palW F (Kc W) W) W.heap.size 1 r'.A r'.n (ints r'.zs) ∧ HkB (palW F (Kc W) W) W.heap.size r'.V := by
    intro r
    refine Classical.byCases (p := r ∈ ws) (fun hr => ?_) fun hn => ⟨r, fun h => absurd h hn⟩
    obtain ⟨A', e, h1, h2⟩ := pal_inner (F := F) (h.2 r hr) (hg r hr)
    exact ⟨{ r with A := A' }, fun _ => ⟨rfl, e, h1, h2 rfl⟩⟩
  obtain ⟨f, hf⟩ := Classical.axiomOfChoice key
  refine ⟨ws.map f, ⟨?_, fun r hr => ?_⟩, ?_, fun r hr => ?_⟩
  · have := pal_rd (F := F) (S := Kc W) h.1
    have e : (rws ws).map (palV F (Kc W)) = rws (ws.map f) := by
      unfold rws
      rw [List.map_map, List.map_map]
      exact List.map_congr_left fun r hr => (hf r hr).2.1
    rw [e] at this
    exact this
  · obtain ⟨a, ha, rfl⟩ := List.mem_map.1 hr
    exact (hf a ha).2.2.1
  · rw [List.map_map]
    exact List.map_congr_left fun r hr => (hf r hr).1
  · obtain ⟨a, ha, rfl⟩ := List.mem_map.1 hr
    exact (hf a ha).2.2.2
end
/-- ████ BESIDE NOBODY, AT A CALL's ENTRY ████ -/
theorem calm_start {W : World} {f : FuncId} {args : Array Value} (hf : Fs12 f = true) (hargs : AVR (FFs Fs12) (argR (Kc W)) args args) :
    Sm.Calm Try.prog Fs12 W.heap.size W (fun _ => False) #[G (Frame.enter Try.prog f args .normal) []] W #[] (fun _ => 0) { R := argR (Kc W), v := palW (FFs Fs12) (Kc W) W, fr := Frame.enter Try.prog f args .normal, fr' := Frame.enter Try.prog f args .normal, up := [], up' := [] } := by
  refine ⟨rfl, ⟨FR.enter okP hf hargs, trivial⟩, ⟨?_, ?_, ?_⟩, ?_, fun b hb => hb.elim, Nat.le_refl _, fun _ _ => rfl, rfl, rfl, rfl, ?_, ?_, ?_, ?_⟩
  · rintro b c ⟨rfl, hb⟩
    obtain ⟨c, el, fz, ho⟩ := hb
    refine ⟨_, _, pal_get ho, ho, .cells (fun j u hj => ?_) fun j hj hn => absurd ⟨Nat.zero_le _, by simpa using hj⟩ hn⟩
    rw [Array.getElem?_map] at hj
    cases hc : c[j]? with
    | none => rw [hc] at hj; cases hj
    | some x =>
      rw [hc] at hj
      simp only [Option.map_some, Option.some.injEq] at hj
      subst hj
      exact ⟨x, rfl, pal_rel x⟩
  · rintro b c c' ⟨rfl, _⟩ ⟨rfl, _⟩; rfl
  · rintro b b' c ⟨rfl, _⟩ ⟨rfl, _⟩; rfl
  · rintro b c ⟨rfl, hb⟩ _
    obtain ⟨c, el, fz, ho⟩ := hb
    exact ⟨_, el, _, pal_get ho, fun j hj => ⟨Nat.zero_le _, by simpa using hj⟩⟩
  · intro i g hi hg
    rcases i with _ | i
    · omega
    · simp at hg
  · rintro said ⟨i, j, _, ⟨a, b, ha, _⟩, _⟩
    simp [Trace.act?] at ha
  · intro op hop; simp at hop
  · intro i a h _
    simp [touchAt, Trace.act?] at h
end Go.Proofs.Ytmfglflahlddbaa
namespace Go.Proofs.Ytmfglflahlddbaa
open Go.ChangeShapes Go.WideShapes Go.ChangeAt Go.RowKit Go.Deep Sm
set_option linter.unusedVariables false
section
variable {H : Type} {enc : TypeId × Value → H} {P : Program} {W : World}
theorem trod_numsG {base : Nat} {n : Nat} {t e : TypeId} {v : Value} {y : DataW H × List MemPlace} (ht : P.underlying t = some (.slice e)) (he : P.underlying e = some (.int .i64)) (hc : P.cellsOf e = 1)
    (h : DataW.trod enc P W base (fun _ => true) true n t [v] = some y) : ∃ A m c zs, v = .slice A m c ∧ Rd W W.heap.size 1 A m (ints zs) ∧ I64s zs ∧ m ≤ 9223372036854775807 ∧ Gs W A m c := by
  rcases open_ints ht he hc h with ⟨hcs, _⟩ | ⟨a, len, cap, zs, hcs, _, hl, hcap, hz, _, hcell, hwz⟩
  · injection hcs with hv
    exact ⟨none, 0, 0, [], hv, Rd.nil_, (fun z hz => by cases hz), by omega, fun a h => by cases h⟩
  · injection hcs with hv
    simp only [if_true] at hz
    refine ⟨some a, len, cap, zs.take len, hv, ⟨by simp [ints]; omega, fun hn => ⟨a, rfl, ?_, fun j u hu => ?_⟩⟩, fun z h => i64_bounds (hwz z (List.mem_of_mem_take h)), by unfold maxLen at hcap; omega, fun a' h => ?_⟩
    · have h0 := block_lt_of_cell (hcell 0 (by omega))
      rwa [add_block] at h0
    · rw [ints_at, List.getElem?_take] at hu
      split at hu
      · rename_i hj
        rw [hcell j (by omega), ← hu]
        simp [List.getD, List.getElem?_eq_getElem (show j < zs.length by omega)]
      · cases hu
    · cases h
      rcases Nat.eq_zero_or_pos cap with e0 | e0
      · right; omega
      · left
        have h0 := hcell 0 (by omega)
        rw [show a.add 0 = a from rfl] at h0
        refine ⟨?_, Kc.of_cell h0⟩
        unfold World.cell? at h0
        cases hs : a.spot with
        | none => rfl
        | some x =>
          rw [hs] at h0
          cases ho : W.heap[a.block]? with
          | none => rw [ho] at h0; cases h0
          | some o => rw [ho] at h0; cases o <;> cases h0
theorem field_numsG {base : Nat} {n j : Nat} {t e : TypeId} {cs : List Value} {y : DataW H × List MemPlace} (ht : P.underlying t = some (.slice e)) (he : P.underlying e = some (.int .i64)) (hc : P.cellsOf e = 1) (hj : j < cs.length)
    (h : DataW.trod enc P W base (fun _ => true) true n t ((cs.drop j).take 1) = some y) : ∃ A m c zs, cs[j]? = some (.slice A m c) ∧ Rd W W.heap.size 1 A m (ints zs) ∧ I64s zs ∧ m ≤ 9223372036854775807 ∧ Gs W A m c := by
  obtain ⟨A, m, c, zs, hv, h1, h2, h3, h4⟩ := trod_numsG ht he hc (field_one hj h)
  exact ⟨A, m, c, zs, by rw [List.getElem?_eq_getElem hj, hv], h1, h2, h3, h4⟩
/-- the five cells of a rule -/
theorem rule_cellsG {base : Nat} {fuel : Nat} {e ei : TypeId} {f0 f1 f2 f3 f4 : Field} {cs : List Value} {y : DataW H × List MemPlace} (he : P.underlying e = some (.struct #[f0, f1, f2, f3, f4])) (hlen : cs.length = 5)
    (o0 : f0.offset = 0) (o1 : f1.offset = 1) (o2 : f2.offset = 2) (o3 : f3.offset = 3) (o4 : f4.offset = 4) (k0 : P.cellsOf f0.type = 1) (k1 : P.cellsOf f1.type = 1) (k2 : P.cellsOf f2.type = 1) (k3 : P.cellsOf f3.type = 1) (k4 : P.cellsOf f4.type = 1)
    (t0 : P.underlying f0.type = some (.int .i64)) (t1 : P.underlying f1.type = some (.slice ei)) (t2 : P.underlying f2.type = some (.int .i64)) (t3 : P.underlying f3.type = some (.int .i64)) (t4 : P.underlying f4.type = some (.int .i64)) (ti : P.underlying ei = some (.int .i64)) (ki : P.cellsOf ei = 1)
    (h : DataW.trod enc P W base (fun _ => true) true fuel e cs = some y) : ∃ r : Ru, RuB r ∧ Rd W W.heap.size 1 r.A r.n (ints r.ifs) ∧ Gs W r.A r.n r.c ∧ ∀ j, j < 5 → cs[j]? = r.cells[j]? := by
  obtain ⟨xs, n', _, _, _, hxl, hfs⟩ := DataW.trod_struct he h
  have hx : ∀ j, j < 5 → ∃ y, xs[j]? = some y := fun j hj => ⟨_, List.getElem?_eq_getElem (by rw [hxl]; exact hj)⟩
  obtain ⟨y0, hy0⟩ := hx 0 (by omega)
  obtain ⟨y1, hy1⟩ := hx 1 (by omega)
  obtain ⟨y2, hy2⟩ := hx 2 (by omega)
  obtain ⟨y3, hy3⟩ := hx 3 (by omega)
  obtain ⟨y4, hy4⟩ := hx 4 (by omega)
  have g0 := hfs 0 f0 rfl
  have g1 := hfs 1 f1 rfl
  have g2 := hfs 2 f2 rfl
  have g3 := hfs 3 f3 rfl
  have g4 := hfs 4 f4 rfl
  rw [o0, k0, hy0] at g0
  rw [o1, k1, hy1] at g1
  rw [o2, k2, hy2] at g2
  rw [o3, k3, hy3] at g3
  rw [o4, k4, hy4] at g4
  obtain ⟨z0, e0, w0⟩ := field_num t0 (by omega) g0
  obtain ⟨A, m, c, zs, e1, w1, b1, c1, gs1⟩ := field_numsG t1 ti ki (by omega) g1
  obtain ⟨z2, e2, w2⟩ := field_num t2 (by omega) g2
  obtain ⟨z3, e3, w3⟩ := field_num t3 (by omega) g3
  obtain ⟨z4, e4, w4⟩ := field_num t4 (by omega) g4
  refine ⟨⟨z0, z2, z3, z4, A, m, c, zs⟩, ⟨w0, w2, w3, w4, b1, c1⟩, w1, gs1, fun j hj => ?_⟩
  have : j = 0 ∨ j = 1 ∨ j = 2 ∨ j = 3 ∨ j = 4 := by omega
  rcases this with rfl | rfl | rfl | rfl | rfl
  · exact e0
  · exact e1
  · exact e2
  · exact e3
  · exact e4
theorem open_rd_rulesG {t e ei : TypeId} {f0 f1 f2 f3 f4 : Field} {v : Value} {d : DataW H} {p : List MemPlace} {base : Nat} (ht : P.underlying t = some (.slice e)) (he : P.underlying e = some (.struct #[f0, f1, f2, f3, f4])) (hc : P.cellsOf e = 5)
    (o0 : f0.offset = 0) (o1 : f1.offset = 1) (o2 : f2.offset = 2) (o3 : f3.offset = 3) (o4 : f4.offset = 4) (k0 : P.cellsOf f0.type = 1) (k1 : P.cellsOf f1.type = 1) (k2 : P.cellsOf f2.type = 1) (k3 : P.cellsOf f3.type = 1) (k4 : P.cellsOf f4.type = 1)
    (t0 : P.underlying f0.type = some (.int .i64)) (t1 : P.underlying f1.type = some (.slice ei)) (t2 : P.underlying f2.type = some (.int .i64)) (t3 : P.underlying f3.type = some (.int .i64)) (t4 : P.underlying f4.type = some (.int .i64)) (ti : P.underlying ei = some (.int .i64)) (ki : P.cellsOf ei = 1)
    (hv : Value.okWide P W .any base t v) (h : DataW.Trod enc P W 0 (fun _ => true) true t v d p) :
    ∃ A m c rs, v = .slice A m c ∧ RRd W W.heap.size A m rs ∧ (∀ r ∈ rs, RuB r) ∧ m ≤ 9223372036854775807 ∧ ∀ r ∈ rs, Gs W r.A r.n r.c := by
  obtain ⟨A, n, c, rfl⟩ := okWide_slice ht hv
  obtain ⟨fuel, hf⟩ := h
  refine ⟨A, n, c, ?_⟩
  rcases open_slice ht hf with ⟨hcs, _⟩ | ⟨a, len, cap, m, _, D, Pl, hcs, _, hl, hcap, hm, _, hi⟩
  · simp [Value.cells] at hcs
    obtain ⟨rfl, rfl, rfl⟩ := hcs
    exact ⟨[], rfl, RRd.nil_, (fun z hz => by cases hz), by omega, fun r hr => by cases hr⟩
  · simp [Value.cells] at hcs
    obtain ⟨rfl, rfl, rfl⟩ := hcs
    simp only [if_true] at hm
    subst hm
    have key : ∀ i, ∃ r : Ru, i < n → (∀ j, j < 5 → W.cell? (a.add (i * 5 + j)) = r.cells[j]?) ∧ Rd W W.heap.size 1 r.A r.n (ints r.ifs) ∧ RuB r ∧ Gs W r.A r.n r.c := by
      intro i
      by_cases hlt : i < n
      · obtain ⟨cs', hcells, htr⟩ := hi i (by omega)
        rw [hc] at hcells
        obtain ⟨_, hlen, hat⟩ := World.cells?_some hcells
        obtain ⟨r, h1, h2, h4, h3⟩ := rule_cellsG he hlen o0 o1 o2 o3 o4 k0 k1 k2 k3 k4 t0 t1 t2 t3 t4 ti ki htr
        refine ⟨r, fun _ => ⟨fun j hj => ?_, h2, h1, h4⟩⟩
        have hadd := hat j hj
        rw [add_twice] at hadd
        exact hadd.trans (h3 j hj)
      · exact ⟨⟨0, 0, 0, 0, none, 0, 0, []⟩, fun h => absurd h hlt⟩
    obtain ⟨g, hg⟩ := Classical.axiomOfChoice key
    have hmem : ∀ r ∈ (List.range n).map g, ∃ i, i < n ∧ r = g i := fun r hr => by
      simp only [List.mem_map, List.mem_range] at hr
      obtain ⟨i, hi, rfl⟩ := hr
      exact ⟨i, hi, rfl⟩
    have hat : ∀ i, i < n → ((List.range n).map g)[i]? = some (g i) := fun i hi => by simp [hi]
    refine ⟨(List.range n).map g, rfl, ⟨⟨by rw [flat_length]; simp, fun hn => ⟨a, rfl, ?_, fun j u hu => ?_⟩⟩, fun r hr => ?_⟩, fun r hr => ?_, by unfold maxLen at hcap; omega, fun r hr => ?_⟩
    · have h0 := block_lt_of_cell (((hg 0 hn).1 0 (by omega)).trans (show (g 0).cells[0]? = some (.int .i64 (g 0).hd) from rfl))
      rwa [add_block] at h0
    · have hj : j < n * 5 := by
        have := (List.getElem?_eq_some_iff.1 hu).1
        rw [flat_length] at this; simpa using this
      have h1 := (hg (j / 5) (by omega)).1 (j % 5) (by omega)
      have h2 := flat_at (hat (j / 5) (by omega)) (j % 5) (by omega)
      have e : j / 5 * 5 + j % 5 = j := by omega
      rw [e] at h1 h2
      rw [h1, ← h2, hu]
    · obtain ⟨i, hi, rfl⟩ := hmem r hr
      exact (hg i hi).2.1
    · obtain ⟨i, hi, rfl⟩ := hmem r hr
      exact (hg i hi).2.2.1
    · obtain ⟨i, hi, rfl⟩ := hmem r hr
      exact (hg i hi).2.2.2
theorem open_rd_manyG {t e ei : TypeId} {v : Value} {d : DataW H} {p : List MemPlace} {base : Nat} (ht : P.underlying t = some (.slice e)) (he : P.underlying e = some (.slice ei)) (hc : P.cellsOf e = 1) (ti : P.underlying ei = some (.int .i64)) (ki : P.cellsOf ei = 1)
    (hv : Value.okWide P W .any base t v) (h : DataW.Trod enc P W 0 (fun _ => true) true t v d p) :
    ∃ A m c ws, v = .slice A m c ∧ MRd W W.heap.size A m ws ∧ (∀ r ∈ ws, I64s r.zs ∧ r.n ≤ 9223372036854775807 ∧ Gs W r.A r.n r.c) ∧ m ≤ 9223372036854775807 := by
  obtain ⟨A, n, c, rfl⟩ := okWide_slice ht hv
  obtain ⟨fuel, hf⟩ := h
  refine ⟨A, n, c, ?_⟩
  rcases open_slice1 ht hc hf with ⟨hcs, _⟩ | ⟨a, len, cap, m, _, V, D, Pl, hcs, _, hl, hcap, hm, _, hi⟩
  · simp [Value.cells] at hcs
    obtain ⟨rfl, rfl, rfl⟩ := hcs
    exact ⟨[], rfl, MRd.nil_, (fun r hr => by cases hr), by omega⟩
  · simp [Value.cells] at hcs
    obtain ⟨rfl, rfl, rfl⟩ := hcs
    simp only [if_true] at hm
    subst hm
    have key : ∀ i, ∃ r : Rw, i < n → W.cell? (a.add i) = some r.V ∧ Rd W W.heap.size 1 r.A r.n (ints r.zs) ∧ (I64s r.zs ∧ r.n ≤ 9223372036854775807 ∧ Gs W r.A r.n r.c) := by
      intro i
      by_cases hlt : i < n
      · obtain ⟨hcell, htr⟩ := hi i (by omega)
        obtain ⟨A, q, c', zs, hv, h1, h2, h3, h4⟩ := trod_numsG he ti ki htr
        exact ⟨⟨A, q, c', zs⟩, fun _ => ⟨by rw [hcell, hv]; rfl, h1, h2, h3, h4⟩⟩
      · exact ⟨⟨none, 0, 0, []⟩, fun h => absurd h hlt⟩
    obtain ⟨g, hg⟩ := Classical.axiomOfChoice key
    have hmem : ∀ r ∈ (List.range n).map g, ∃ i, i < n ∧ r = g i := fun r hr => by
      simp only [List.mem_map, List.mem_range] at hr
      obtain ⟨i, hi, rfl⟩ := hr
      exact ⟨i, hi, rfl⟩
    refine ⟨(List.range n).map g, rfl, ⟨⟨by rw [rws_length]; simp, fun hn => ⟨a, rfl, ?_, fun j u hu => ?_⟩⟩, fun r hr => ?_⟩, fun r hr => ?_, by unfold maxLen at hcap; omega⟩
    · have h0 := block_lt_of_cell (hg 0 hn).1
      rwa [add_block] at h0
    · have hj : j < n := by
        have := (List.getElem?_eq_some_iff.1 hu).1
        rw [rws_length] at this; simpa using this
      rw [(hg j hj).1, ← hu]
      simp [rws, hj]
    · obtain ⟨i, hi, rfl⟩ := hmem r hr
      exact (hg i hi).2.1
    · obtain ⟨i, hi, rfl⟩ := hmem r hr
      exact (hg i hi).2.2
end
/-! ### rows of rows as objects of a walk -/
def ObjW (w : World) (lo hi : Nat) (v : Value) (m : Nat) (zss : List (List Int)) : Prop := ∃ ws, OwnM w lo v m ws ∧ InM hi v ws ∧ ws.map Rw.zs = zss
section
variable {w w' : World} {lo hi m : Nat} {v : Value} {zss : List (List Int)}
theorem ObjW.on (h : ObjW w lo hi v m zss) (hb : Below w.heap.size w w') : ObjW w' lo hi v m zss := by obtain ⟨rs, a, b, e⟩ := h; exact ⟨rs, a.on hb, b, e⟩
theorem ObjW.only (h : ObjW w lo hi v m zss) {a b : Nat} (ho : Only a b w w') (hd : hi ≤ a ∨ b ≤ lo) : ObjW w' lo hi v m zss := by obtain ⟨rs, x, y, e⟩ := h; exact ⟨rs, x.only y ho hd, y, e⟩
theorem ObjW.rd {A : Option Addr} {c : Nat} (h : ObjW w lo hi (.slice A m c) m zss) : MsRd w w.heap.size A m zss := by obtain ⟨rs, a, b, e⟩ := h; exact ⟨rs, a.mrd, e⟩
end
theorem nM {w : World} {B m : Nat} {A : Option Addr} {ws : List Rw} (hr : MRd w B A m ws) (hz : szM (ws.map Rw.zs) ≤ 1048576) : ∀ r ∈ ws, r.n ≤ 1048576 := fun r h => by
  rw [hr.nlen r h]; exact szM_mem hz (List.mem_map_of_mem h)
theorem toMs_any (A : Option Addr) (m c : Nat) (zss : List (List Int)) (w : World) (hr : MsRd w w.heap.size A m zss) (hz : szM zss ≤ 1048576) :
    Calls Try.prog 8 #[.slice A m c] w fun e w' => ∃ A' c', e = .returned (.slice A' m c') ∧ ObjW w' w.heap.size w'.heap.size (.slice A' m c') m zss ∧ Below w.heap.size w w' := by
  have hl := szM_len hz hr.len
  obtain ⟨ws, hr, rfl⟩ := hr
  refine (toInt64SS_any A m c ws w hr hl (nM hr hz)).mono ?_
  rintro e w' ⟨g, ws', rfl, hd, ho, hb⟩
  exact ⟨_, _, rfl, ⟨ws', ho, ho.inM, hd⟩, hb⟩
theorem eqMs_yes (A B : Option Addr) (m c d : Nat) (zss : List (List Int)) (w : World) (hr : MsRd w w.heap.size A m zss) (hs : MsRd w w.heap.size B m zss) (hz : szM zss ≤ 1048576) :
    Calls Try.prog 12 #[.slice A m c, .slice B m d] w fun e w' => e = .returned (.bool true) ∧ Below w.heap.size w w' := by
  have hl := szM_len hz hr.len
  obtain ⟨ws, hr, rfl⟩ := hr
  obtain ⟨us, hs, e⟩ := hs
  exact eqInt64SS_yes A B m c d ws us w hr hs e.symm (by omega) (fun r h => by have := nM hr hz r h; omega)
theorem markMs_any (v : Value) (lo hi m : Nat) (k : Int) (zss : List (List Int)) (w : World) (ho : ObjW w lo hi v m zss) (hz : szM zss ≤ 1048576) (hk0 : 0 ≤ k) (hk1 : k ≤ 1073741824) :
    Calls Try.prog 14 #[v, .int .i64 k] w fun e w' => ∃ q : Int, e = .returned (.int .i64 q) ∧ 0 ≤ q ∧ Only lo hi w w' := by
  obtain ⟨ws, ho, hi', rfl⟩ := ho
  refine (markInt64SS_any v lo hi m k ws w ho hi' (by omega) hk0 hk1).mono ?_
  rintro e w' ⟨rfl, h⟩
  exact ⟨_, rfl, by omega, h⟩
theorem szMs_yes (A : Option Addr) (m c : Nat) (zss : List (List Int)) (k : Int) (w : World) (hr : MsRd w w.heap.size A m zss) (hk : 0 ≤ k ∧ k ≤ 1048576) (hm : m ≤ 9223372036854775807) (hn : ∀ zs ∈ zss, zs.length ≤ 9223372036854775807) (h : (szM zss : Int) ≤ k) :
    Calls Try.prog 5 #[.slice A m c, .int .i64 k] w fun e w' => ∃ l : Int, e = .returned (.int .i64 l) ∧ 0 ≤ l ∧ w = w' := by
  obtain ⟨ws, hr, rfl⟩ := hr
  refine (szInt64SS_any A m c ws k w hr hk hm (fun r h => by rw [hr.nlen r h]; exact hn _ (List.mem_map_of_mem h))).mono ?_
  rintro e w' ⟨rfl, rfl⟩
  exact ⟨_, rfl, by rw [leftM_yes h]; omega, rfl⟩
theorem szMs_no (A : Option Addr) (m c : Nat) (zss : List (List Int)) (k : Int) (w : World) (hr : MsRd w w.heap.size A m zss) (hk : 0 ≤ k ∧ k ≤ 1048576) (hm : m ≤ 9223372036854775807) (hn : ∀ zs ∈ zss, zs.length ≤ 9223372036854775807) (h : k < szM zss) :
    Calls Try.prog 5 #[.slice A m c, .int .i64 k] w fun e w' => e = .returned (.int .i64 (-1)) ∧ w = w' := by
  obtain ⟨ws, hr, rfl⟩ := hr
  refine (szInt64SS_any A m c ws k w hr hk hm (fun r h => by rw [hr.nlen r h]; exact hn _ (List.mem_map_of_mem h))).mono ?_
  rintro e w' ⟨rfl, rfl⟩
  exact ⟨by rw [leftM_no h], rfl⟩
end Go.Proofs.Ytmfglflahlddbaa
