/-
  A MAP FROM WORDS TO TRUE that the call makes: which words it holds.
-/
import Derived.Test.YtmfglflahlddbaaCourt
import Derived.Maps.OwnSet
namespace Go.Proofs.Ytmfglflahlddbaa
open Go.ChangeShapes Go.WideShapes Go.ChangeAt Go.RowKit Go.Maps
set_option linter.unusedVariables false
set_option linter.unusedSimpArgs false

abbrev tM : TypeId := 53
abbrev tB : TypeId := 4
theorem mlaw : Keyed Try.prog tI := int_keyed Try.underlying2
theorem zeroB (w : World) : (zeroValue tB).run Try.prog w = .ok (.bool false) w := by kernel_rfl
theorem mkey (x : Int) (h : I64b x) : keyOf Try.prog tI (.int .i64 x) = some (.int .i64 x) := keyOf_int_mk Try.underlying2 (WalkArith.wf_i64 (by unfold I64b at h; omega))
theorem own_tight {w : World} {b n : Nat} {D : DataW Unit} {R : Value → Option (DataW Unit × List MemPlace)} (h : w.ownsMap Try.prog tI R b n D) : w.ownsMap Try.prog tI R b (Maps.size D) D := by
  obtain ⟨es, clock, hb, F, hs, rfl⟩ := h
  exact ⟨es, clock, hb, F, by simp [Maps.size, length_sorted], rfl⟩
theorem plain_bool_inv {P : Program} {e : TypeId} {v : Value} {d : DataW Unit} {ps : List MemPlace} {x : Bool} (he : P.underlying e = some .bool) (h : plainElem P e v = some (d, ps)) (hd : d = .lit (.bool x)) : v = .bool x := by
  subst hd
  unfold plainElem at h
  rw [he] at h
  cases v <;> simp at h
  rw [h.1]
/-- block b of w is a map that holds 'true' at just the words of y -/
def MapB (w : World) (b : Nat) (y : Int → Bool) : Prop :=
  ∃ D : DataW Unit, w.ownsMap Try.prog tI (plainElem Try.prog tB) b (Maps.size D) D ∧ (∀ x, I64b x → D.atKey (.int .i64 x) (.lit (.bool false)) = .lit (.bool (y x))) ∧ (∀ x, I64b x → Maps.has D (.int .i64 x) = y x) ∧ Maps.size D = cntB y
theorem MapB.lt {w : World} {b : Nat} {y : Int → Bool} (h : MapB w b y) : b < w.heap.size := by obtain ⟨D, h1, _⟩ := h; exact h1.lt
theorem MapB.kept {w w' : World} {row : Option Nat} {b : Nat} {y : Int → Bool} (h : MapB w b y) (hg : w.grownBy w' row) (hne : some b ≠ row) : MapB w' b y := by
  obtain ⟨D, h1, h2⟩ := h; exact ⟨D, h1.kept hg hne, h2⟩
theorem MapB.below {w w' : World} {b B : Nat} {y : Int → Bool} (h : MapB w b y) (hb : Below B w w') (hB : b < B) : MapB w' b y := by
  obtain ⟨D, h1, h2⟩ := h
  obtain ⟨es, clock, hbl, F, hs, hD⟩ := h1
  exact ⟨D, ⟨es, clock, (hb.block b hB).trans hbl, F, hs, hD⟩, h2⟩
theorem MapB.alloc {w : World} {b : Nat} {y : Int → Bool} (h : MapB w b y) (o : Go.Obj) : MapB (w.alloc o) b y := h.kept (World.grownBy_alloc w o none) (by simp)
theorem cnt_none : cntB (fun _ => false) = 0 := by unfold cntB; rw [List.filter_eq_nil_iff.2 (fun a _ h => by cases h)]; rfl
theorem mapB_made (w : World) : MapB (w.alloc (.map #[] 0)) w.heap.size fun _ => false :=
  ⟨.map [], World.ownsMap_made w _ _ _, fun x _ => rfl, fun x _ => rfl, by rw [cnt_none]; rfl⟩
theorem MapB.look {w : World} {b : Nat} {y : Int → Bool} (h : MapB w b y) {x : Int} (hx : I64b x) : (Instr.lookup tM (.map (some b)) (.int .i64 x) false).run Try.prog w = .ok (.bool (y x)) w := by
  obtain ⟨D, h1, h2, _⟩ := h
  obtain ⟨v, ps, hrun, hv⟩ := h1.lookup mlaw Try.underlying53 (zeroB w) (plainElem_bool Try.underlying4 false) (mkey x hx)
  rw [hrun, plain_bool_inv Try.underlying4 hv (h2 x hx)]
theorem MapB.len {w : World} {b : Nat} {y : Int → Bool} (h : MapB w b y) (ty : TypeId) : (Builtin.len_ #[tM] ty #[.map (some b)]).run Try.prog w = .ok (.int .i64 (cntB y)) w := by
  obtain ⟨D, h1, _, _, h4⟩ := h
  rw [h1.len Try.underlying53, h4]
theorem put_self {y : Int → Bool} {x : Int} (h : y x = true) : putB y x = y := by
  funext z
  unfold putB
  by_cases e : z = x
  · subst e; simp [h]
  · simp [e]
theorem MapB.put {w : World} {b : Nat} {y : Int → Bool} (h : MapB w b y) {x : Int} (hx : wordB x = true) : ∃ w', (Instr.mapUpdate tM (.map (some b)) (.int .i64 x) (.bool true)).run Try.prog w = .ok () w' ∧ MapB w' b (putB y x) ∧ w.grownBy w' (some b) := by
  obtain ⟨D, h1, h2, h3, h4⟩ := h
  have hw := wordB_iff.1 hx
  have hx6 : I64b x := by unfold I64b; omega
  have hlen := cnt_le y
  have htd := h1.tidy mlaw
  obtain ⟨w', hrun, hown, hg⟩ := h1.update mlaw Try.underlying53 (by unfold maxLen; omega) (mkey x hx6) (plainElem_bool Try.underlying4 true)
  have hkl : WideAt.IsKeyLit (Lit.int .i64 x) := by
    first
      | exact trivial
      | exact (keyOf_lit (mkey x hx6))
      | (unfold WideAt.IsKeyLit; trivial)
  refine ⟨w', hrun, ⟨_, own_tight hown, fun z hz => ?_, fun z hz => ?_, ?_⟩, hg⟩
  · by_cases e : z = x
    · subst e; rw [atKey_put_same htd.isMap hkl]; simp [putB]
    · rw [atKey_put_other (fun h => e (by injection h)), h2 z hz]; simp [putB, e]
  · by_cases e : z = x
    · subst e; rw [has_put_same htd.isMap hkl]; simp [putB]
    · rw [has_put_other (fun h => e (by injection h)), h3 z hz]; simp [putB, e]
  · rw [size_put htd, h3 x hx6]
    cases hy : y x
    · rw [if_neg (by decide), h4, cnt_put_eq hx hy]
    · rw [if_pos rfl, h4, put_self hy]
end Go.Proofs.Ytmfglflahlddbaa
