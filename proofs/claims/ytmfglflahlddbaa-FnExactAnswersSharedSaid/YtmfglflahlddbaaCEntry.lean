/-
  'm[k], x = v, w': an entry of a map of words is taken, and stored into: the same as 'm[k] = v'.
-/
import Derived.Test.YtmfglflahlddbaaCMap
import Derived.WideKeyEntry
namespace Go.Proofs.Ytmfglflahlddbaa
open Go.ChangeShapes Go.WideShapes Go.ChangeAt Go.RowKit Go.Maps Go.MapKept Go.ChangeMaps Go.WideElems
set_option linter.unusedVariables false
set_option linter.unusedSimpArgs false

theorem entry_store {H : Type} {P : Program} {w : World} {t k e : TypeId} {R : Value → Option (DataW H × List MemPlace)} {b : Nat} {es : Array MapEntry} {clock : Nat} (K : Keyed P k) (ht : P.underlying t = some (.map k e)) {z : Value} (hz : ∀ u : World, (zeroValue e).run P u = .ok z u) (hb : w.heap[b]? = some (.map es clock)) (F : Go.WideElems.Fit P k R es clock)
    {key : Value} {kl : Lit} (hkey : keyOf P k key = some kl) (val : Value) :
    ∃ (v0 : Value) (st : Nat) (es1 : Array MapEntry) (clock1 : Nat) (es' : Array MapEntry) (clock' : Nat), (Instr.mapEntry t (.map (some b)) key).run P w = .ok (.tuple #[v0, goInt st]) (setBlock w b (.map es1 clock1)) ∧
      (∀ w2 : World, w2.heap[b]? = some (.map es1 clock1) → (Instr.entryStore t (.map (some b)) (goInt st) val).run P w2 = .ok () (setBlock w2 b (.map es' clock'))) ∧
      (Instr.mapUpdate t (.map (some b)) key val).run P w = .ok () (setBlock w b (.map es' clock')) := by
  obtain ⟨s1, s2, _⟩ := F.stamped
  rcases K.find w hkey es.toList F.keys with ⟨h1, h2⟩ | ⟨j, e0, h1, h2, h3⟩
  · refine ⟨z, clock, es.push ⟨key, z, clock⟩, clock + 1, es.push ⟨key, val, clock⟩, clock + 1, ?_, fun w2 hw2 => ?_, ?_⟩
    · simp [Instr.mapEntry, run_underlying ht, MapKept.run_getObj_map hb, K.check w false hkey, h1, hz, MapKept.run_setObj_map _ hb, Result.andThen, setBlock]
    · have hidx : (es.push ⟨key, z, clock⟩).findIdx? (fun e => ((e.born : Nat) : Int) == ((clock : Nat) : Int)) = some es.size := by
        rw [findIdx_arr]
        have := findIdx_born (l := (es.push ⟨key, z, clock⟩).toList) (j := es.size) (e0 := ⟨key, z, clock⟩) (by
          simp only [Array.toList_push, List.map_append, List.map_cons, List.map_nil]
          refine List.nodup_append.2 ⟨s2, by simp, fun a ha c hc e1 => ?_⟩
          simp only [List.mem_singleton] at hc
          obtain ⟨x, hx, rfl⟩ := List.mem_map.1 ha
          have := s1 x hx
          omega) (by simp)
        exact this
      have hmod : (es.push ⟨key, z, clock⟩).modify es.size (fun e => { e with val := val }) = es.push ⟨key, val, clock⟩ := by
        apply Array.ext'
        rw [Array.toList_modify, Array.toList_push, Array.toList_push, ← Array.length_toList, modify_last]
      simp [Instr.entryStore, MapKept.run_getObj_map hw2, asInt, asIntOf, goInt, hidx, hmod, MapKept.run_setObj_map _ hw2, Result.andThen, setBlock]
    · simp [Instr.mapUpdate, run_underlying ht, MapKept.run_getObj_map hb, K.check w false hkey, h1, MapKept.run_setObj_map _ hb, Result.andThen, setBlock]
  · have hj : es[j]? = some e0 := by simpa using h2
    have hsame : es.modify j (fun e => { e with key := key }) = es := by
      apply Array.ext'
      rw [Array.toList_modify, modify_eq_set _ _ _ _ h2, ← h3]
      exact set_self _ _ _ h2
    refine ⟨e0.val, e0.born, es, clock, es.modify j (fun e' => { e' with key := key, val := val }), clock, ?_, fun w2 hw2 => ?_, ?_⟩
    · simp [Instr.mapEntry, run_underlying ht, MapKept.run_getObj_map hb, K.check w false hkey, h1, hj, h3, K.stays w hkey, hsame, MapKept.run_setObj_map _ hb, Result.andThen, setBlock]
    · have hidx : es.findIdx? (fun e => ((e.born : Nat) : Int) == ((e0.born : Nat) : Int)) = some j := by
        rw [findIdx_arr]
        exact findIdx_born s2 h2
      have hmod : es.modify j (fun e => { e with val := val }) = es.modify j (fun e' => { e' with key := key, val := val }) := by
        apply Array.ext'
        rw [Array.toList_modify, Array.toList_modify, modify_eq_set _ _ _ _ h2, modify_eq_set _ _ _ _ h2, ← h3]
      simp [Instr.entryStore, MapKept.run_getObj_map hw2, asInt, asIntOf, goInt, hidx, hmod, MapKept.run_setObj_map _ hw2, Result.andThen, setBlock]
    · simp [Instr.mapUpdate, run_underlying ht, MapKept.run_getObj_map hb, K.check w false hkey, h1, hj, h3, K.stays w hkey, MapKept.run_setObj_map _ hb, Result.andThen, setBlock]
theorem MapB.entry {w : World} {b : Nat} {y : Int → Bool} (h : MapB w b y) {x : Int} (hx : wordB x = true) : ∃ (v0 : Value) (st : Nat) (w1 w2 : World), (Instr.mapEntry tM (.map (some b)) (.int .i64 x)).run Try.prog w = .ok (.tuple #[v0, .int .i64 (st : Int)]) w1 ∧
    (Instr.entryStore tM (.map (some b)) (.int .i64 (st : Int)) (.bool true)).run Try.prog w1 = .ok () w2 ∧ MapB w2 b (putB y x) ∧ w.grownBy w2 (some b) := by
  obtain ⟨w', hrun, hM, hg⟩ := h.put hx
  have hw := wordB_iff.1 hx
  have hx6 : I64b x := by unfold I64b; omega
  obtain ⟨D, ⟨es, clock, hb, F, hs, rfl⟩, _⟩ := h
  obtain ⟨v0, st, es1, c1, es', c', h1, h2, h3⟩ := entry_store mlaw Try.underlying53 zeroB hb F (mkey x hx6) (.bool true)
  rw [h3] at hrun
  injection hrun with _ hw'
  have h4 := h2 (setBlock w b (.map es1 c1)) (heap_setBlock_same hb _)
  have h5 : setBlock (setBlock w b (.map es1 c1)) b (.map es' c') = setBlock w b (.map es' c') := by simp [setBlock]
  rw [h5, hw'] at h4
  exact ⟨v0, st, _, w', h1, h4, hM, hg⟩
end Go.Proofs.Ytmfglflahlddbaa
