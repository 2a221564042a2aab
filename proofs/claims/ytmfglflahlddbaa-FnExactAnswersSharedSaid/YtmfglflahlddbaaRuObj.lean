/-
  RULES AS OBJECTS OF A LAW's WALK: what a slice of rules says, whether it is unmarked or marked, in which blocks it lies. Plain lemmas and the laws' helpers in these words.
-/
import Derived.Test.YtmfglflahlddbaaRuMark
import Derived.Test.YtmfglflahlddbaaRuOpen
import Derived.Test.YtmfglflahlddbaaRuVal
namespace Go.Proofs.Ytmfglflahlddbaa
open Go.ChangeShapes Go.WideShapes Go.ChangeAt Go.RowKit
set_option linter.unusedVariables false
set_option linter.unusedSimpArgs false

def sumD (ds : List Rl) : Nat := (ds.map fun d => d.ifs.length).sum
/-- how much room a list of rules takes: by the laws' own count -/
def szD (ds : List Rl) : Nat := ds.length + sumD ds
def totD (ds : List Rl) : Nat := 4 * ds.length + sumD ds
structure RlB (d : Rl) : Prop where
  hd : I64b d.hd
  fr : I64b d.fr
  tt : I64b d.tt
  rk : I64b d.rk
  ifs : I64s d.ifs
  len : d.ifs.length ≤ 9223372036854775807
theorem sumD_mem {ds : List Rl} {d : Rl} (h : d ∈ ds) : d.ifs.length ≤ sumD ds := by
  unfold sumD
  induction ds with
  | nil => cases h
  | cons a ds ih =>
    rw [List.map_cons, List.sum_cons]
    rcases List.mem_cons.1 h with rfl | h
    · omega
    · have := ih h; omega
/-- a slice of rules that can be read and says so much -/
def RsRd (w : World) (B : Nat) (A : Option Addr) (m : Nat) (ds : List Rl) : Prop := ∃ rs, RRd w B A m rs ∧ rs.map Ru.dat = ds
section
variable {w w' : World} {B B' m : Nat} {A : Option Addr} {rs : List Ru} {ds : List Rl}
theorem sum_of (h : ∀ r ∈ rs, r.n = r.ifs.length) : ifsSum rs = sumD (rs.map Ru.dat) := by
  unfold ifsSum sumD
  rw [List.map_map]
  congr 1
  exact List.map_congr_left fun r hr => h r hr
theorem RRd.nlen (h : RRd w B A m rs) : ∀ r ∈ rs, r.n = r.ifs.length := fun r hr => (h.2 r hr).ilen.symm
theorem OwnRs.nlen {lo : Nat} {v : Value} (h : OwnRs w lo v m rs) : ∀ r ∈ rs, r.n = r.ifs.length := fun r hr => by
  have := (h.inner r hr).1
  simpa [ints] using this.symm
theorem RsRd.len (h : RsRd w B A m ds) : ds.length = m := by obtain ⟨rs, hr, rfl⟩ := h; rw [List.length_map]; exact hr.len
theorem RsRd.more (h : RsRd w B A m ds) (hB : B ≤ B') : RsRd w B' A m ds := by obtain ⟨rs, hr, e⟩ := h; exact ⟨rs, hr.more hB, e⟩
theorem RsRd.below (h : RsRd w B A m ds) (hb : Below B w w') : RsRd w' B A m ds := by obtain ⟨rs, hr, e⟩ := h; exact ⟨rs, hr.below hb, e⟩
theorem RsRd.on (h : RsRd w w.heap.size A m ds) (hb : Below w.heap.size w w') : RsRd w' w'.heap.size A m ds := (h.below hb).more hb.size
theorem RsRd.drewN (h : RsRd w B A m ds) (n : Nat) : RsRd (w.drewN n) B A m ds := by
  obtain ⟨rs, hr, e⟩ := h
  exact ⟨rs, ⟨hr.1.drewN n, fun r hr' => (hr.2 r hr').drewN n⟩, e⟩
theorem ruN_of (h : ∀ r ∈ rs, r.n = r.ifs.length) (hz : szD (rs.map Ru.dat) ≤ 1048576) (hb : ∀ d ∈ rs.map Ru.dat, RlB d) : RuN rs := fun r hr => by
  have h1 := h r hr
  have h2 : r.dat ∈ rs.map Ru.dat := List.mem_map_of_mem hr
  have h3 := sumD_mem h2
  have h4 : r.dat.ifs.length = r.ifs.length := rfl
  unfold szD at hz
  exact ⟨by omega, (hb _ h2).ifs⟩
theorem sz_len {m : Nat} (hz : szD ds ≤ 1048576) (hl : ds.length = m) : m ≤ 1048576 := by unfold szD at hz; omega
end
/-- a slice of rules of the walk's own, in the blocks of a range -/
def Obj (w : World) (lo hi : Nat) (v : Value) (m : Nat) (ds : List Rl) : Prop := ∃ rs, OwnRs w lo v m rs ∧ InR hi v rs ∧ rs.map Ru.dat = ds
/-- the same, marked -/
def ObjM (w : World) (lo hi : Nat) (v : Value) (m : Nat) (k : Int) (ds : List Rl) : Prop := ∃ rs, OwnRs w lo v m (markRs k rs) ∧ InR hi v (markRs k rs) ∧ tot rs = totD ds ∧ rs.length = ds.length
/-- a slice of numbers of the walk's own -/
def ObjI (w : World) (lo hi : Nat) (v : Value) (n : Nat) (zs : List Int) : Prop := w.ownsRow lo tI 1 v n (ints zs) ∧ ∀ g, v.ownBlock = some g → g < hi
section
variable {w w' : World} {lo hi m n : Nat} {v : Value} {ds : List Rl} {k : Int} {zs : List Int}
theorem Obj.on (h : Obj w lo hi v m ds) (hb : Below w.heap.size w w') : Obj w' lo hi v m ds := by obtain ⟨rs, a, b, e⟩ := h; exact ⟨rs, a.on hb, b, e⟩
theorem Obj.only (h : Obj w lo hi v m ds) {a b : Nat} (ho : Only a b w w') (hd : hi ≤ a ∨ b ≤ lo) : Obj w' lo hi v m ds := by obtain ⟨rs, x, y, e⟩ := h; exact ⟨rs, x.only y ho hd, y, e⟩
theorem Obj.rd {A : Option Addr} {c : Nat} (h : Obj w lo hi (.slice A m c) m ds) : RsRd w w.heap.size A m ds := by obtain ⟨rs, a, b, e⟩ := h; exact ⟨rs, a.rrd, e⟩
theorem Obj.form (h : Obj w lo hi v m ds) : ∃ A c, v = .slice A m c := by obtain ⟨rs, a, b, e⟩ := h; exact a.form
theorem Obj.len (h : Obj w lo hi v m ds) : ds.length = m := by obtain ⟨rs, a, b, rfl⟩ := h; rw [List.length_map]; exact a.len
theorem ObjM.on (h : ObjM w lo hi v m k ds) (hb : Below w.heap.size w w') : ObjM w' lo hi v m k ds := by obtain ⟨rs, a, b, e⟩ := h; exact ⟨rs, a.on hb, b, e⟩
theorem ObjM.only (h : ObjM w lo hi v m k ds) {a b : Nat} (ho : Only a b w w') (hd : hi ≤ a ∨ b ≤ lo) : ObjM w' lo hi v m k ds := by obtain ⟨rs, x, y, e⟩ := h; exact ⟨rs, x.only y ho hd, y, e⟩
theorem ObjI.on (h : ObjI w lo hi v n zs) (hb : Below w.heap.size w w') : ObjI w' lo hi v n zs := ⟨own_on h.1 hb, h.2⟩
theorem ObjI.only (h : ObjI w lo hi v n zs) {a b : Nat} (ho : Only a b w w') (hd : hi ≤ a ∨ b ≤ lo) : ObjI w' lo hi v n zs := ⟨own_only h.1 h.2 ho hd, h.2⟩
theorem ObjI.rd {A : Option Addr} {c : Nat} (h : ObjI w lo hi (.slice A n c) n zs) : Rd w w.heap.size 1 A n (ints zs) := Rd.of_own h.1
theorem ObjI.form (h : ObjI w lo hi v n zs) : ∃ A c, v = .slice A n c := by obtain ⟨A, c, e, _⟩ := own_form h.1; exact ⟨A, c, e⟩
theorem ObjI.mk' (h : w.ownsRow lo tI 1 v n (ints zs)) : ObjI w lo w.heap.size v n zs := ⟨h, fun g hg => (h.lt g hg).2⟩
theorem Obj.mk' {rs : List Ru} (h : OwnRs w lo v m rs) : Obj w lo w.heap.size v m (rs.map Ru.dat) := ⟨rs, h, h.inR, rfl⟩
end
theorem markRs_inR {hi : Nat} {v : Value} {k : Int} {rs : List Ru} (h : InR hi v rs) : InR hi v (markRs k rs) := by
  refine ⟨h.1, fun r hr => ?_⟩
  obtain ⟨i, hi'⟩ := List.getElem?_of_mem hr
  unfold markRs at hi'
  rw [markTo_at] at hi'
  cases hx : rs[i]? with
  | none => rw [hx] at hi'; simp at hi'
  | some a =>
    rw [hx] at hi'
    simp only [Option.map_some, Option.some.injEq] at hi'
    subst hi'
    have := h.2 a (List.mem_of_getElem? hx)
    split <;> exact this
theorem toRs_any (A : Option Addr) (m c : Nat) (ds : List Rl) (w : World) (hr : RsRd w w.heap.size A m ds) (hz : szD ds ≤ 1048576) :
    Calls Try.prog 7 #[.slice A m c] w fun e w' => ∃ A' c', e = .returned (.slice A' m c') ∧ Obj w' w.heap.size w'.heap.size (.slice A' m c') m ds ∧ Below w.heap.size w w' := by
  have hl := hr.len
  obtain ⟨rs, hr, rfl⟩ := hr
  have h2 := hr.nlen
  refine (toRuleS_any A m c rs w hr (by unfold szD at hz; omega) (fun r h => ?_)).mono ?_
  · have h3 := sumD_mem (List.mem_map_of_mem (f := Ru.dat) h)
    have h4 : r.dat.ifs.length = r.ifs.length := rfl
    have h5 := h2 r h
    unfold szD at hz; omega
  · rintro e w' ⟨g, rs', rfl, hd, ho, hb⟩
    exact ⟨_, _, rfl, hd ▸ Obj.mk' ho, hb⟩
theorem eqRs_yes (A B : Option Addr) (m c d : Nat) (ds : List Rl) (w : World) (hr : RsRd w w.heap.size A m ds) (hs : RsRd w w.heap.size B m ds) (hz : szD ds ≤ 2097152) :
    Calls Try.prog 11 #[.slice A m c, .slice B m d] w fun e w' => e = .returned (.bool true) ∧ Below w.heap.size w w' := by
  have hl := hr.len
  obtain ⟨rs, hr, rfl⟩ := hr
  obtain ⟨ss, hs, e⟩ := hs
  have h2 := hr.nlen
  refine eqRuleS_yes A B m c d rs ss w hr hs e.symm (by unfold szD at hz; omega) (fun r h => ?_)
  have h3 := sumD_mem (List.mem_map_of_mem (f := Ru.dat) h)
  have h4 : r.dat.ifs.length = r.ifs.length := rfl
  have h5 := h2 r h
  unfold szD at hz; omega
theorem left_neg {k : Int} {rs : List Ru} (h : ∀ r ∈ rs, r.n = r.ifs.length) : leftOf k rs = if k < szD (rs.map Ru.dat) then -1 else k - szD (rs.map Ru.dat) := by
  unfold leftOf szD
  rw [sum_of h, List.length_map]
  by_cases hx : k < rs.length + sumD (rs.map Ru.dat)
  · rw [if_pos hx, if_pos (by omega)]
  · rw [if_neg hx, if_neg (by omega)]; omega
theorem szRs_no (A : Option Addr) (m c : Nat) (ds : List Rl) (k : Int) (w : World) (hr : RsRd w w.heap.size A m ds) (hk : 0 ≤ k ∧ k ≤ 1048576) (hb : (∀ d ∈ ds, RlB d) ∧ m ≤ 9223372036854775807) (h : k < szD ds) :
    Calls Try.prog 4 #[.slice A m c, .int .i64 k] w fun e w' => e = .returned (.int .i64 (-1)) ∧ Below w.heap.size w w' := by
  obtain ⟨rs, hr, rfl⟩ := hr
  refine (szRuleS_any A m c rs k w hr hk hb.2 (fun r h => ?_)).mono fun e w' ⟨he, hb⟩ => ⟨by rw [he, left_neg hr.nlen, if_pos h], hb⟩
  rw [hr.nlen r h]
  exact (hb.1 _ (List.mem_map_of_mem (f := Ru.dat) h)).len
theorem szRs_yes (A : Option Addr) (m c : Nat) (ds : List Rl) (k : Int) (w : World) (hr : RsRd w w.heap.size A m ds) (hk : 0 ≤ k ∧ k ≤ 1048576) (hb : (∀ d ∈ ds, RlB d) ∧ m ≤ 9223372036854775807) (h : (szD ds : Int) ≤ k) :
    Calls Try.prog 4 #[.slice A m c, .int .i64 k] w fun e w' => ∃ l : Int, e = .returned (.int .i64 l) ∧ l = k - szD ds ∧ (0 ≤ l ∧ l ≤ 1048576) ∧ Below w.heap.size w w' := by
  obtain ⟨rs, hr, rfl⟩ := hr
  refine (szRuleS_any A m c rs k w hr hk hb.2 (fun r h => ?_)).mono fun e w' ⟨he, hb⟩ => ⟨_, by rw [he, left_neg hr.nlen, if_neg (by omega)], rfl, by omega, hb⟩
  rw [hr.nlen r h]
  exact (hb.1 _ (List.mem_map_of_mem (f := Ru.dat) h)).len
theorem markRs_any (v : Value) (lo hi m : Nat) (k : Int) (ds : List Rl) (w : World) (ho : Obj w lo hi v m ds) (hz : szD ds ≤ 2097152) (hk0 : 0 ≤ k) (hk1 : k ≤ 1073741824) :
    Calls Try.prog 13 #[v, .int .i64 k] w fun e w' => e = .returned (.int .i64 (k + totD ds)) ∧ ObjM w' lo hi v m k ds ∧ Only lo hi w w' := by
  have hl := ho.len
  obtain ⟨rs, ho, hi', rfl⟩ := ho
  have h2 := sum_of ho.nlen
  have h3 : tot rs = totD (rs.map Ru.dat) := by unfold tot totD; rw [h2, List.length_map]
  refine (markRuleS_any v lo hi m k rs w ho hi' (by unfold szD at hz; omega) (by unfold szD at hz; omega) hk0 hk1).mono ?_
  rintro e w' ⟨rfl, h4, h5⟩
  exact ⟨by rw [h3], ⟨rs, h4, markRs_inR hi', h3, by rw [List.length_map]⟩, h5⟩
theorem markI_any (v : Value) (lo hi n : Nat) (k : Int) (zs : List Int) (w : World) (ho : ObjI w lo hi v n zs) (hn : n ≤ 2097152) (hk0 : 0 ≤ k) (hk1 : k ≤ 1099511627776) :
    Calls Try.prog 15 #[v, .int .i64 k] w fun e w' => e = .returned (.int .i64 (k + n)) ∧ ObjI w' lo hi v n (up k n) ∧ Only lo hi w w' :=
  (markInt64S_any v lo n k _ w ho.1 hn hk0 hk1).mono fun e w' ⟨he, h1, h2⟩ => ⟨he, ⟨h1, ho.2⟩, Only.of_grown h2 fun g hg => ⟨(ho.1.lt g hg).1, ho.2 g hg⟩⟩
theorem tot_sz (ds : List Rl) : totD ds ≤ 4 * szD ds := by unfold totD szD; omega
/-- an argument that is a slice of rules, opened -/
theorem open_rs {H : Type} {enc : TypeId × Value → H} {W : World} {A : Option Addr} {m c : Nat} {v : Value} {rs : List Ru} (h : v = .slice A m c ∧ RRd W W.heap.size A m rs ∧ (∀ r ∈ rs, RuB r) ∧ m ≤ 9223372036854775807) :
    v = .slice A m c ∧ RsRd W W.heap.size A m (rs.map Ru.dat) ∧ (∀ d ∈ rs.map Ru.dat, RlB d) ∧ m ≤ 9223372036854775807 := by
  obtain ⟨e, hr, hb, hm⟩ := h
  refine ⟨e, ⟨rs, hr, rfl⟩, fun d hd => ?_, hm⟩
  obtain ⟨r, hr', rfl⟩ := List.mem_map.1 hd
  have h1 := hb r hr'
  exact ⟨h1.hd, h1.fr, h1.tt, h1.rk, h1.ifs, by have := h1.n; have := hr.nlen r hr'; show r.ifs.length ≤ _; omega⟩
attribute [irreducible] szD sumD totD
end Go.Proofs.Ytmfglflahlddbaa
