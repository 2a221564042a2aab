/-
  ROWS OF ROWS OF NUMBERS: a slice of slices, read and owned; the laws' own helpers on them.
-/
import Derived.Test.YtmfglflahlddbaaRuObj
namespace Go.Proofs.Ytmfglflahlddbaa
open Go.ChangeShapes Go.WideShapes Go.ChangeAt Go.RowKit
set_option linter.unusedVariables false

/-- a slice of numbers and what it holds -/
structure Rw where
  A : Option Addr
  n : Nat
  c : Nat
  zs : List Int
def Rw.V (r : Rw) : Value := .slice r.A r.n r.c
def rws (rs : List Rw) : List Value := rs.map Rw.V
theorem rws_length (rs : List Rw) : (rws rs).length = rs.length := by simp [rws]
theorem rws_at {rs : List Rw} {k : Nat} {r : Rw} (h : rs[k]? = some r) : (rws rs)[k]? = some r.V := by simp [rws, h]
abbrev tS : TypeId := 26
theorem tS_ne_tI : tS ≠ tI := by decide
/-- a slice of slices that can be read -/
def MRd (w : World) (B : Nat) (A : Option Addr) (m : Nat) (rs : List Rw) : Prop := Rd w B 1 A m (rws rs) ∧ ∀ r ∈ rs, Rd w B 1 r.A r.n (ints r.zs)
section
variable {w w' : World} {B B' m : Nat} {A : Option Addr} {rs : List Rw}
theorem MRd.len (h : MRd w B A m rs) : rs.length = m := by have := h.1.len; rwa [rws_length] at this
theorem MRd.nil_ : MRd w B A 0 [] := ⟨⟨by simp [rws], fun h => absurd h (by omega)⟩, fun r hr => by cases hr⟩
theorem MRd.keep (h : MRd w B A m rs) (hk : ∀ p : Addr, p.block < B → w'.cell? p = w.cell? p) : MRd w' B A m rs := ⟨h.1.keep hk, fun r hr => (h.2 r hr).keep hk⟩
theorem MRd.more (h : MRd w B A m rs) (hB : B ≤ B') : MRd w B' A m rs := ⟨h.1.more hB, fun r hr => (h.2 r hr).more hB⟩
theorem MRd.below (h : MRd w B A m rs) (hb : Below B w w') : MRd w' B A m rs := h.keep fun _ hp => hb.cell hp
theorem MRd.on (h : MRd w w.heap.size A m rs) (hb : Below w.heap.size w w') : MRd w' w'.heap.size A m rs := (h.below hb).more hb.size
theorem MRd.row {k : Nat} (h : MRd w B A m rs) (hk : k < m) : ∃ (ad : Addr) (r : Rw), A = some ad ∧ ad.block < B ∧ rs[k]? = some r ∧ w.cell? (ad.add k) = some (.slice r.A r.n r.c) ∧ Rd w B 1 r.A r.n (ints r.zs) := by
  obtain ⟨ad, u, e, hb, hu, hc⟩ := h.1.at_ hk
  have hr : rs[k]? = some (rs[k]'(by have := h.len; omega)) := List.getElem?_eq_getElem _
  rw [rws_at hr] at hu
  cases hu
  exact ⟨ad, _, e, hb, hr, hc, h.2 _ (List.getElem_mem _)⟩
theorem MRd.nlen (h : MRd w B A m rs) : ∀ r ∈ rs, r.n = r.zs.length := fun r hr => (h.2 r hr).ilen.symm
end
def ApartW (a b : Rw) : Prop := a.V.ownBlock = none ∨ a.V.ownBlock ≠ b.V.ownBlock
/-- a slice of slices of the call's own, each with cells of its own -/
structure OwnM (w : World) (lo : Nat) (v : Value) (m : Nat) (rs : List Rw) : Prop where
  outer : w.ownsRow lo tS 1 v m (rws rs)
  inner : ∀ r ∈ rs, w.ownsRow lo tI 1 r.V r.n (ints r.zs)
  apart : ∀ (i j : Nat) (a b : Rw), rs[i]? = some a → rs[j]? = some b → i ≠ j → ApartW a b
def InM (hi : Nat) (v : Value) (rs : List Rw) : Prop := (∀ g, v.ownBlock = some g → g < hi) ∧ ∀ r ∈ rs, ∀ g, r.V.ownBlock = some g → g < hi
section
variable {w w' : World} {lo hi lo' m : Nat} {v : Value} {rs : List Rw}
theorem OwnM.len (h : OwnM w lo v m rs) : rs.length = m := by have := own_len h.outer; rwa [rws_length] at this
theorem OwnM.inM (h : OwnM w lo v m rs) : InM w.heap.size v rs := ⟨fun g hg => (h.outer.lt g hg).2, fun r hr g hg => ((h.inner r hr).lt g hg).2⟩
theorem OwnM.form (h : OwnM w lo v m rs) : ∃ A c, v = .slice A m c := by obtain ⟨A, c, e, _⟩ := own_form h.outer; exact ⟨A, c, e⟩
theorem OwnM.on (h : OwnM w lo v m rs) (hb : Below w.heap.size w w') : OwnM w' lo v m rs := ⟨own_on h.outer hb, fun r hr => own_on (h.inner r hr) hb, h.apart⟩
theorem OwnM.base (h : OwnM w lo v m rs) (hl : lo' ≤ lo) : OwnM w lo' v m rs := ⟨own_base h.outer hl, fun r hr => own_base (h.inner r hr) hl, h.apart⟩
theorem OwnM.only (h : OwnM w lo v m rs) (hi' : InM hi v rs) {a b : Nat} (ho : Only a b w w') (hd : hi ≤ a ∨ b ≤ lo) : OwnM w' lo v m rs :=
  ⟨own_only h.outer hi'.1 ho hd, fun r hr => own_only (h.inner r hr) (hi'.2 r hr) ho hd, h.apart⟩
theorem OwnM.mrd {A : Option Addr} {c : Nat} (h : OwnM w lo (.slice A m c) m rs) : MRd w w.heap.size A m rs := ⟨Rd.of_own h.outer, fun r hr => Rd.of_own (h.inner r hr)⟩
theorem OwnM.nlen (h : OwnM w lo v m rs) : ∀ r ∈ rs, r.n = r.zs.length := fun r hr => by
  have := (h.inner r hr).1
  simpa [ints] using this.symm
end
/-! ### how much room they take, by the laws' own count -/
def sumZ (zss : List (List Int)) : Nat := (zss.map List.length).sum
def szM (zss : List (List Int)) : Nat := zss.length + sumZ zss
theorem sumZ_take {zss : List (List Int)} {k : Nat} {r : List Int} (h : zss[k]? = some r) : sumZ (zss.take (k + 1)) = sumZ (zss.take k) + r.length := by
  unfold sumZ
  rw [List.take_add_one, h, List.map_append, List.sum_append]; simp
theorem sumZ_le (zss : List (List Int)) (k : Nat) : sumZ (zss.take k) ≤ sumZ zss := by
  have h : sumZ zss = sumZ (zss.take k) + sumZ (zss.drop k) := by
    unfold sumZ
    rw [← List.sum_append, ← List.map_append, List.take_append_drop]
  omega
theorem sumZ_mem {zss : List (List Int)} {r : List Int} (h : r ∈ zss) : r.length ≤ sumZ zss := by
  unfold sumZ
  induction zss with
  | nil => cases h
  | cons a rs ih =>
    rw [List.map_cons, List.sum_cons]
    rcases List.mem_cons.1 h with rfl | h
    · omega
    · have := ih h; omega
theorem rw_at {rs : List Rw} {k : Nat} {r : Rw} (h : rs[k]? = some r) : (rs.map Rw.zs)[k]? = some r.zs := by simp [h]
def leftM (k : Int) (zss : List (List Int)) : Int := if k < szM zss then -1 else k - szM zss
set_option maxHeartbeats 800000 in
theorem szInt64SS_any (A : Option Addr) (m c : Nat) (rs : List Rw) (k0 : Int) (w : World) (hr : MRd w w.heap.size A m rs) (hk : 0 ≤ k0 ∧ k0 ≤ 1048576) (hm : m ≤ 9223372036854775807) (hn : ∀ r ∈ rs, r.n ≤ 9223372036854775807) :
    Calls Try.prog 5 #[.slice A m c, .int .i64 k0] w fun e w' => e = .returned (.int .i64 (leftM k0 (rs.map Rw.zs))) ∧ w = w' := by
  have HL := Lib.hid hr.len
  have HN := Lib.hid hn
  have HNL := Lib.hid hr.nlen
  clear hn
  by_cases h0 : k0 < m
  · have hfin := Lib.hid (show leftM k0 (rs.map Rw.zs) = -1 by unfold leftM szM; rw [if_pos (by have := HL.out; simp; omega)])
    go_enter Try.func5, Try.ntmps5
    go_wp2
    go_ret
    exact ⟨by rw [hfin.out]; rfl, rfl⟩
  · go_enter Try.func5, Try.ntmps5
    go_wp2
    go_loop [1, 5] (fun q i => ∃ k : Nat, k ≤ m ∧ i = .int .i64 k ∧ q = .int .i64 (k0 - m - sumZ ((rs.map Rw.zs).take k)) ∧ (sumZ ((rs.map Rw.zs).take k) : Int) ≤ k0 - m) (fun _ i => m - (intOf i).toNat)
    case atStart => exact ⟨0, Nat.zero_le _, rfl, by simp [sumZ], by simp [sumZ]; omega⟩
    case round =>
      obtain ⟨k, hk', rfl, rfl, hle⟩ := hrel
      by_cases hlt : k < m
      · obtain ⟨ad, r, rfl, _, hr', hc0, _⟩ := hr.row hlt
        have hrn := HN.out r (List.mem_of_getElem? hr')
        have hs := sumZ_take (rw_at hr')
        rw [← HNL.out r (List.mem_of_getElem? hr')] at hs
        have hl2 := sumZ_le (rs.map Rw.zs) (k + 1)
        obtain ⟨s, hs2⟩ : ∃ s, s = sumZ ((rs.map Rw.zs).take k) := ⟨_, rfl⟩
        rw [← hs2] at hs hle ⊢
        have HS := Lib.hid hs
        have HL2 := Lib.hid hl2
        obtain ⟨q, hq⟩ : ∃ q : Int, q = k0 - m - s := ⟨_, rfl⟩
        have hq0 : 0 ≤ q ∧ q ≤ 1048576 := by omega
        rw [← hq]
        have HQ := Lib.hid hq
        obtain ⟨Ai, ni, ci, zs⟩ := r
        dsimp only at hc0 hrn HS hr'
        by_cases hlt2 : q < ni
        · have HZ := Lib.hid (fun w => szInt64S_any Ai ni ci q w hq0 hrn)
          rw [if_pos hlt2] at HZ
          have hfin := Lib.hid (show leftM k0 (rs.map Rw.zs) = -1 by
            unfold leftM szM
            rw [if_pos (by have := HL.out; have := HS.out; have := HQ.out; have := HL2.out; simp; omega)])
          clear hr hr' hs hl2 hs2 hq hle HL2
          go_wp2_with (go_at_call 18; refine (HZ.out _).mono ?_; rintro e w2 ⟨rfl, rfl⟩)
          go_ret
          exact ⟨by rw [hfin.out]; rfl, rfl⟩
        · have HZ := Lib.hid (fun w => szInt64S_any Ai ni ci q w hq0 hrn)
          rw [if_neg hlt2] at HZ
          clear hr hr' hs hl2 hs2 hq hle HL2
          go_wp2_with (go_at_call 18; refine (HZ.out _).mono ?_; rintro e w2 ⟨rfl, rfl⟩)
          go_round
          case rel => exact ⟨k + 1, by omega, by go_num, int_eq (by have := HS.out; have := HQ.out; omega), by have := HS.out; have := HQ.out; omega⟩
          case measure => simp [intOf]; omega
      · obtain rfl : m = k := by omega
        have ht := Lib.hid (show (rs.map Rw.zs).take m = rs.map Rw.zs from List.take_of_length_le (by have := HL.out; simp; omega))
        have hfin := Lib.hid (show leftM k0 (rs.map Rw.zs) = k0 - m - sumZ ((rs.map Rw.zs).take m) by
          unfold leftM szM
          rw [ht.out] at hle ⊢
          rw [if_neg (by have := HL.out; simp; omega)]
          have := HL.out
          simp; omega)
        clear hr
        go_wp2
        go_ret
        exact ⟨by rw [hfin.out]; rfl, rfl⟩
/-! ### the copy -/
theorem info_slice : (Try.prog.info? tS).map (fun i => (i.zero, i.size, i.bytes)) = some (some (.slice none 0 0), 1, 24) := by kernel_rfl
/-- a slice whose first k slices are laid -/
def PartM (w : World) (lo g m k : Nat) (rs : List Rw) : Prop :=
  ∃ cs : List Value, w.ownsRow lo tS 1 (.slice (some ⟨g, 0, none⟩) m m) m cs ∧ (∀ j, j < k → cs[j]? = (rws rs)[j]?) ∧ rs.length = k ∧ (∀ r ∈ rs, w.ownsRow lo tI 1 r.V r.n (ints r.zs)) ∧ ∀ (i j : Nat) (a b : Rw), rs[i]? = some a → rs[j]? = some b → i ≠ j → ApartW a b
theorem apartM_snoc {h' : Nat} {rs : List Rw} {r' : Rw} (h : ∀ (i j : Nat) (a b : Rw), rs[i]? = some a → rs[j]? = some b → i ≠ j → ApartW a b) (hlt : ∀ r ∈ rs, ∀ g, r.V.ownBlock = some g → g < h') (hge : ∀ g, r'.V.ownBlock = some g → h' ≤ g) :
    ∀ (i j : Nat) (a b : Rw), (rs ++ [r'])[i]? = some a → (rs ++ [r'])[j]? = some b → i ≠ j → ApartW a b := by
  have key : ∀ (i : Nat) (a : Rw), (rs ++ [r'])[i]? = some a → (i < rs.length ∧ rs[i]? = some a) ∨ (i = rs.length ∧ a = r') := fun i a ha => by
    by_cases hi : i < rs.length
    · rw [List.getElem?_append_left hi] at ha; exact .inl ⟨hi, ha⟩
    · rw [List.getElem?_append_right (by omega)] at ha
      have : i - rs.length = 0 := by
        rcases Nat.eq_zero_or_pos (i - rs.length) with h0 | h0
        · exact h0
        · rw [List.getElem?_eq_none (by simp; omega)] at ha; cases ha
      rw [this] at ha
      simp at ha
      exact .inr ⟨by omega, ha.symm⟩
  intro i j a b ha hb hij
  unfold ApartW
  rcases key i a ha with ⟨h1, h2⟩ | ⟨h1, rfl⟩
  · rcases key j b hb with ⟨h3, h4⟩ | ⟨h3, rfl⟩
    · exact h i j a b h2 h4 hij
    · cases hx : a.V.ownBlock with
      | none => exact .inl rfl
      | some g =>
        right
        intro he
        have := hlt a (List.mem_of_getElem? h2) g hx
        have := hge g he.symm
        omega
  · rcases key j b hb with ⟨h3, h4⟩ | ⟨h3, rfl⟩
    · cases hx : a.V.ownBlock with
      | none => exact .inl rfl
      | some g =>
        right
        intro he
        have := hlt b (List.mem_of_getElem? h4) g he.symm
        have := hge g hx
        omega
    · omega
theorem partM_step {wr w2 : World} {lo g m k : Nat} {rs : List Rw} {r : Rw} (h : PartM wr lo g m k rs) (hk : k < m) (hb : Below wr.heap.size wr w2) (hlo : lo ≤ wr.heap.size) (ho : w2.ownsRow wr.heap.size tI 1 r.V r.n (ints r.zs)) :
    PartM (w2.setCell ⟨g, k, none⟩ (.slice r.A r.n r.c)) lo g m (k + 1) (rs ++ [r]) ∧ w2.grownBy (w2.setCell ⟨g, k, none⟩ (.slice r.A r.n r.c)) (some g) := by
  obtain ⟨cs, h1, h2, h3, h4, h5⟩ := h
  have hlt : ∀ a ∈ rs, ∀ g, a.V.ownBlock = some g → g < wr.heap.size := fun a ha g hg => ((h4 a ha).lt g hg).2
  have o0 := own_on h1 hb
  have hl := own_len o0
  have o1 := o0.stored k (.slice r.A r.n r.c)
  refine ⟨⟨_, o1.1, ?_, by rw [List.length_append, h3]; rfl, fun a ha => ?_, apartM_snoc h5 hlt fun g hg => (ho.lt g hg).1⟩, o1.2⟩
  · refine fill_step (fun j hj => ?_) (by omega) ?_
    · rw [h2 j hj]
      unfold rws
      rw [List.map_append, List.getElem?_append_left (by simp; omega)]
    · unfold rws
      rw [List.map_append, List.getElem?_append_right (by simp; omega)]
      simp [h3, Rw.V]
  · have key : ∀ b : Rw, w2.ownsRow lo tI 1 b.V b.n (ints b.zs) → (w2.setCell ⟨g, k, none⟩ (.slice r.A r.n r.c)).ownsRow lo tI 1 b.V b.n (ints b.zs) := fun b hb2 =>
      World.ownsRow.kept hb2 o1.2 (own_kinds hb2 o0 (Ne.symm tS_ne_tI))
    rcases List.mem_append.1 ha with ha | ha
    · exact key a (own_on (h4 a ha) hb)
    · simp at ha
      subst ha
      exact key a (own_base ho hlo)
theorem partM_done {w : World} {lo g m : Nat} {rs : List Rw} (h : PartM w lo g m m rs) : OwnM w lo (.slice (some ⟨g, 0, none⟩) m m) m rs := by
  obtain ⟨cs, h1, h2, h3, h4, h5⟩ := h
  have : cs = rws rs := fill_done (n := m) h2 (own_len h1) (by rw [rws_length, h3])
  subst this
  exact ⟨h1, h4, h5⟩
set_option maxHeartbeats 1600000 in
theorem toInt64SS_any (A : Option Addr) (m c : Nat) (rs : List Rw) (w : World) (hr : MRd w w.heap.size A m rs) (hm : m ≤ 1048576) (hn : ∀ r ∈ rs, r.n ≤ 1048576) :
    Calls Try.prog 8 #[.slice A m c] w fun e w' => ∃ g rs', e = .returned (.slice (some ⟨g, 0, none⟩) m m) ∧ rs'.map Rw.zs = rs.map Rw.zs ∧ OwnM w' w.heap.size (.slice (some ⟨g, 0, none⟩) m m) m rs' ∧ Below w.heap.size w w' := by
  obtain ⟨i0, hi, hz0, hz1, hz2⟩ := info_parts info_slice
  have HN := Lib.hid hn
  have HL := Lib.hid hr.len
  clear hn
  go_enter Try.func8, Try.ntmps8
  go_wp2_with (at_make; refine wpList_make_full _ rfl (.tmp 6) (.tmp 6) 23 rfl w.heap.size tS i0 (.slice none 0 0) 1 Try.underlying23 hi hz0 hz1 .i64 .i64 _ _ m rfl rfl rfl rfl (by rw [hz2]; omega) (by unfold maxLen; omega) (Nat.le_refl _) ?_; intro w1 hown hg)
  have hb := Below.grown (Below.refl w.heap.size w) hg (Nat.le_refl _) (by simp)
  clear hg
  obtain ⟨g, hg⟩ : ∃ g, g = w.heap.size := ⟨_, rfl⟩
  rw [← hg] at hown ⊢
  have HG := Lib.hid hg
  clear hg
  go_loopw [4] (fun i wr => ∃ (k : Nat) (rs' : List Rw), k ≤ m ∧ i = .int .i64 k ∧ rs'.map Rw.zs = (rs.take k).map Rw.zs ∧ PartM wr w.heap.size g m k rs' ∧ Below w.heap.size w wr) (fun i _ => m - (intOf i).toNat)
  case atStart => exact ⟨0, [], Nat.zero_le _, rfl, rfl, ⟨_, by rw [HG.out]; rw [HG.out] at hown; exact hown, by omega, rfl, fun r hr => (by cases hr), fun i j a b h => by simp at h⟩, hb⟩
  case round =>
    obtain ⟨k, rs', hk, rfl, hd, hpart, hb'⟩ := hrel
    clear hown hb
    have HD := Lib.hid hd
    have HP := Lib.hid hpart
    clear hd hpart
    by_cases hlt : k < m
    · obtain ⟨ad, r, rfl, _, hk', hc0, hri⟩ := (hr.below hb').row hlt
      have HRI := Lib.hid (hri.more hb'.size)
      have hrn := HN.out r (List.mem_of_getElem? hk')
      have HK := Lib.hid hk'
      have HB := Lib.hid hb'
      clear hr hri hk'
      obtain ⟨Ai, ni, ci, zs⟩ := r
      dsimp only at hc0 hrn HRI HK
      go_wp2_with fail
      refine (toInt64S_any Ai ni ci zs _ HRI.out hrn).mono ?_
      rintro e w2 ⟨g', rfl, ho, hb2⟩
      obtain ⟨cs, q1, _⟩ := HP.out
      have q2 := own_on q1 hb2
      have HS := Lib.hid (partM_step (r := ⟨some ⟨g', 0, none⟩, ni, ni, zs⟩) HP.out hlt hb2 HB.out.size ho)
      have HB2 := Lib.hid (below_step HB.out hb2)
      have hgb := (own_blockN q1).1
      obtain ⟨u0, hu0⟩ := own_cellN q2 (k := k) (by omega)
      have hf0 := q2.frozenAt k
      clear q1 q2 ho hb2 hc0 hb'
      go_wp2_with fail
      go_roundw
      case rel =>
        obtain ⟨s1, s2⟩ := HS.out
        refine ⟨k + 1, _, by omega, by go_num, ?_, s1, HB2.out.grown s2 HB2.out.size (fun j hj => by cases hj; exact hgb)⟩
        rw [List.map_append, HD.out, List.take_add_one, HK.out, List.map_append]; rfl
      case measure => simp [intOf]; omega
    · obtain rfl : m = k := by omega
      clear hr
      go_wp2
      go_ret
      exact ⟨g, rs', rfl, by have := HD.out; rwa [List.take_of_length_le (by have := HL.out; omega)] at this, partM_done HP.out, hb'⟩
/-! ### equal -/
set_option maxHeartbeats 1600000 in
theorem eqInt64SS_yes (A B : Option Addr) (m c d : Nat) (rs ss : List Rw) (w : World) (hr : MRd w w.heap.size A m rs) (hs : MRd w w.heap.size B m ss) (hd : rs.map Rw.zs = ss.map Rw.zs) (hm : m ≤ 2097152) (hn : ∀ r ∈ rs, r.n ≤ 2097152) :
    Calls Try.prog 12 #[.slice A m c, .slice B m d] w fun e w' => e = .returned (.bool true) ∧ Below w.heap.size w w' := by
  have HN := Lib.hid hn
  have HD := Lib.hid hd
  clear hn hd
  go_enter Try.func12, Try.ntmps12
  go_wp2
  go_loopw [5] (fun i wr => ∃ k : Nat, k ≤ m ∧ i = .int .i64 k ∧ Below w.heap.size w wr) (fun i _ => m - (intOf i).toNat)
  case atStart => exact ⟨0, Nat.zero_le _, rfl, Below.refl _ _⟩
  case round =>
    obtain ⟨k, hk, rfl, hb⟩ := hrel
    by_cases hlt : k < m
    · obtain ⟨ad, r, rfl, ka, hr', hc0, hri⟩ := (hr.below hb).row hlt
      obtain ⟨ae, s, rfl, kb, hs', hd0, hsi⟩ := (hs.below hb).row hlt
      have hrn := HN.out r (List.mem_of_getElem? hr')
      have hdat : r.zs = s.zs := by
        have h1 := rw_at hr'
        have h2 := rw_at hs'
        rw [HD.out, h2] at h1
        exact (Option.some.inj h1).symm
      obtain ⟨Ai, ni, ci, zs⟩ := r
      obtain ⟨Bi, mi, di, ys⟩ := s
      simp only at hdat
      subst hdat
      dsimp only at hc0 hd0 hri hsi hrn
      obtain rfl : ni = mi := by have := hri.ilen; have := hsi.ilen; omega
      have hsz := hb.size
      have q1 : (ad.add k).block < wr.heap.size := by rw [add_block]; omega
      have q2 : (ae.add k).block < wr.heap.size := by rw [add_block]; omega
      have HRI := Lib.hid (hri.more hsz)
      have HSI := Lib.hid (hsi.more hsz)
      have hz : (0 : Int) ≤ k := by omega
      have hlt' : (k : Int) < m := by omega
      have KEEP := Lib.hid (fun (w' : World) (h : Below wr.heap.size wr w') => show (fun w' => w'.cell? (ad.add k) = some (.slice Ai ni ci) ∧ w'.cell? (ae.add k) = some (.slice Bi ni di)) w' from
        ⟨(h.cell q1).trans hc0, (h.cell q2).trans hd0⟩)
      clear hr hs hr' hs' hri hsi q1 q2 ka kb hsz
      go_wp2
      go_region_held3 (fun w' => w'.cell? (ad.add k) = some (.slice Ai ni ci) ∧ w'.cell? (ae.add k) = some (.slice Bi ni di))
        (first | go_keep | exact KEEP.out _ ⟨hb2.os, hb2.tape, hb2.output, hb2.size, hb2.block⟩)
        (first | (go_at_call 10; refine (eqInt64S_yes _ _ _ _ _ zs _ HRI.out.drew HSI.out.drew hrn).mono ?_; rintro e w' ⟨rfl, hb2⟩))
      go_wp2_with fail
      exact ⟨⟨k + 1, by omega, by go_num, below_step (below_drewN hb 1) hb2⟩, by simp [intOf]; omega⟩
    · go_wp2
      go_ret
      exact ⟨rfl, hb⟩
/-! ### the marks -/
set_option maxHeartbeats 1600000 in
theorem markInt64SS_any (v : Value) (lo hi m : Nat) (k : Int) (rs : List Rw) (w : World) (ho : OwnM w lo v m rs) (hI : InM hi v rs) (hm : szM (rs.map Rw.zs) ≤ 2097152) (hk0 : 0 ≤ k) (hk1 : k ≤ 1073741824) :
    Calls Try.prog 14 #[v, .int .i64 k] w fun e w' => e = .returned (.int .i64 (k + sumZ (rs.map Rw.zs))) ∧ Only lo hi w w' := by
  obtain ⟨A, c, rfl⟩ := ho.form
  have HL := Lib.hid ho.len
  have HI := Lib.hid hI
  have HNL := Lib.hid ho.nlen
  have HAP := Lib.hid ho.apart
  have HM := Lib.hid hm
  have hm2 : m ≤ 2097152 := by have := HL.out; have := HM.out; unfold szM at this; simp at this; omega
  have hst : w.ownsRow lo tS 1 (.slice A m c) m (rws rs) ∧ ∀ r ∈ rs, ∃ cs, w.ownsRow lo tI 1 r.V r.n cs := ⟨ho.outer, fun r hr => ⟨_, ho.inner r hr⟩⟩
  clear hI ho hm
  go_enter Try.func14, Try.ntmps14
  go_wp2
  go_loopw [1, 5] (fun q i wr => ∃ j : Nat, j ≤ m ∧ i = .int .i64 j ∧ q = .int .i64 (k + sumZ ((rs.map Rw.zs).take j)) ∧ (wr.ownsRow lo tS 1 (.slice A m c) m (rws rs) ∧ ∀ r ∈ rs, ∃ cs, wr.ownsRow lo tI 1 r.V r.n cs) ∧ Only lo hi w wr) (fun _ i _ => m - (intOf i).toNat)
  case atStart => exact ⟨0, Nat.zero_le _, rfl, by simp [sumZ], hst, Only.refl _ _ _⟩
  case round =>
    obtain ⟨j, hj, rfl, rfl, hown, honly⟩ := hrel
    clear hst
    have HO := Lib.hid honly
    have HW := Lib.hid hown
    clear honly hown
    by_cases hlt : j < m
    · have hrj : rs[j]? = some (rs[j]'(by have := HL.out; omega)) := List.getElem?_eq_getElem _
      obtain ⟨r, hr⟩ : ∃ r, r = rs[j]'(by have := HL.out; omega) := ⟨_, rfl⟩
      rw [← hr] at hrj
      clear hr
      obtain ⟨g, rfl⟩ := own_head HW.out.1 (by omega)
      have hc := HW.out.1.cellAt j (by omega)
      rw [rws_at hrj] at hc
      have hrm := List.mem_of_getElem? hrj
      obtain ⟨cs, hcs⟩ := HW.out.2 r hrm
      have hs := sumZ_take (rw_at hrj)
      rw [← HNL.out r hrm] at hs
      have hl2 := sumZ_le (rs.map Rw.zs) (j + 1)
      have HM2 : sumZ (rs.map Rw.zs) ≤ 2097152 := by have := HM.out; unfold szM at this; omega
      obtain ⟨q, hq⟩ : ∃ q : Int, q = k + sumZ ((rs.map Rw.zs).take j) := ⟨_, rfl⟩
      have hqb : 0 ≤ q ∧ q ≤ 1099511627776 := by omega
      have hrn : r.n ≤ 2097152 := by omega
      rw [← hq]
      have HQ := Lib.hid (show k + sumZ ((rs.map Rw.zs).take (j + 1)) = q + r.n by omega)
      have HCS := Lib.hid hcs
      have HRJ := Lib.hid hrj
      have HRM := Lib.hid hrm
      obtain ⟨Ai, ni, ci, zs⟩ := r
      dsimp only [Rw.V] at hc hrn HQ HCS
      clear hq hs hl2 HM2 hcs hrj hrm
      go_wp2_with fail
      refine (markInt64S_any _ lo ni q cs _ HCS.out hrn hqb.1 hqb.2).mono ?_
      rintro e w2 ⟨rfl, ho2, hg2⟩
      have HN := Lib.hid (show w2.ownsRow lo tS 1 (.slice (some ⟨g, 0, none⟩) m c) m (rws rs) ∧ ∀ r ∈ rs, ∃ cs, w2.ownsRow lo tI 1 r.V r.n cs from ⟨World.ownsRow.kept HW.out.1 hg2 (own_kinds HW.out.1 HCS.out tS_ne_tI), fun a ha => by
        obtain ⟨i, hi⟩ := List.getElem?_of_mem ha
        by_cases e : i = j
        · subst e
          rw [HRJ.out] at hi
          cases hi
          exact ⟨_, ho2⟩
        · obtain ⟨cs', h'⟩ := HW.out.2 a ha
          exact ⟨cs', World.ownsRow.kept h' hg2 (HAP.out i j _ _ hi HRJ.out e)⟩⟩)
      have HON := Lib.hid (HO.out.trans (Only.of_grown hg2 (fun x hx => ⟨(HCS.out.lt x hx).1, HI.out.2 _ HRM.out x hx⟩)))
      clear ho2 hg2
      go_wp2_with fail
      go_roundw
      case rel => exact ⟨j + 1, by omega, by go_num, int_eq (by have := HQ.out; omega), HN.out, HON.out⟩
      case measure => simp [intOf]; omega
    · obtain rfl : m = j := by omega
      have hf2 := Lib.hid (show (rs.map Rw.zs).take m = rs.map Rw.zs from List.take_of_length_le (by have := HL.out; simp; omega))
      rw [hf2.out]
      go_wp2
      go_ret
      exact ⟨rfl, HO.out⟩
theorem szM_len {zss : List (List Int)} {m : Nat} (h : szM zss ≤ 1048576) (hl : zss.length = m) : m ≤ 1048576 := by unfold szM at h; omega
theorem szM_mem {zss : List (List Int)} {zs : List Int} (h : szM zss ≤ 1048576) (hz : zs ∈ zss) : zs.length ≤ 1048576 := by
  have := sumZ_mem hz
  unfold szM at h; omega
theorem szM_at {zss : List (List Int)} {zs : List Int} {k : Nat} (h : szM zss ≤ 1048576) (hz : zss[k]? = some zs) : zs.length ≤ 1048576 := szM_mem h (List.mem_of_getElem? hz)
theorem sumZ_szM (zss : List (List Int)) : sumZ zss ≤ szM zss := by unfold szM; omega
theorem leftM_yes {k : Int} {zss : List (List Int)} (h : (szM zss : Int) ≤ k) : leftM k zss = k - szM zss := by unfold leftM; rw [if_neg (by omega)]
theorem leftM_no {k : Int} {zss : List (List Int)} (h : k < szM zss) : leftM k zss = -1 := by unfold leftM; rw [if_pos h]
attribute [irreducible] szM sumZ leftM
end Go.Proofs.Ytmfglflahlddbaa
