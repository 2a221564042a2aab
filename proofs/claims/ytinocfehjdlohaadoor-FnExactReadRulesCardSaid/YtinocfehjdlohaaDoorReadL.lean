/-
  READING A RULE: the reference's l05Read.
-/
import Derived.Test.YtinocfehjdlohaaDoorReadW
import Derived.Test.YtinocfehjdlohaaDoorRegT
import Derived.Deep.RegionWith
namespace Go.Proofs.YtinocfehjdlohaaDoor
open Go.ChangeShapes Go.WideShapes Go.ChangeAt Go.RowKit
set_option linter.unusedVariables false
set_option linter.unusedSimpArgs false

theorem digL_le (t : List UInt8) : (digL t).length ≤ 6 ∧ (digL t).length ≤ t.length ∧ (digL t).all isDg = true := by
  unfold digL
  have h1 := (List.takeWhile_prefix isDg (l := t.take 6)).length_le
  rw [List.length_take] at h1
  exact ⟨by omega, by omega, List.all_takeWhile⟩
theorem digs_facts {l : List UInt8} {n c : Nat} {v : Int} {o : Bool} (hn : n ≤ l.length) (h : digs (l.drop n) = (v, c, o)) : n + c ≤ l.length ∧ (-1000000 < v ∧ v < 1000000) ∧ (o = true → 0 < c) := by
  unfold digs at h
  simp only [Prod.mk.injEq] at h
  obtain ⟨h1, h2, h3⟩ := h
  have hN : digN (l.drop n) ≤ 1 ∧ n + digN (l.drop n) ≤ l.length := by
    unfold digN
    split
    · rename_i hh
      refine ⟨by omega, ?_⟩
      rcases Nat.lt_or_ge n l.length with h | h
      · omega
      · rw [List.drop_of_length_le h] at hh; cases hh
    · omega
  have hl := digL_le ((l.drop n).drop (digN (l.drop n)))
  rw [List.length_drop, List.length_drop] at hl
  refine ⟨by omega, ?_, fun ho => by rw [ho] at h3; have := of_decide_eq_true h3; omega⟩
  have b : ∀ t, digV (digL t) < 1000000 := fun t => digV_6 (digL_le t).2.2 (digL_le t).1
  split at h1
  · have := b ((l.drop n).drop 1); omega
  · have := b (l.drop n); omega
theorem skp_facts {l t : List UInt8} {n : Nat} (hn : n ≤ l.length) (h : ¬ skpI l n t < 0) : ∃ p : Nat, skpI l n t = (p : Int) ∧ p = n + t.length ∧ p ≤ l.length := by
  unfold skpI at h ⊢
  rw [if_neg (by omega), Int.toNat_natCast] at h ⊢
  split at h
  · rename_i hp
    rw [if_pos hp]
    rw [List.isPrefixOf_iff_prefix] at hp
    have := hp.length_le
    rw [List.length_drop] at this
    refine ⟨n + t.length, by omega, rfl, ?_⟩
    omega
  · exact absurd (by decide) h
theorem l05Digits_as {l : List UInt8} {n c : Nat} {v : Int} {o : Bool} (h : digs (l.drop n) = (v, c, o)) (w : World) (hl : l.length ≤ 1048576) (hn : n ≤ l.length) :
    Calls Tryd.prog 55 #[.string (txB l), .int .i64 n] w fun e w' => e = .returned (.tuple #[.int .i64 v, .int .i64 (n + c : Nat), .bool o]) ∧ w = w' := by
  have H := l05Digits_is l n w hl hn
  rw [h] at H
  exact H
theorem l05Skip_as {l t : List UInt8} {a b : Int} (sep : ByteArray) (h : skpI l a t = b) (ht : sep.data.toList = t) (hs : t.length ≤ 10) (w : World) (hl : l.length ≤ 1048576) (ha : -1 ≤ a ∧ a ≤ l.length) :
    Calls Tryd.prog 56 #[.string (txB l), .int .i64 a, .string sep] w fun e w' => e = .returned (.int .i64 b) ∧ w = w' := by
  have H := l05Skip_is l a sep t ht hs w hl ha
  rw [h] at H
  exact H
theorem readNum_no {l t : List UInt8} {n c : Nat} {v b : Int} {o : Bool} (h : digs (l.drop n) = (v, c, o)) (h2 : skpI l ((n + c : Nat) : Int) t = b) (hf : o = false ∨ b < 0) : readNum l n t = none := by
  unfold readNum
  rw [Int.toNat_natCast, h]
  simp only
  rw [show (n : Int) + (c : Nat) = ((n + c : Nat) : Int) by omega, h2]
  rw [if_pos]
  rcases hf with rfl | hf
  · rfl
  · simp [hf]
theorem readNum_yes {l t : List UInt8} {n c : Nat} {v b : Int} (h : digs (l.drop n) = (v, c, true)) (h2 : skpI l ((n + c : Nat) : Int) t = b) (hf : ¬ b < 0) : readNum l n t = some (v, b) := by
  unfold readNum
  rw [Int.toNat_natCast, h]
  simp only
  rw [show (n : Int) + (c : Nat) = ((n + c : Nat) : Int) by omega, h2]
  rw [if_neg]
  simp; omega
theorem l05Digits_0 {l : List UInt8} {c : Nat} {v : Int} {o : Bool} (h : digs (l.drop 0) = (v, c, o)) (w : World) (hl : l.length ≤ 1048576) :
    Calls Tryd.prog 55 #[.string (txB l), .int .i64 0] w fun e w' => e = .returned (.tuple #[.int .i64 v, .int .i64 c, .bool o]) ∧ w = w' := by
  have H := l05Digits_as h w hl (Nat.zero_le _)
  rw [Nat.zero_add] at H
  exact H
theorem readNum_no0 {l t : List UInt8} {c : Nat} {v b : Int} {o : Bool} (h : digs (l.drop 0) = (v, c, o)) (h2 : skpI l (c : Int) t = b) (hf : o = false ∨ b < 0) : readNum l 0 t = none :=
  readNum_no (n := 0) h (by rw [Nat.zero_add]; exact h2) hf
theorem readNum_yes0 {l t : List UInt8} {c : Nat} {v b : Int} (h : digs (l.drop 0) = (v, c, true)) (h2 : skpI l (c : Int) t = b) (hf : ¬ b < 0) : readNum l 0 t = some (v, b) :=
  readNum_yes (n := 0) h (by rw [Nat.zero_add]; exact h2) hf
/-- what l05Read returns -/
def RdEnds (W : World) (l : List UInt8) (E : Ending) (w' : World) : Prop :=
  ∃ (hd : Int) (A : Option Addr) (n c : Nat) (fr tt rk : Int) (zs : List Int), E = .returned (.tuple #[.agg #[.int .i64 hd, .slice A n c, .int .i64 fr, .int .i64 tt, .int .i64 rk], .bool (goodS l)]) ∧
    (goodS l = true → parseR l = ⟨hd, zs, fr, tt, rk⟩ ∧ w'.ownsRow W.heap.size tI 1 (.slice A n c) n (ints zs)) ∧ Below W.heap.size W w'
theorem goodS_no {l : List UInt8} (h : parseS l = none) : goodS l = false := by unfold goodS; rw [h]
theorem RI.two (W : World) : RI W ((W.alloc (.cells #[.int .i64 0, .slice none 0 0, .int .i64 0, .int .i64 0, .int .i64 0] 28)).alloc (.cells #[.int .i64 0, .slice none 0 0, .int .i64 0, .int .i64 0, .int .i64 0] 28)) W.heap.size (W.heap.size + 1) (W.heap.size + 2) zr := by
  have h := RI.new (W := W) (Below.refl _ (W.alloc (.cells #[.int .i64 0, .slice none 0 0, .int .i64 0, .int .i64 0, .int .i64 0] 28)))
  have e : (W.alloc (.cells #[.int .i64 0, .slice none 0 0, .int .i64 0, .int .i64 0, .int .i64 0] 28)).heap.size = W.heap.size + 1 := by simp
  rw [e] at h
  exact h
theorem readIfs_end {l : List UInt8} {f : Nat} {p : Nat} {acc : List Int} {b : Int} (h : skpI l p [61, 62, 32] = b) (hb : ¬ b < 0) : readIfs l (f + 1) p acc = some ((p : Int), acc) := by
  unfold readIfs; rw [if_pos (by rw [h]; omega)]
theorem readIfs_no {l : List UInt8} {f p c : Nat} {acc : List Int} {b v : Int} {o : Bool} (h : skpI l p [61, 62, 32] = b) (hb : b < 0) (hd : digs (l.drop p) = (v, c, o)) (hf : o = false ∨ 6 < acc.length) : readIfs l (f + 1) p acc = none := by
  unfold readIfs
  rw [if_neg (by rw [h]; omega), Int.toNat_natCast, hd, if_pos]
  rcases hf with rfl | hf
  · rfl
  · simp [hf]
theorem readIfs_go {l : List UInt8} {f p c : Nat} {acc : List Int} {b v b1 b2 : Int} (h : skpI l p [61, 62, 32] = b) (hb : b < 0) (hd : digs (l.drop p) = (v, c, true)) (hf : acc.length ≤ 6)
    (h1 : skpI l ((p + c : Nat) : Int) [32, 38, 32] = b1) (h2 : skpI l ((p + c : Nat) : Int) [32] = b2) :
    readIfs l (f + 1) p acc = if (if b1 < 0 then b2 else b1) < 0 then none else readIfs l f (if b1 < 0 then b2 else b1) (acc ++ [v]) := by
  conv => lhs; unfold readIfs
  rw [if_neg (by rw [h]; omega), Int.toNat_natCast, hd]
  simp only
  rw [if_neg (by simp; omega), show (p : Int) + (c : Nat) = ((p + c : Nat) : Int) by omega, h1, h2]
theorem AtP.drew {w : World} {p : Addr} {r : Ru} (h : AtP w p r) : AtP w.drew p r := ⟨h.c0, h.c1, h.c2, h.c3, h.c4⟩
theorem below_drew {a w : World} {B : Nat} (h : Below B a w) : Below B a w.drew := below_drewN h 1
theorem own_drew {w : World} {base : Nat} {e : TypeId} {size n : Nat} {v : Value} {xs : List Value} (h : w.ownsRow base e size v n xs) : w.drew.ownsRow base e size v n xs := own_on h (below_drew (Below.refl _ w))
set_option maxRecDepth 100000 in
set_option maxHeartbeats 2000000 in
theorem l05Read_is (l : List UInt8) (w : World) (hl : l.length ≤ 1048576) : Calls Tryd.prog 35 #[.string (txB l)] w (RdEnds w l) := by
  have TT := Lib.hid (RI.two w)
  go_enter Tryd.func35, Tryd.ntmps35
  go_wp2_with fail
  generalize ((w.alloc (.cells #[.int .i64 0, .slice none 0 0, .int .i64 0, .int .i64 0, .int .i64 0] 28)).alloc (.cells #[.int .i64 0, .slice none 0 0, .int .i64 0, .int .i64 0, .int .i64 0] 28)) = v0 at TT ⊢
  obtain ⟨v1, c1, o1, hd1⟩ : ∃ v c o, digs (l.drop 0) = (v, c, o) := ⟨_, _, _, rfl⟩
  obtain ⟨b1, hb1⟩ : ∃ b, skpI l ((c1 : Nat) : Int) [45] = b := ⟨_, rfl⟩
  have hf1 := digs_facts (by omega) hd1
  have D1 := Lib.hid hd1
  have S1 := Lib.hid hb1
  clear hd1 hb1
  go_wp2_with fail
  refine (l05Digits_0 D1.out _ hl).mono ?_
  rintro e w' ⟨rfl, rfl⟩
  go_wp2_with fail
  refine (l05Skip_as ⟨#[45]⟩ S1.out rfl (by decide) _ hl (by omega)).mono ?_
  rintro e w' ⟨rfl, rfl⟩
  cases o1
  case false =>
    have hno := readNum_no0 D1.out S1.out (.inl rfl)
    have HNO := Lib.hid hno
    clear hno
    obtain ⟨x0, x1, x2, x3, x4⟩ := TT.out.b1.box; obtain ⟨y0, y1, y2, y3, y4⟩ := TT.out.b0.box; have g0 := TT.out.b0.fz 0; have g1 := TT.out.b0.fz 1; have g2 := TT.out.b0.fz 2; have g3 := TT.out.b0.fz 3; have g4 := TT.out.b0.fz 4; (try dsimp only [zr] at x0 x1 x2 x3 x4 y0 y1 y2 y3 y4)
    go_wp2_with fail
    (
                (try simp only [Exit.inBlock, Exit.then])
                refine bodyPost_ret (v := .tuple #[.agg #[.int .i64 0, .slice none 0 0, .int .i64 0, .int .i64 0, .int .i64 0], .bool false]) (results_cell_tmp rfl _ _ rfl rfl ?_) rfl ?_
                · go_simp
                · have hgs := goodS_no (by unfold parseS; rw [HNO.out])
                  refine ⟨0, none, 0, 0, 0, 0, 0, [], by rw [hgs], (fun h => by rw [hgs] at h; cases h), ?_⟩
                  iterate 5 (refine Below.setCell ?_ (by exact Nat.le_refl _) _)
                  exact TT.out.be)
  by_cases hlt1 : b1 < 0
  · have hno := readNum_no0 D1.out S1.out (.inr hlt1)
    have HNO := Lib.hid hno
    clear hno
    obtain ⟨x0, x1, x2, x3, x4⟩ := TT.out.b1.box; obtain ⟨y0, y1, y2, y3, y4⟩ := TT.out.b0.box; have g0 := TT.out.b0.fz 0; have g1 := TT.out.b0.fz 1; have g2 := TT.out.b0.fz 2; have g3 := TT.out.b0.fz 3; have g4 := TT.out.b0.fz 4; (try dsimp only [zr] at x0 x1 x2 x3 x4 y0 y1 y2 y3 y4)
    go_wp2_with fail
    (
                (try simp only [Exit.inBlock, Exit.then])
                refine bodyPost_ret (v := .tuple #[.agg #[.int .i64 0, .slice none 0 0, .int .i64 0, .int .i64 0, .int .i64 0], .bool false]) (results_cell_tmp rfl _ _ rfl rfl ?_) rfl ?_
                · go_simp
                · have hgs := goodS_no (by unfold parseS; rw [HNO.out])
                  refine ⟨0, none, 0, 0, 0, 0, 0, [], by rw [hgs], (fun h => by rw [hgs] at h; cases h), ?_⟩
                  iterate 5 (refine Below.setCell ?_ (by exact Nat.le_refl _) _)
                  exact TT.out.be)
  have R1 := Lib.hid (readNum_yes0 D1.out S1.out hlt1)
  obtain ⟨p1, hp1, -, hpl1⟩ := skp_facts (l := l) (t := [45]) (n := c1) (by omega) (by rw [S1.out]; exact hlt1)
  rw [S1.out] at hp1
  subst hp1
  have P1 : parseS l = match readNum l p1 [32, 114] with
    | none => none
    | some (t, a2) => match readNum l a2 [58, 32] with
      | none => none
      | some (k, a3) => match readIfs l 8 a3 [] with
        | none => none
        | some (a4, zs) => some (⟨(digs (l.drop (a4 + 3).toNat)).1, zs, v1, t, k⟩, (digs (l.drop (a4 + 3).toNat)).2.2) := by
    unfold parseS; rw [R1.out]; rfl
  have HP1 := Lib.hid P1
  clear P1 R1
  obtain ⟨v2, c2, o2, hd2⟩ : ∃ v c o, digs (l.drop p1) = (v, c, o) := ⟨_, _, _, rfl⟩
  obtain ⟨b2, hb2⟩ : ∃ b, skpI l ((p1 + c2 : Nat) : Int) [32, 114] = b := ⟨_, rfl⟩
  have hf2 := digs_facts (by omega) hd2
  have D2 := Lib.hid hd2
  have S2 := Lib.hid hb2
  clear hd2 hb2
  go_wp2_with fail
  refine (l05Digits_as D2.out _ hl (by omega)).mono ?_
  rintro e w' ⟨rfl, rfl⟩
  go_wp2_with fail
  refine (l05Skip_as ⟨#[32, 114]⟩ S2.out rfl (by decide) _ hl (by omega)).mono ?_
  rintro e w' ⟨rfl, rfl⟩
  cases o2
  case false =>
    have hno := readNum_no D2.out S2.out (.inl rfl)
    have HNO := Lib.hid hno
    clear hno
    obtain ⟨x0, x1, x2, x3, x4⟩ := TT.out.b1.box; obtain ⟨y0, y1, y2, y3, y4⟩ := TT.out.b0.box; have g0 := TT.out.b0.fz 0; have g1 := TT.out.b0.fz 1; have g2 := TT.out.b0.fz 2; have g3 := TT.out.b0.fz 3; have g4 := TT.out.b0.fz 4; (try dsimp only [zr] at x0 x1 x2 x3 x4 y0 y1 y2 y3 y4)
    go_wp2_with fail
    (
                (try simp only [Exit.inBlock, Exit.then])
                refine bodyPost_ret (v := .tuple #[.agg #[.int .i64 0, .slice none 0 0, .int .i64 0, .int .i64 0, .int .i64 0], .bool false]) (results_cell_tmp rfl _ _ rfl rfl ?_) rfl ?_
                · go_simp
                · have hgs := goodS_no (by rw [HP1.out, HNO.out])
                  refine ⟨0, none, 0, 0, 0, 0, 0, [], by rw [hgs], (fun h => by rw [hgs] at h; cases h), ?_⟩
                  iterate 5 (refine Below.setCell ?_ (by exact Nat.le_refl _) _)
                  exact TT.out.be)
  by_cases hlt2 : b2 < 0
  · have hno := readNum_no D2.out S2.out (.inr hlt2)
    have HNO := Lib.hid hno
    clear hno
    obtain ⟨x0, x1, x2, x3, x4⟩ := TT.out.b1.box; obtain ⟨y0, y1, y2, y3, y4⟩ := TT.out.b0.box; have g0 := TT.out.b0.fz 0; have g1 := TT.out.b0.fz 1; have g2 := TT.out.b0.fz 2; have g3 := TT.out.b0.fz 3; have g4 := TT.out.b0.fz 4; (try dsimp only [zr] at x0 x1 x2 x3 x4 y0 y1 y2 y3 y4)
    go_wp2_with fail
    (
                (try simp only [Exit.inBlock, Exit.then])
                refine bodyPost_ret (v := .tuple #[.agg #[.int .i64 0, .slice none 0 0, .int .i64 0, .int .i64 0, .int .i64 0], .bool false]) (results_cell_tmp rfl _ _ rfl rfl ?_) rfl ?_
                · go_simp
                · have hgs := goodS_no (by rw [HP1.out, HNO.out])
                  refine ⟨0, none, 0, 0, 0, 0, 0, [], by rw [hgs], (fun h => by rw [hgs] at h; cases h), ?_⟩
                  iterate 5 (refine Below.setCell ?_ (by exact Nat.le_refl _) _)
                  exact TT.out.be)
  have R2 := Lib.hid (readNum_yes D2.out S2.out hlt2)
  obtain ⟨p2, hp2, -, hpl2⟩ := skp_facts (l := l) (t := [32, 114]) (n := p1 + c2) (by omega) (by rw [S2.out]; exact hlt2)
  rw [S2.out] at hp2
  subst hp2
  have P2 : parseS l = match readNum l p2 [58, 32] with
      | none => none
      | some (k, a3) => match readIfs l 8 a3 [] with
        | none => none
        | some (a4, zs) => some (⟨(digs (l.drop (a4 + 3).toNat)).1, zs, v1, v2, k⟩, (digs (l.drop (a4 + 3).toNat)).2.2) := by
    rw [HP1.out, R2.out]
  have HP2 := Lib.hid P2
  clear P2 R2 HP1
  obtain ⟨v3, c3, o3, hd3⟩ : ∃ v c o, digs (l.drop p2) = (v, c, o) := ⟨_, _, _, rfl⟩
  obtain ⟨b3, hb3⟩ : ∃ b, skpI l ((p2 + c3 : Nat) : Int) [58, 32] = b := ⟨_, rfl⟩
  have hf3 := digs_facts (by omega) hd3
  have D3 := Lib.hid hd3
  have S3 := Lib.hid hb3
  clear hd3 hb3
  go_wp2_with fail
  refine (l05Digits_as D3.out _ hl (by omega)).mono ?_
  rintro e w' ⟨rfl, rfl⟩
  go_wp2_with fail
  refine (l05Skip_as ⟨#[58, 32]⟩ S3.out rfl (by decide) _ hl (by omega)).mono ?_
  rintro e w' ⟨rfl, rfl⟩
  cases o3
  case false =>
    have hno := readNum_no D3.out S3.out (.inl rfl)
    have HNO := Lib.hid hno
    clear hno
    obtain ⟨x0, x1, x2, x3, x4⟩ := TT.out.b1.box; obtain ⟨y0, y1, y2, y3, y4⟩ := TT.out.b0.box; have g0 := TT.out.b0.fz 0; have g1 := TT.out.b0.fz 1; have g2 := TT.out.b0.fz 2; have g3 := TT.out.b0.fz 3; have g4 := TT.out.b0.fz 4; (try dsimp only [zr] at x0 x1 x2 x3 x4 y0 y1 y2 y3 y4)
    go_wp2_with fail
    (
                (try simp only [Exit.inBlock, Exit.then])
                refine bodyPost_ret (v := .tuple #[.agg #[.int .i64 0, .slice none 0 0, .int .i64 0, .int .i64 0, .int .i64 0], .bool false]) (results_cell_tmp rfl _ _ rfl rfl ?_) rfl ?_
                · go_simp
                · have hgs := goodS_no (by rw [HP2.out, HNO.out])
                  refine ⟨0, none, 0, 0, 0, 0, 0, [], by rw [hgs], (fun h => by rw [hgs] at h; cases h), ?_⟩
                  iterate 5 (refine Below.setCell ?_ (by exact Nat.le_refl _) _)
                  exact TT.out.be)
  by_cases hlt3 : b3 < 0
  · have hno := readNum_no D3.out S3.out (.inr hlt3)
    have HNO := Lib.hid hno
    clear hno
    obtain ⟨x0, x1, x2, x3, x4⟩ := TT.out.b1.box; obtain ⟨y0, y1, y2, y3, y4⟩ := TT.out.b0.box; have g0 := TT.out.b0.fz 0; have g1 := TT.out.b0.fz 1; have g2 := TT.out.b0.fz 2; have g3 := TT.out.b0.fz 3; have g4 := TT.out.b0.fz 4; (try dsimp only [zr] at x0 x1 x2 x3 x4 y0 y1 y2 y3 y4)
    go_wp2_with fail
    (
                (try simp only [Exit.inBlock, Exit.then])
                refine bodyPost_ret (v := .tuple #[.agg #[.int .i64 0, .slice none 0 0, .int .i64 0, .int .i64 0, .int .i64 0], .bool false]) (results_cell_tmp rfl _ _ rfl rfl ?_) rfl ?_
                · go_simp
                · have hgs := goodS_no (by rw [HP2.out, HNO.out])
                  refine ⟨0, none, 0, 0, 0, 0, 0, [], by rw [hgs], (fun h => by rw [hgs] at h; cases h), ?_⟩
                  iterate 5 (refine Below.setCell ?_ (by exact Nat.le_refl _) _)
                  exact TT.out.be)
  have R3 := Lib.hid (readNum_yes D3.out S3.out hlt3)
  obtain ⟨p3, hp3, -, hpl3⟩ := skp_facts (l := l) (t := [58, 32]) (n := p2 + c3) (by omega) (by rw [S3.out]; exact hlt3)
  rw [S3.out] at hp3
  subst hp3
  have P3 : parseS l = match readIfs l 8 p3 [] with
        | none => none
        | some (a4, zs) => some (⟨(digs (l.drop (a4 + 3).toNat)).1, zs, v1, v2, v3⟩, (digs (l.drop (a4 + 3).toNat)).2.2) := by
    rw [HP2.out, R3.out]
  have HP3 := Lib.hid P3
  clear P3 R3 HP2
  obtain ⟨x0, x1, x2, x3, x4⟩ := TT.out.b1.box
  have f0 := TT.out.b1.fz 0; have f1 := TT.out.b1.fz 1; have f2 := TT.out.b1.fz 2; have f3 := TT.out.b1.fz 3; have f4 := TT.out.b1.fz 4
  dsimp only [zr] at x0 x1 x2 x3 x4
  have H2 := TT.out.set2 v1
  have H3 := H2.set3 v2
  have H4 := H3.set4 v3
  have TS := Lib.hid H4
  clear H2 H3 H4
  go_wp2_with fail
  clear x0 x1 x2 x3 x4 TT hf1 hf2 hf3 f0 f1 f2 f3 f4
  dsimp only [zr] at TS
  generalize ((v0.setCell ⟨w.heap.size + 1, 2, none⟩ (.int .i64 v1)).setCell ⟨w.heap.size + 1, 3, none⟩ (.int .i64 v2)).setCell ⟨w.heap.size + 1, 4, none⟩ (.int .i64 v3) = vs at TS ⊢
  clear D1 D2 D3 S1 S2 S3 hlt1 hlt2 hlt3
  go_loopw [6, 14, 15, 16] (fun v _ _ _ wr => ∃ (p f n c : Nat) (A : Option Addr) (acc : List Int), p ≤ l.length ∧ v = .int .i64 p ∧ (n ≤ acc.length ∧ acc.length ≤ n) ∧ (7 ≤ n + f ∧ n ≤ 7) ∧ I64s acc ∧ readIfs l 8 p3 [] = readIfs l (f + 1) p acc ∧
      RI w wr w.heap.size (w.heap.size + 1) (w.heap.size + 2) ⟨0, v1, v2, v3, A, n, c, acc⟩ ∧ wr.ownsRow (w.heap.size + 2) tI 1 (.slice A n c) n (ints acc)) (fun v _ _ _ _ => l.length - (intOf v).toNat)
  case atStart => exact ⟨p3, 7, 0, 0, none, [], hpl3, rfl, ⟨Nat.le_refl _, Nat.le_refl _⟩, ⟨Nat.le_refl _, Nat.zero_le _⟩, (fun z hz => by cases hz), rfl, TS.out, World.ownsRow_nil _ _ _ _⟩
  case round =>
    clear TS
    obtain ⟨p, f, n, c, A, acc, hp, rfl, ⟨hn1, hn2⟩, ⟨hf, h8⟩, hI, hR, hRI, hO⟩ := hrel
    have HI := Lib.hid hI
    have HN8 := Lib.hid h8
    clear hI h8
    have TT := Lib.hid hRI
    have HR := Lib.hid hR
    have HO := Lib.hid hO
    obtain ⟨b0, hb0⟩ : ∃ b, skpI l p [61, 62, 32] = b := ⟨_, rfl⟩
    have S0 := Lib.hid hb0
    clear hRI hR hO hb0
    go_wp2_with fail
    refine (l05Skip_as ⟨#[61, 62, 32]⟩ S0.out rfl (by decide) _ hl (by omega)).mono ?_
    rintro e w' ⟨rfl, rfl⟩
    by_cases hb0 : b0 < 0
    · obtain ⟨x, k, o, hd⟩ : ∃ v c o, digs (l.drop p) = (v, c, o) := ⟨_, _, _, rfl⟩
      have D := Lib.hid hd
      have hfx := digs_facts (by omega) hd
      clear hd
      go_wp2_with fail
      refine (l05Digits_as D.out _ hl (by omega)).mono ?_
      rintro e w' ⟨rfl, rfl⟩
      cases o
      case false =>
        have hno := readIfs_no (f := f) (acc := acc) S0.out hb0 D.out (.inl rfl)
        have HNO := Lib.hid hno
        clear hno
        obtain ⟨x0, x1, x2, x3, x4⟩ := TT.out.b1.box; obtain ⟨y0, y1, y2, y3, y4⟩ := TT.out.b0.box; have g0 := TT.out.b0.fz 0; have g1 := TT.out.b0.fz 1; have g2 := TT.out.b0.fz 2; have g3 := TT.out.b0.fz 3; have g4 := TT.out.b0.fz 4; (try dsimp only [zr] at x0 x1 x2 x3 x4 y0 y1 y2 y3 y4)
        go_wp2_with fail
        (
                (try simp only [Exit.inBlock, Exit.then])
                refine bodyPost_ret (v := .tuple #[.agg #[.int .i64 0, .slice A n c, .int .i64 v1, .int .i64 v2, .int .i64 v3], .bool false]) (results_cell_tmp rfl _ _ rfl rfl ?_) rfl ?_
                · go_simp
                · have hgs := goodS_no (by rw [HP3.out, HR.out, HNO.out])
                  refine ⟨0, A, n, c, v1, v2, v3, [], by rw [hgs], (fun h => by rw [hgs] at h; cases h), ?_⟩
                  iterate 5 (refine Below.setCell ?_ (by exact Nat.le_refl _) _)
                  exact TT.out.be)
      by_cases hn6 : 6 < n
      · have hno := readIfs_no (f := f) (acc := acc) S0.out hb0 D.out (.inr (by omega))
        have HNO := Lib.hid hno
        have hn6i : (6 : Int) < n := by omega
        clear hno
        obtain ⟨x0, x1, x2, x3, x4⟩ := TT.out.b1.box; obtain ⟨y0, y1, y2, y3, y4⟩ := TT.out.b0.box; have g0 := TT.out.b0.fz 0; have g1 := TT.out.b0.fz 1; have g2 := TT.out.b0.fz 2; have g3 := TT.out.b0.fz 3; have g4 := TT.out.b0.fz 4; (try dsimp only [zr] at x0 x1 x2 x3 x4 y0 y1 y2 y3 y4)
        go_wp2_with fail
        (
                (try simp only [Exit.inBlock, Exit.then])
                refine bodyPost_ret (v := .tuple #[.agg #[.int .i64 0, .slice A n c, .int .i64 v1, .int .i64 v2, .int .i64 v3], .bool false]) (results_cell_tmp rfl _ _ rfl rfl ?_) rfl ?_
                · go_simp
                · have hgs := goodS_no (by rw [HP3.out, HR.out, HNO.out])
                  refine ⟨0, A, n, c, v1, v2, v3, [], by rw [hgs], (fun h => by rw [hgs] at h; cases h), ?_⟩
                  iterate 5 (refine Below.setCell ?_ (by exact Nat.le_refl _) _)
                  exact TT.out.be)
      have hn6i : ¬ (6 : Int) < n := by omega
      have hn7 : n + 1 ≤ 4194304 := by omega
      obtain ⟨f, rfl⟩ : ∃ f', f = f' + 1 := ⟨f - 1, by omega⟩
      obtain ⟨b1, hb1⟩ : ∃ b, skpI l ((p + k : Nat) : Int) [32, 38, 32] = b := ⟨_, rfl⟩
      obtain ⟨b2, hb2⟩ : ∃ b, skpI l ((p + k : Nat) : Int) [32] = b := ⟨_, rfl⟩
      have HGO := Lib.hid (readIfs_go (f := f + 1) (acc := acc) S0.out hb0 D.out (by omega) hb1 hb2)
      have S1 := Lib.hid hb1
      have S2 := Lib.hid hb2
      have HI3 := Lib.hid (show I64s (acc ++ [x]) from fun z hz => by
        rcases List.mem_append.1 hz with h | h
        · exact HI.out z h
        · rw [List.mem_singleton.1 h]; omega)
      have hpk := hfx.1
      have hk0 := hfx.2.2 rfl
      obtain ⟨q, hq⟩ : ∃ q, q = p + k := ⟨_, rfl⟩
      rw [← hq] at S1 S2 hpk ⊢
      have hqi : p < q := by omega
      have hbs := TT.out.lb
      have HAPP := Lib.hid (fun (v' : Value) (w' : World) (ho : w'.ownsRow (w.heap.size + 2) tI 1 v' (n + 1) (ints (acc ++ [x]))) (hg : (wr.alloc (.cells #[.int .i64 x] 2)).grownBy w' (Value.slice A n c).ownBlock) => show ∃ A' c', v' = .slice A' (n + 1) c' ∧ RI w w' w.heap.size (w.heap.size + 1) (w.heap.size + 2) ⟨0, v1, v2, v3, A, n, c, acc⟩ from by
        obtain ⟨A', c', hv', _⟩ := own_form ho
        exact ⟨A', c', hv', (TT.out.on (Below.alloc (Below.refl wr.heap.size wr) (Nat.le_refl _) _)).grow hg fun q hq => (HO.out.lt q hq).1⟩)
      have HBA := Lib.hid (show w.heap.size + 2 ≤ (wr.alloc (.cells #[.int .i64 x] 2)).heap.size by rw [World.size_alloc]; omega)
      have HO4 := Lib.hid (HO.out.alloc (.cells #[.int .i64 x] 2))
      have x1 := TT.out.b1.box.c1
      dsimp only at x1
      clear hb1 hb2 hq hbs hfx
      go_wp2_with (at_builtin; go_loud (refine append_int_g rfl (.tmp 98) (.tmp 100) rfl (w.heap.size + 2) HBA.out _ n _ rfl HO4.out _ _ x rfl (cell_new _ _ _) hn7 ?_; intro v' w' ho2 hg2; obtain ⟨A', c', hv', L3⟩ := HAPP.out v' w' ho2 hg2; subst hv'; have y2 := L3.b1.box.c1; have f2 := L3.b1.fz 1; dsimp only at y2; have HL3 := Lib.hid (L3.set1 A' (n + 1) c' (acc ++ [x])); have HO3 := Lib.hid (own_set (g := w.heap.size + 1) (o := 1) (u := .slice A' (n + 1) c') ho2 (Nat.lt_succ_self _)); clear L3 ho2 hg2))
      refine (l05Skip_as ⟨#[32, 38, 32]⟩ S1.out rfl (by decide) _ hl (by omega)).mono ?_
      rintro e w5 ⟨rfl, rfl⟩
      generalize w'.setCell ⟨w.heap.size + 1, 1, none⟩ (.slice A' (n + 1) c') = wx at HL3 HO3 ⊢
      clear y2 f2 x1 HO4 HBA HAPP HO TT
      have TT := HL3
      by_cases hb1 : b1 < 0
      · go_wp2_with fail
        refine (l05Skip_as ⟨#[32]⟩ S2.out rfl (by decide) _ hl (by omega)).mono ?_
        rintro e w6 ⟨rfl, rfl⟩
        by_cases hb2 : b2 < 0
        · have HNO := Lib.hid (show readIfs l (f + 1 + 1) p acc = none by rw [HGO.out, if_pos hb1, if_pos hb2])
          obtain ⟨x0, x1, x2, x3, x4⟩ := TT.out.b1.box; obtain ⟨y0, y1, y2, y3, y4⟩ := TT.out.b0.box; have g0 := TT.out.b0.fz 0; have g1 := TT.out.b0.fz 1; have g2 := TT.out.b0.fz 2; have g3 := TT.out.b0.fz 3; have g4 := TT.out.b0.fz 4; (try dsimp only [zr] at x0 x1 x2 x3 x4 y0 y1 y2 y3 y4)
          go_wp2_with fail
          (
                (try simp only [Exit.inBlock, Exit.then])
                refine bodyPost_ret (v := .tuple #[.agg #[.int .i64 0, .slice A' (n + 1) c', .int .i64 v1, .int .i64 v2, .int .i64 v3], .bool false]) (results_cell_tmp rfl _ _ rfl rfl ?_) rfl ?_
                · go_simp
                · have hgs := goodS_no (by rw [HP3.out, HR.out, HNO.out])
                  refine ⟨0, A', (n + 1), c', v1, v2, v3, [], by rw [hgs], (fun h => by rw [hgs] at h; cases h), ?_⟩
                  iterate 5 (refine Below.setCell ?_ (by exact Nat.le_refl _) _)
                  exact TT.out.be)
        · (
                obtain ⟨pn, hpn, hpe, hpl⟩ := skp_facts (l := l) (t := [32]) (n := q) hpk (by rw [S2.out]; exact hb2)
                rw [S2.out] at hpn
                have HPN := Lib.hid hpn
                have HRN := Lib.hid (show readIfs l 8 p3 [] = readIfs l (f + 1) pn (acc ++ [x]) by
                  rw [HR.out, HGO.out, if_pos hb1, if_neg hb2, HPN.out])
                have hqp : q < pn := by simp at hpe; omega
                clear hpe hpn
                have hbe : (b2 : Int) = pn := HPN.out
                subst hbe
                clear HR HGO S1 S2 HPN
                go_wp2_with fail
                go_roundw
                case rel => exact ⟨pn, f, n + 1, c', A', acc ++ [x], hpl, rfl, ⟨by simp; omega, by simp; omega⟩, ⟨by omega, by omega⟩, HI3.out, HRN.out, HL3.out, HO3.out⟩
                case measure => simp [intOf]; omega)
      · (
                obtain ⟨pn, hpn, hpe, hpl⟩ := skp_facts (l := l) (t := [32, 38, 32]) (n := q) hpk (by rw [S1.out]; exact hb1)
                rw [S1.out] at hpn
                have HPN := Lib.hid hpn
                have HRN := Lib.hid (show readIfs l 8 p3 [] = readIfs l (f + 1) pn (acc ++ [x]) by
                  rw [HR.out, HGO.out, if_neg hb1, if_neg hb1, HPN.out])
                have hqp : q < pn := by simp at hpe; omega
                clear hpe hpn
                have hbe : (b1 : Int) = pn := HPN.out
                subst hbe
                clear HR HGO S1 S2 HPN
                go_wp2_with fail
                go_roundw
                case rel => exact ⟨pn, f, n + 1, c', A', acc ++ [x], hpl, rfl, ⟨by simp; omega, by simp; omega⟩, ⟨by omega, by omega⟩, HI3.out, HRN.out, HL3.out, HO3.out⟩
                case measure => simp [intOf]; omega)
    · have HE := Lib.hid (readIfs_end (f := f) (acc := acc) S0.out hb0)
      obtain ⟨q, hq1, hq2, hql⟩ := skp_facts (l := l) (t := [61, 62, 32]) hp (by rw [S0.out]; exact hb0)
      have hq3 : (p : Int) + 3 = q := by simp at hq2; omega
      have HQ3 := Lib.hid (show ((p : Int) + 3).toNat = q by omega)
      clear hq1 hq2
      obtain ⟨vh, k, o, hd⟩ : ∃ v c o, digs (l.drop q) = (v, c, o) := ⟨_, _, _, rfl⟩
      have D := Lib.hid hd
      have hfx := digs_facts (by omega) hd
      clear hd
      have HP4 := Lib.hid (show parseS l = some (⟨vh, acc, v1, v2, v3⟩, o) by
        rw [HP3.out, HR.out, HE.out]; simp only; rw [HQ3.out, D.out])
      clear HP3 HR HE S0
      go_wp2_with fail
      refine (l05Digits_as D.out _ hl hql).mono ?_
      rintro e w' ⟨rfl, rfl⟩
      obtain ⟨x0, x1, x2, x3, x4⟩ := TT.out.b1.box; obtain ⟨y0, y1, y2, y3, y4⟩ := TT.out.b0.box; have g0 := TT.out.b0.fz 0; have g1 := TT.out.b0.fz 1; have g2 := TT.out.b0.fz 2; have g3 := TT.out.b0.fz 3; have g4 := TT.out.b0.fz 4; (try dsimp only [zr] at x0 x1 x2 x3 x4 y0 y1 y2 y3 y4)
      have f0 := TT.out.b1.fz 0
      have HZ := Lib.hid (TT.out.set0 vh)
      have HO5 := Lib.hid (own_set (g := w.heap.size + 1) (o := 0) (u := .int .i64 vh) HO.out (Nat.lt_succ_self _))
      go_wp2_with fail
      clear x0 x1 x2 x3 x4 y0 y1 y2 y3 y4 g0 g1 g2 g3 g4 f0 TT HO
      generalize wr.setCell ⟨w.heap.size + 1, 0, none⟩ (.int .i64 vh) = wN at HZ HO5 ⊢
      have TT : Hid (RI w wN w.heap.size (w.heap.size + 1) (w.heap.size + 2) ⟨vh, v1, v2, v3, A, n, c, acc⟩) := HZ
      clear HZ hb0 hq3 HQ3 D
      refine wp_region_T (fun w' => Box w' (w.heap.size + 1) ⟨vh, v1, v2, v3, A, n, c, acc⟩) [10] (by kernel_rfl) ?_
      have TD := Lib.hid (TT.out.on (below_drew (Below.refl _ wN)))
      have OD := Lib.hid (own_drew HO5.out)
      generalize wN.drew = wD at TD OD ⊢
      clear TT HO5
      have HST := Lib.hid TD.out.b1.box
      have HLL := Lib.hid (show w.heap.size < w.heap.size + 2 by omega)
      (refine wpAnyT_take (i := 1) (v := _) rfl (by kernel_rfl) (by kernel_rfl) (by kernel_rfl) (by kernel_rfl) (fun _ _ _ h => h) (fun _ => HST.out) (Or.inl ⟨by rfl, by (intro w3; go_simp; try with_reducible rfl)⟩) ?_; (try simp only [Act.put, List.setIfInBounds_toArray, List.set_cons_zero, List.set_cons_succ]))
      (refine wpAnyT_take (i := 2) (v := _) rfl (by kernel_rfl) (by kernel_rfl) (by kernel_rfl) (by kernel_rfl) (fun _ _ _ h => h) (fun _ => HST.out) (Or.inl ⟨by rfl, by (intro w3; go_simp; try with_reducible rfl)⟩) ?_; (try simp only [Act.put, List.setIfInBounds_toArray, List.set_cons_zero, List.set_cons_succ]))
      (refine wpAnyT_load (i := 0) (v := _) rfl (by kernel_rfl) (by kernel_rfl) (by kernel_rfl) (by kernel_rfl) (by kernel_rfl) (by kernel_rfl) (fun _ _ _ h => h) HST.out (Or.inl ⟨by rfl, by (intro w3 hw; have e0 := hw.c0; have e1 := hw.c1; have e2 := hw.c2; have e3 := hw.c3; have e4 := hw.c4; dsimp only at e0 e1 e2 e3 e4; go_simp; try with_reducible rfl)⟩) ?_; (try simp only [Act.put, List.setIfInBounds_toArray, List.set_cons_zero, List.set_cons_succ]))
      cases o
      case false =>
        have HFIN := Lib.hid (show goodS l = false by unfold goodS; rw [HP4.out]; rfl)
        (refine wpAnyT_ready (rs := [3]) (by kernel_rfl) (by simp) ?_; refine AllT.cons rfl (fun K hK => ?_) AllT.nil; go_simp; refine hK.out _ _ (fun _ => HST.out) ?_; clear hK K; (try simp only [Act.put, List.setIfInBounds_toArray, List.set_cons_zero, List.set_cons_succ]))
        (refine wpAnyT_take (i := 4) (v := _) rfl (by kernel_rfl) (by kernel_rfl) (by kernel_rfl) (by kernel_rfl) (fun _ _ _ h => h) (fun _ => HST.out) (Or.inl ⟨by rfl, by (intro w3; go_simp; try with_reducible rfl)⟩) ?_; (try simp only [Act.put, List.setIfInBounds_toArray, List.set_cons_zero, List.set_cons_succ]))
        (refine wpAnyT_take (i := 5) (v := _) rfl (by kernel_rfl) (by kernel_rfl) (by kernel_rfl) (by kernel_rfl) (fun _ _ _ h => h) (fun _ => HST.out) (Or.inl ⟨by rfl, by (intro w3; go_simp; try with_reducible rfl)⟩) ?_; (try simp only [Act.put, List.setIfInBounds_toArray, List.set_cons_zero, List.set_cons_succ]))
        (refine wpAnyT_take (i := 7) (v := _) rfl (by kernel_rfl) (by kernel_rfl) (by kernel_rfl) (by kernel_rfl) (fun _ _ _ h => h) (fun _ => HST.out) (Or.inr ⟨by rfl, rfl⟩) ?_; (try simp only [Act.put, List.setIfInBounds_toArray, List.set_cons_zero, List.set_cons_succ]))
        (refine wpAnyT_ready (rs := [6]) (by kernel_rfl) (by simp) ?_; refine AllT.cons rfl (fun K hK => ?_) AllT.nil; go_simp; refine hK.out _ _ (fun _ => HST.out) ?_; clear hK K; (try simp only [Act.put, List.setIfInBounds_toArray, List.set_cons_zero, List.set_cons_succ]))
        (refine wpAnyT_take (i := 8) (v := _) rfl (by kernel_rfl) (by kernel_rfl) (by kernel_rfl) (by kernel_rfl) (fun _ _ _ h => h) (fun _ => HST.out) (Or.inr ⟨by rfl, rfl⟩) ?_; (try simp only [Act.put, List.setIfInBounds_toArray, List.set_cons_zero, List.set_cons_succ]))
        (refine wpAnyT_take (i := 9) (v := _) rfl (by kernel_rfl) (by kernel_rfl) (by kernel_rfl) (by kernel_rfl) (fun _ _ _ h => h) (fun _ => HST.out) (Or.inl ⟨by rfl, by (intro w3; go_simp; try with_reducible rfl)⟩) ?_; (try simp only [Act.put, List.setIfInBounds_toArray, List.set_cons_zero, List.set_cons_succ]))
        obtain ⟨y0, y1, y2, y3, y4⟩ := TD.out.b0.box; have g0 := TD.out.b0.fz 0; have g1 := TD.out.b0.fz 1; have g2 := TD.out.b0.fz 2; have g3 := TD.out.b0.fz 3; have g4 := TD.out.b0.fz 4; (try dsimp only [zr] at y0 y1 y2 y3 y4)
        (refine wpAnyT_ready (rs := [10]) (by kernel_rfl) (by simp) ?_; refine AllT.cons rfl (fun K hK => ?_) AllT.nil; go_simp; refine hK.out _ _ (fun h => absurd h (by simp [noSt])) ?_; clear hK K; (try simp only [Act.put, List.setIfInBounds_toArray, List.set_cons_zero, List.set_cons_succ]))
        (refine wpAnyT_ready (rs := [11]) (by kernel_rfl) (by simp) ?_; refine AllT.cons rfl (fun K hK => ?_) AllT.nil; go_simp; refine hK.out _ _ (fun h => absurd h (by simp [noSt])) ?_; clear hK K; (try simp only [Act.put, List.setIfInBounds_toArray, List.set_cons_zero, List.set_cons_succ]))
        refine wpAnyT_done (by kernel_rfl) ?_ _
        (
          go_wp2_with fail
          (try simp only [Exit.inBlock, Exit.then])
          refine bodyPost_ret (v := .tuple #[.agg #[.int .i64 vh, .slice A n c, .int .i64 v1, .int .i64 v2, .int .i64 v3], .bool false]) (results_cell_tmp rfl _ _ rfl rfl ?_) rfl ?_
          · go_simp
          · refine ⟨vh, A, n, c, v1, v2, v3, acc, by rw [HFIN.out], fun h => ⟨parseS_good HP4.out h, ?_⟩, ?_⟩
            · refine own_base (base := w.heap.size + 2) ?_ (by omega)
              iterate 5 (refine own_far ?_ HLL.out _)
              exact OD.out
            · iterate 5 (refine Below.setCell ?_ (by exact Nat.le_refl _) _)
              exact TD.out.be)
      have hnn : n ≤ 1048576 := by have := HN8.out; omega
      cases hv : validB ⟨vh, acc, v1, v2, v3⟩
      · have HFIN := Lib.hid (show goodS l = false by unfold goodS; rw [HP4.out]; simp only; rw [hv]; rfl)
        have HV := Lib.hid hv
        clear hv
        refine wpAnyT_ready (rs := [3]) (by kernel_rfl) (by simp) ?_
        refine AllT.cons rfl (fun K hK => ?_) AllT.nil
        go_simp
        go_wp2_with fail
        refine (l05Rule_is ⟨w.heap.size + 1, 0, none⟩ ⟨vh, v1, v2, v3, A, n, c, acc⟩ _ (AtP.box TD.out.b1.box) (Rd.of_own OD.out) hnn HI.out HV.out).mono ?_
        rintro e w2 ⟨rfl, j, rfl⟩
        have TJ := Lib.hid (TD.out.on (below_drewN (Below.refl _ wD) j))
        have OJ := Lib.hid (own_drewN OD.out j)
        generalize wD.drewN j = wJ at TJ OJ ⊢
        clear HST TD OD
        have HST := Lib.hid TJ.out.b1.box
        go_simp
        refine hK.out _ _ (fun _ => HST.out) ?_
        clear hK K
        (try simp only [Act.put, List.setIfInBounds_toArray, List.set_cons_zero, List.set_cons_succ])
        (refine wpAnyT_take (i := 4) (v := _) rfl (by kernel_rfl) (by kernel_rfl) (by kernel_rfl) (by kernel_rfl) (fun _ _ _ h => h) (fun _ => HST.out) (Or.inl ⟨by rfl, by (intro w3; go_simp; try with_reducible rfl)⟩) ?_; (try simp only [Act.put, List.setIfInBounds_toArray, List.set_cons_zero, List.set_cons_succ]))
        (refine wpAnyT_take (i := 5) (v := _) rfl (by kernel_rfl) (by kernel_rfl) (by kernel_rfl) (by kernel_rfl) (fun _ _ _ h => h) (fun _ => HST.out) (Or.inl ⟨by rfl, by (intro w3; go_simp; try with_reducible rfl)⟩) ?_; (try simp only [Act.put, List.setIfInBounds_toArray, List.set_cons_zero, List.set_cons_succ]))
        (refine wpAnyT_take (i := 7) (v := _) rfl (by kernel_rfl) (by kernel_rfl) (by kernel_rfl) (by kernel_rfl) (fun _ _ _ h => h) (fun _ => HST.out) (Or.inr ⟨by rfl, rfl⟩) ?_; (try simp only [Act.put, List.setIfInBounds_toArray, List.set_cons_zero, List.set_cons_succ]))
        (refine wpAnyT_ready (rs := [6]) (by kernel_rfl) (by simp) ?_; refine AllT.cons rfl (fun K hK => ?_) AllT.nil; go_simp; refine hK.out _ _ (fun _ => HST.out) ?_; clear hK K; (try simp only [Act.put, List.setIfInBounds_toArray, List.set_cons_zero, List.set_cons_succ]))
        (refine wpAnyT_take (i := 8) (v := _) rfl (by kernel_rfl) (by kernel_rfl) (by kernel_rfl) (by kernel_rfl) (fun _ _ _ h => h) (fun _ => HST.out) (Or.inr ⟨by rfl, rfl⟩) ?_; (try simp only [Act.put, List.setIfInBounds_toArray, List.set_cons_zero, List.set_cons_succ]))
        (refine wpAnyT_take (i := 9) (v := _) rfl (by kernel_rfl) (by kernel_rfl) (by kernel_rfl) (by kernel_rfl) (fun _ _ _ h => h) (fun _ => HST.out) (Or.inl ⟨by rfl, by (intro w3; go_simp; try with_reducible rfl)⟩) ?_; (try simp only [Act.put, List.setIfInBounds_toArray, List.set_cons_zero, List.set_cons_succ]))
        obtain ⟨y0, y1, y2, y3, y4⟩ := TJ.out.b0.box; have g0 := TJ.out.b0.fz 0; have g1 := TJ.out.b0.fz 1; have g2 := TJ.out.b0.fz 2; have g3 := TJ.out.b0.fz 3; have g4 := TJ.out.b0.fz 4; (try dsimp only [zr] at y0 y1 y2 y3 y4)
        (refine wpAnyT_ready (rs := [10]) (by kernel_rfl) (by simp) ?_; refine AllT.cons rfl (fun K hK => ?_) AllT.nil; go_simp; refine hK.out _ _ (fun h => absurd h (by simp [noSt])) ?_; clear hK K; (try simp only [Act.put, List.setIfInBounds_toArray, List.set_cons_zero, List.set_cons_succ]))
        (refine wpAnyT_ready (rs := [11]) (by kernel_rfl) (by simp) ?_; refine AllT.cons rfl (fun K hK => ?_) AllT.nil; go_simp; refine hK.out _ _ (fun h => absurd h (by simp [noSt])) ?_; clear hK K; (try simp only [Act.put, List.setIfInBounds_toArray, List.set_cons_zero, List.set_cons_succ]))
        refine wpAnyT_done (by kernel_rfl) ?_ _
        (
          go_wp2_with fail
          (try simp only [Exit.inBlock, Exit.then])
          refine bodyPost_ret (v := .tuple #[.agg #[.int .i64 vh, .slice A n c, .int .i64 v1, .int .i64 v2, .int .i64 v3], .bool false]) (results_cell_tmp rfl _ _ rfl rfl ?_) rfl ?_
          · go_simp
          · refine ⟨vh, A, n, c, v1, v2, v3, acc, by rw [HFIN.out], fun h => ⟨parseS_good HP4.out h, ?_⟩, ?_⟩
            · refine own_base (base := w.heap.size + 2) ?_ (by omega)
              iterate 5 (refine own_far ?_ HLL.out _)
              exact OJ.out
            · iterate 5 (refine Below.setCell ?_ (by exact Nat.le_refl _) _)
              exact TJ.out.be)
      · have HV := Lib.hid hv
        clear hv
        have HWV := Lib.hid (rlV HV.out)
        have hte := tx_eq (ruleTx ⟨vh, acc, v1, v2, v3⟩) l
        obtain ⟨tb, htb⟩ : ∃ b, (ruleTx ⟨vh, acc, v1, v2, v3⟩ == l) = b := ⟨_, rfl⟩
        rw [htb] at hte
        have HFIN := Lib.hid (show goodS l = tb by unfold goodS; rw [HP4.out]; simp only; rw [HV.out, htb]; simp)
        have HTE := Lib.hid hte
        clear hte htb
        refine wpAnyT_ready (rs := [3]) (by kernel_rfl) (by simp) ?_
        refine AllT.cons rfl (fun K hK => ?_) AllT.nil
        go_simp
        go_wp2_with fail
        refine (l05Rule_is ⟨w.heap.size + 1, 0, none⟩ ⟨vh, v1, v2, v3, A, n, c, acc⟩ _ (AtP.box TD.out.b1.box) (Rd.of_own OD.out) hnn HI.out HV.out).mono ?_
        rintro e w2 ⟨rfl, j, rfl⟩
        have TJ := Lib.hid (TD.out.on (below_drewN (Below.refl _ wD) j))
        have OJ := Lib.hid (own_drewN OD.out j)
        generalize wD.drewN j = wJ at TJ OJ ⊢
        clear HST TD OD
        have HST := Lib.hid TJ.out.b1.box
        go_simp
        refine hK.out _ _ (fun _ => HST.out) ?_
        clear hK K
        (try simp only [Act.put, List.setIfInBounds_toArray, List.set_cons_zero, List.set_cons_succ])
        (refine wpAnyT_take (i := 4) (v := _) rfl (by kernel_rfl) (by kernel_rfl) (by kernel_rfl) (by kernel_rfl) (fun _ _ _ h => h) (fun _ => HST.out) (Or.inl ⟨by rfl, by (intro w3; go_simp; try with_reducible rfl)⟩) ?_; (try simp only [Act.put, List.setIfInBounds_toArray, List.set_cons_zero, List.set_cons_succ]))
        (refine wpAnyT_take (i := 5) (v := _) rfl (by kernel_rfl) (by kernel_rfl) (by kernel_rfl) (by kernel_rfl) (fun _ _ _ h => h) (fun _ => HST.out) (Or.inl ⟨by rfl, by (intro w3; go_simp; try with_reducible rfl)⟩) ?_; (try simp only [Act.put, List.setIfInBounds_toArray, List.set_cons_zero, List.set_cons_succ]))
        (refine wpAnyT_take (i := 7) (v := _) rfl (by kernel_rfl) (by kernel_rfl) (by kernel_rfl) (by kernel_rfl) (fun _ _ _ h => h) (fun _ => HST.out) (Or.inl ⟨by rfl, by (intro w3; go_simp; try with_reducible rfl)⟩) ?_; (try simp only [Act.put, List.setIfInBounds_toArray, List.set_cons_zero, List.set_cons_succ]))
        refine wpAnyT_ready (rs := [6]) (by kernel_rfl) (by simp) ?_
        refine AllT.cons rfl (fun K hK => ?_) AllT.nil
        go_simp
        go_wp2_with fail
        refine (l05Text_is ⟨w.heap.size + 1, 0, none⟩ ⟨vh, v1, v2, v3, A, n, c, acc⟩ _ (AtP.box TJ.out.b1.box) (by have := TJ.out.lb; show w.heap.size + 1 < _; omega) (Rd.of_own OJ.out) HWV.out).mono ?_
        rintro e wE ⟨rfl, hbE⟩
        have TE := Lib.hid (TJ.out.on hbE)
        have OE := Lib.hid (own_on OJ.out hbE)
        clear HST TJ OJ hbE
        have HST := Lib.hid TE.out.b1.box
        go_simp
        refine hK.out _ _ (fun _ => HST.out) ?_
        clear hK K
        (try simp only [Act.put, List.setIfInBounds_toArray, List.set_cons_zero, List.set_cons_succ])
        have hte := HTE.out
        rw [show (Ru.dat ⟨vh, v1, v2, v3, A, n, c, acc⟩) = ⟨vh, acc, v1, v2, v3⟩ from rfl]
        obtain ⟨st, hst⟩ : ∃ s, txB (ruleTx ⟨vh, acc, v1, v2, v3⟩) = s := ⟨_, rfl⟩
        rw [hst] at hte ⊢
        clear hst HTE
        (refine wpAnyT_take (i := 8) (v := _) rfl (by kernel_rfl) (by kernel_rfl) (by kernel_rfl) (by kernel_rfl) (fun _ _ _ h => h) (fun _ => HST.out) (Or.inl ⟨by rfl, by (intro w3; go_simp; try with_reducible rfl)⟩) ?_; (try simp only [Act.put, List.setIfInBounds_toArray, List.set_cons_zero, List.set_cons_succ]))
        (refine wpAnyT_take (i := 9) (v := _) rfl (by kernel_rfl) (by kernel_rfl) (by kernel_rfl) (by kernel_rfl) (fun _ _ _ h => h) (fun _ => HST.out) (Or.inl ⟨by rfl, by (intro w3; go_simp; try with_reducible rfl)⟩) ?_; (try simp only [Act.put, List.setIfInBounds_toArray, List.set_cons_zero, List.set_cons_succ]))
        obtain ⟨y0, y1, y2, y3, y4⟩ := TE.out.b0.box; have g0 := TE.out.b0.fz 0; have g1 := TE.out.b0.fz 1; have g2 := TE.out.b0.fz 2; have g3 := TE.out.b0.fz 3; have g4 := TE.out.b0.fz 4; (try dsimp only [zr] at y0 y1 y2 y3 y4)
        (refine wpAnyT_ready (rs := [10]) (by kernel_rfl) (by simp) ?_; refine AllT.cons rfl (fun K hK => ?_) AllT.nil; go_simp; refine hK.out _ _ (fun h => absurd h (by simp [noSt])) ?_; clear hK K; (try simp only [Act.put, List.setIfInBounds_toArray, List.set_cons_zero, List.set_cons_succ]))
        (refine wpAnyT_ready (rs := [11]) (by kernel_rfl) (by simp) ?_; refine AllT.cons rfl (fun K hK => ?_) AllT.nil; go_simp; refine hK.out _ _ (fun h => absurd h (by simp [noSt])) ?_; clear hK K; (try simp only [Act.put, List.setIfInBounds_toArray, List.set_cons_zero, List.set_cons_succ]))
        refine wpAnyT_done (by kernel_rfl) ?_ _
        (
          go_wp2_with fail
          (try simp only [Exit.inBlock, Exit.then])
          refine bodyPost_ret (v := .tuple #[.agg #[.int .i64 vh, .slice A n c, .int .i64 v1, .int .i64 v2, .int .i64 v3], .bool tb]) (results_cell_tmp rfl _ _ rfl rfl ?_) rfl ?_
          · go_simp
          · refine ⟨vh, A, n, c, v1, v2, v3, acc, by rw [HFIN.out], fun h => ⟨parseS_good HP4.out h, ?_⟩, ?_⟩
            · refine own_base (base := w.heap.size + 2) ?_ (by omega)
              iterate 5 (refine own_far ?_ HLL.out _)
              exact OE.out
            · iterate 5 (refine Below.setCell ?_ (by exact Nat.le_refl _) _)
              exact TE.out.be)
end Go.Proofs.YtinocfehjdlohaaDoor
