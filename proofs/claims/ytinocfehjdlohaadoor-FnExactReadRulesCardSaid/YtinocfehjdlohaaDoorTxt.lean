/-
  NUMBERS AND RULES AS TEXTS: the plain functions; strconv.FormatInt and strings.Join as the program's walks meet them.
-/
import Derived.Test.YtinocfehjdlohaaDoorRuAre
import Derived.Test.YtinocfehjdlohaaDoorShelf
import Derived.Lib.QuietBelow
import Derived.Lib.ItoaLen
import Derived.Lib.SmallJoins
namespace Go.Proofs.YtinocfehjdlohaaDoor
open Go.ChangeShapes Go.WideShapes Go.ChangeAt Go.RowKit
set_option linter.unusedVariables false
set_option linter.unusedSimpArgs false

/-! ### texts -/
def txB (l : List UInt8) : ByteArray := ⟨l.toArray⟩
theorem txB_data (l : List UInt8) : (txB l).data.toList = l := by simp [txB]
theorem txB_size (l : List UInt8) : (txB l).size = l.length := by simp [txB, ByteArray.size]
theorem txB_append (a b : List UInt8) : txB a ++ txB b = txB (a ++ b) := by
  unfold txB
  rw [ByteArray.mk_append_mk]
theorem txB_of (s : ByteArray) : txB s.data.toList = s := by
  obtain ⟨d⟩ := s
  simp [txB]
theorem txB_inj {a b : List UInt8} (h : txB a = txB b) : a = b := by rw [← txB_data a, h, txB_data]
abbrev itoa (n : Int) : List UInt8 := Lib.itoa n
/-- the conditions of a rule as a text -/
def ifsTx (zs : List Int) : List UInt8 := Lib.join (zs.map itoa) [32, 38, 32]
def ifsTx2 (zs : List Int) : List UInt8 := ifsTx zs ++ (if zs = [] then [] else [32])
def ruleTx (d : Rl) : List UInt8 := itoa d.fr ++ [45] ++ itoa d.tt ++ [32, 114] ++ itoa d.rk ++ [58, 32] ++ ifsTx2 d.ifs ++ [61, 62, 32] ++ itoa d.hd
theorem itoa_len {n : Int} (h : -9223372036854775808 ≤ n ∧ n ≤ 9223372036854775807) : (itoa n).length ≤ 21 := Lib.itoa_length_le n h.1 h.2
theorem itoa_pos (n : Int) : 0 < (itoa n).length := by
  unfold itoa Lib.itoa
  split
  · simp
  · rw [Lib.decDigits_length]; have := Lib.nDigits_pos n.toNat; omega
theorem lens_le {xs : List (List UInt8)} {b : Nat} (h : ∀ x ∈ xs, x.length ≤ b) : Lib.lens xs ≤ b * xs.length := by
  induction xs with
  | nil => simp [Lib.lens]
  | cons x xs ih =>
    have h1 := h x (by simp)
    have h2 := ih fun y hy => h y (List.mem_cons_of_mem _ hy)
    simp only [Lib.lens, List.map_cons, List.sum_cons, List.length_cons] at *
    rw [Nat.mul_add]; omega
theorem join_len {xs : List (List UInt8)} {sep : List UInt8} {b : Nat} (h : ∀ x ∈ xs, x.length ≤ b) : (Lib.join xs sep).length ≤ (sep.length + b) * xs.length := by
  cases xs with
  | nil => simp [Lib.join_nil]
  | cons x xs =>
    rw [Lib.join_length]
    have := lens_le h
    rw [Nat.add_mul]
    have h3 : sep.length * xs.length ≤ sep.length * (x :: xs).length := Nat.mul_le_mul_left _ (by simp)
    omega
theorem ifsTx_nil : ifsTx [] = [] := rfl
theorem ifsTx_pos {zs : List Int} (h : zs ≠ []) : 0 < (ifsTx zs).length := by
  cases zs with
  | nil => exact absurd rfl h
  | cons z zs =>
    unfold ifsTx
    rw [List.map_cons, Lib.join_cons, List.length_append]
    have := itoa_pos z
    omega
theorem ifs_bnd {zs : List Int} (h : I64s zs) : ∀ x ∈ zs.map itoa, x.length ≤ 21 := fun x hx => by
  obtain ⟨z, hz, rfl⟩ := List.mem_map.1 hx
  exact itoa_len (h z hz)
theorem ifsTx_len {zs : List Int} (h : I64s zs) : (ifsTx zs).length ≤ 24 * zs.length := by
  have := join_len (sep := [32, 38, 32]) (ifs_bnd h)
  rw [List.length_map] at this
  unfold ifsTx
  simpa using this

/-! ### the table of the library -/
def Tab (w : World) : Prop := Lib.TabIs Tryd.prog w "internal/strconv.uint64pow10" .u64 Lib.pow10Tab
theorem Tab.on {w w' : World} (h : Tab w) (hb : Below w.heap.size w w') : Tab w' := Joins.tab_stays (g := 3) (by kernel_rfl) h hb (Nat.le_refl _)
theorem below_grow (w : World) (k : Nat) (os : Array _root_.Go.Obj) : Below w.heap.size w (Sort.grow (w.drewN k) os) :=
  ⟨rfl, rfl, rfl, by simp [Sort.grow], fun i hi => by simp [Sort.grow, Array.getElem?_append, hi]⟩
theorem decimal_is (n : Int) (h : -9223372036854775808 ≤ n ∧ n ≤ 9223372036854775807) (w : World) (ht : Tab w) :
    Calls Tryd.prog 52 #[.int .i64 n] w fun e w' => e = .returned (.string (txB (itoa n))) ∧ Below w.heap.size w w' := by
  go_enter Tryd.func52, Tryd.ntmps52
  go_wp2_with fail
  refine (Tryd.strconv_FormatInt_10 n h.1 h.2 _ ht).mono ?_
  rintro e w' ⟨rfl, k, os, rfl⟩
  have hb := below_grow w k os
  generalize Sort.grow (w.drewN k) os = w1 at hb ⊢
  go_wp2_with fail
  go_ret
  exact ⟨rfl, hb⟩

/-! ### lists of texts -/
def strs (ls : List (List UInt8)) : List Value := ls.map fun t => .string (txB t)
theorem strs_append (a b : List (List UInt8)) : strs (a ++ b) = strs a ++ strs b := by simp [strs]
theorem strs_one (t : List UInt8) : strs [t] = [.string (txB t)] := rfl
theorem strs_at (ls : List (List UInt8)) (j : Nat) : (strs ls)[j]? = ls[j]?.map fun t => Value.string (txB t) := by simp [strs]
theorem strs_length (ls : List (List UInt8)) : (strs ls).length = ls.length := by simp [strs]
theorem info_str : (Tryd.prog.info? 9).map (fun i => (i.zero, i.size, i.bytes)) = some (some (.string ⟨#[]⟩), 1, 16) := by kernel_rfl
theorem append_str {ops : Array Oper} {rest : List Oper} {o : Oper} {a : Act} {Q : Exit → Act → World → Prop} {w1 : World} (hgd : o.guard = none) (s x : Operand)
    (ho : o.op = .call { callee := .builtin .append, args := #[s, x], argTypes := #[60, 60] }) (W : World) (v : Value) (n : Nat) (zs : List (List UInt8)) (hs : a.eval s = v)
    (hown : w1.ownsRow W.heap.size 9 1 v n (strs zs)) (hb : Below W.heap.size W w1) (g : Nat) (c : Nat) (z : List UInt8) (hx : a.eval x = .slice (some ⟨g, 0, none⟩) 1 c) (hc : w1.cell? ⟨g, 0, none⟩ = some (.string (txB z))) (hn : n + 1 ≤ 4194304)
    (h : ∀ v' w', w'.ownsRow W.heap.size 9 1 v' (n + 1) (strs (zs ++ [z])) → Below W.heap.size W w' → wpList Tryd.prog ops Q rest (a.put o.dst v') w') : wpList Tryd.prog ops Q (o :: rest) a w1 := by
  obtain ⟨i0, hi, hz0, hz1, hz2⟩ := info_parts info_str
  refine wpList_append_own w1 hgd s x 60 ho W.heap.size 9 i0 (.string ⟨#[]⟩) 1 16 Tryd.underlying60 hi hz0 hz1 hz2 rfl (by decide) v n (strs zs) hs hown ⟨g, 0, none⟩ 1 c [.string (txB z)] hx rfl ?_ ?_ ?_ ?_ hb.size ?_
  · intro j u hj
    match j, hj with
    | 0, hj => simp at hj; subst hj; simpa [Addr.add] using hc
  · intro u hu; simp at hu; subst hu; rfl
  · unfold maxLen; omega
  · omega
  · intro v' w' h1 h2 _
    rw [← strs_one, ← strs_append] at h1
    exact h v' w' h1 (hb.grown h2 hb.size fun k hk => (hown.lt k hk).1)
theorem join_is (v : Value) (base n c : Nat) (A : Option Addr) (ls : List (List UInt8)) (sep : ByteArray) (w : World) (ho : w.ownsRow base 9 1 (.slice A n c) n (strs ls)) (hn : n ≤ 1000) (hs : sep.size ≤ 100) (hl : ∀ x ∈ ls, x.length ≤ 21) :
    Calls Tryd.prog 63 #[.slice A n c, .string sep] w fun e w' => e = .returned (.string (txB (Lib.join ls sep.data.toList))) ∧ Below w.heap.size w w' := by
  have hlen : ls.length = n := by have := own_len ho; rwa [strs_length] at this
  rcases Nat.eq_zero_or_pos n with h0 | h0
  · subst h0
    obtain rfl : ls = [] := List.length_eq_zero_iff.1 hlen
    exact (Tryd.strings_Join_none A c sep w).mono fun e w' ⟨he, hw⟩ => ⟨he, hw ▸ Below.refl _ _⟩
  · obtain ⟨g, rfl⟩ := own_head ho h0
    have hcap : n ≤ c := by
      obtain ⟨A', c', e, h1, _⟩ := own_form ho
      injection e with _ _ e; subst e; exact h1
    have hj := join_len (sep := sep.data.toList) hl
    have hz : sep.data.toList.length ≤ 100 := by rw [← Lib.size_eq]; exact hs
    have hmap : (ls.map txB).map (·.data.toList) = ls := by
      rw [List.map_map]
      conv => rhs; rw [← List.map_id ls]
      exact List.map_congr_left fun x _ => txB_data x
    have hb2 : (Lib.join ls sep.data.toList).length ≤ 140737488355328 := by
      have : (sep.data.toList.length + 21) * ls.length ≤ 121 * 1000 := Nat.mul_le_mul (by omega) (by omega)
      omega
    have H := Tryd.strings_Join g 0 c (ls.map txB) sep w (fun j x hx => by
        rw [List.getElem?_map] at hx
        obtain ⟨t, ht, rfl⟩ := Option.map_eq_some_iff.1 hx
        rw [Nat.zero_add]
        have hj2 : j < n := by have := (List.getElem?_eq_some_iff.1 ht).1; omega
        rw [ho.cellAt j (by omega), strs_at, ht]; rfl) (ho.lt g rfl).2 (by rw [List.length_map]; omega) (by rw [List.length_map]; omega) (by rw [hmap]; exact hb2)
    rw [hmap, List.length_map, hlen] at H
    exact H

end Go.Proofs.YtinocfehjdlohaaDoor
