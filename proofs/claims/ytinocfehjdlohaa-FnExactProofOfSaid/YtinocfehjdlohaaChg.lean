/-
  The days on which other rules are active: the plain law, and what the reference's function returns.
-/
import Derived.Test.YtinocfehjdlohaaAnsC
import Derived.Test.YtinocfehjdlohaaSortP
namespace Go.Proofs.Ytinocfehjdlohaa
open Go.ChangeShapes Go.WideShapes Go.ChangeAt Go.RowKit
set_option linter.unusedVariables false
set_option linter.unusedSimpArgs false

def dayList (ds : List Rl) : List Int := ds.flatMap fun d => [d.fr, d.tt + 1]
def upTo (M : Nat) (ds : List Rl) : List Int := ((List.range M).map Int.ofNat).filter fun x => decide (1 ≤ x) && hasI (dayList ds) x
theorem upTo_strict (M : Nat) (ds : List Rl) : (upTo M ds).Pairwise (· < ·) := by
  refine List.Pairwise.filter _ ?_
  rw [List.pairwise_map]
  exact (List.pairwise_lt_range (n := M)).imp (fun h => by simpa using h)
theorem hasI_iff {zs : List Int} {x : Int} : hasI zs x = true ↔ x ∈ zs := by
  unfold hasI
  rw [List.any_eq_true]
  constructor
  · rintro ⟨z, hz, e⟩; rw [beq_iff_eq] at e; subst e; exact hz
  · exact fun h => ⟨x, h, by simp⟩
theorem upTo_mem {M : Nat} {ds : List Rl} {x : Int} : x ∈ upTo M ds ↔ x ∈ dayList ds ∧ 1 ≤ x ∧ x < M := by
  unfold upTo
  rw [List.mem_filter, List.mem_map, Bool.and_eq_true, hasI_iff, decide_eq_true_eq]
  constructor
  · rintro ⟨⟨k, hk, rfl⟩, h1, h2⟩
    have := List.mem_range.1 hk
    exact ⟨h2, h1, by simp; omega⟩
  · rintro ⟨h1, h2, h3⟩
    exact ⟨⟨x.toNat, List.mem_range.2 (by omega), by simp; omega⟩, h2, h1⟩
def chg (ds : List Rl) : List Int := upTo 100001 ds
theorem chg_is {ds : List Rl} {l : List Int} (hs : l.Pairwise (· < ·)) (hm : ∀ x, x ∈ l ↔ x ∈ dayList ds ∧ 1 ≤ x ∧ x ≤ 100000) : l = chg ds :=
  eq_of_strict hs (upTo_strict _ _) fun x => by
    rw [hm, show chg ds = upTo 100001 ds from rfl, upTo_mem]
    have : ((100001 : Nat) : Int) = 100001 := rfl
    rw [this]
    constructor <;> rintro ⟨a, b, c⟩ <;> exact ⟨a, b, by omega⟩
theorem chg_strict (ds : List Rl) : (chg ds).Pairwise (· < ·) := upTo_strict _ _
theorem chg_mem {ds : List Rl} {x : Int} (h : x ∈ chg ds) : x ∈ dayList ds ∧ 1 ≤ x ∧ x ≤ 100000 := by
  have h1 : x ∈ upTo 100001 ds := h
  rw [upTo_mem] at h1
  have : ((100001 : Nat) : Int) = 100001 := rfl
  rw [this] at h1
  exact ⟨h1.1, h1.2.1, by omega⟩
attribute [irreducible] chg
theorem strict_nodup {l : List Int} (h : l.Pairwise (· < ·)) : l.Nodup := h.imp fun h => by omega
theorem sub_len : ∀ (l m : List Int), l.Nodup → (∀ x ∈ l, x ∈ m) → l.length ≤ m.length
  | [], m, _, _ => Nat.zero_le _
  | a :: l, m, hn, hs => by
    have h1 := sub_len l (m.erase a) (List.nodup_cons.1 hn).2 (fun x hx => (List.mem_erase_of_ne (fun e => (List.nodup_cons.1 hn).1 (by rw [← e]; exact hx))).2 (hs x (List.mem_cons_of_mem _ hx)))
    rw [List.length_erase_of_mem (hs a (by simp))] at h1
    have := List.length_pos_of_mem (hs a (by simp))
    simp; omega
theorem dayList_len (ds : List Rl) : (dayList ds).length = 2 * ds.length := by
  unfold dayList
  induction ds with
  | nil => rfl
  | cons d ds ih => rw [List.flatMap_cons, List.length_append, ih, List.length_cons, List.length_cons]; simp; omega
theorem chg_len {ds : List Rl} (h : ds.length ≤ 24) : (chg ds).length ≤ 48 := by
  have := sub_len _ _ (strict_nodup (chg_strict ds)) (fun x hx => (chg_mem hx).1)
  rw [dayList_len] at this; omega
theorem dayList_more {ds : List Rl} {k : Nat} {d : Rl} (h : ds[k]? = some d) : dayList (ds.take (k + 1)) = dayList (ds.take k) ++ [d.fr, d.tt + 1] := by
  unfold dayList; rw [List.take_add_one, h, List.flatMap_append]; simp
theorem valid_days {ds : List Rl} (h : rulesB ds = true) {d : Rl} (hd : d ∈ ds) : (0 ≤ d.fr ∧ d.fr ≤ 100000) ∧ (0 ≤ d.tt ∧ d.tt ≤ 100000) := by
  unfold rulesB at h
  simp only [Bool.and_eq_true, List.all_eq_true] at h
  have := h.2 d hd
  unfold validB at this
  simp [inB] at this
  omega
theorem day_small {ds : List Rl} (h : rulesB ds = true) {x : Int} (hx : x ∈ dayList ds) : 0 ≤ x ∧ x ≤ 100001 := by
  unfold dayList at hx
  obtain ⟨d, hd, hx⟩ := List.mem_flatMap.1 hx
  have := valid_days h hd
  simp at hx
  omega
theorem step_append_two {ops : Array Oper} {o : Oper} {a : Act} {K : Act → World → Prop} {Q : Exit → Act → World → Prop} {E : Prop} {w1 : World} (hgd : o.guard = none) (s x : Operand)
    (ho : o.op = .call { callee := .builtin .append, args := #[s, x], argTypes := #[24, 24] }) (W : World) (v : Value) (n : Nat) (zs : List Int) (hs : a.eval s = v)
    (hown : w1.ownsRow W.heap.size 2 1 v n (ints zs)) (hB : Below W.heap.size W w1) (g : Nat) (c : Nat) (z1 z2 : Int) (hx : a.eval x = .slice (some ⟨g, 0, none⟩) 2 c) (hc : Rd w1 (g + 1) 1 (some ⟨g, 0, none⟩) 2 (ints [z1, z2])) (hn : n + 2 ≤ 4194304)
    (h : ∀ v' w', w'.ownsRow W.heap.size 2 1 v' (n + 2) (ints (zs ++ [z1, z2])) → Below W.heap.size W w' → K (a.put o.dst v') w') :
    if Region.wanted o (yielded ops a.tmps) = true then Oper.wp Try.prog o a w1 K Q else E := by
  have hw : Region.wanted o (yielded ops a.tmps) = true := by simp [Region.wanted, hgd]
  rw [if_pos hw]
  obtain ⟨i0, hi, hz0, hz1, hz2⟩ := info_parts info_int
  refine wp_append_own (w := w1) s x 24 ho W.heap.size 2 i0 (.int .i64 0) 1 8 Try.underlying24 hi hz0 hz1 hz2 rfl (by decide) v n (ints zs) hs hown ⟨g, 0, none⟩ 2 c (ints [z1, z2]) hx rfl ?_ (ints_cells _) ?_ ?_ hB.size ?_
  · intro j u hj
    obtain ⟨ad, e, _, h3⟩ := hc.2 (by omega)
    cases e
    exact h3 j u hj
  · unfold maxLen; omega
  · omega
  · intro v' w' h1 h2 _
    rw [← ints_append] at h1
    exact h v' w' h1 (hB.grown h2 hB.size fun k hk => (hown.lt k hk).1)
set_option maxHeartbeats 3200000 in
theorem l05Changes_is (A : Option Addr) (m c : Nat) (ds : List Rl) (w : World) (hr : RsRd w w.heap.size A m ds) (hok : rulesB ds = true) :
    Calls Try.prog 47 #[.slice A m c] w fun e w' => ∃ v, e = .returned v ∧ w'.ownsRow w.heap.size tI 1 v (chg ds).length (ints (chg ds)) ∧ Below w.heap.size w w' := by
  have HL := Lib.hid hr.len
  have hm : m ≤ 24 := by have := rules_len hok; rwa [hr.len] at this
  have HOK := Lib.hid hok
  have HR := Lib.hid hr
  clear hok hr
  go_enter Try.func47, Try.ntmps47
  go_wp2_with fail
  go_loopw [3, 4, 12] (fun v _ i wr => ∃ k : Nat, k ≤ m ∧ i = .int .i64 k ∧ wr.ownsRow w.heap.size tI 1 v (dayList (ds.take k)).length (ints (dayList (ds.take k))) ∧ Below w.heap.size w wr) (fun _ _ i _ => m - (intOf i).toNat)
  case atStart => exact ⟨0, Nat.zero_le _, rfl, own_empty _ _, bl_a _⟩
  case round =>
    obtain ⟨k, hk, rfl, hown, hb⟩ := hrel
    by_cases hlt : k < m
    · obtain ⟨rs, hr2, he⟩ := HR.out.below hb
      obtain ⟨ad, r, rfl, hrk, ha, _⟩ := hr2.at hlt
      have hdk : ds[k]? = some r.dat := by rw [← he, List.getElem?_map, hrk]; rfl
      have hvd := valid_days HOK.out (List.mem_of_getElem? hdk)
      have hst := Lib.hid (dayList_more hdk)
      have hlen := dayList_len (ds.take k)
      rw [List.length_take] at hlen
      obtain ⟨ls, hls⟩ : ∃ ls, ls = dayList (ds.take k) := ⟨_, rfl⟩
      rw [← hls] at hown hst hlen
      simp only [Ru.dat] at hvd
      obtain ⟨c0, c1, c2, c3, c4⟩ := ha
      have HO := Lib.hid hown
      have HB := Lib.hid hb
      have i1 : (0 : Int) ≤ k := by omega
      have i2 : (k : Int) < m := by omega
      clear hr2 he hrk hdk hls hown hb
      have d1 := hvd.1.1
      have d2 := hvd.1.2
      have d3 := hvd.2.1
      have d4 := hvd.2.2
      have hwrap : IntKind.i64.wrap (r.tt + 1) = r.tt + 1 := wrapI (by omega)
      clear hvd
      go_wp2_with fail
      go_region_law (first | (refine step_append_two rfl (.tmp 15) (.tmp 27) rfl w _ ls.length ls rfl (own_on HO.out (bl_a _).drew) (HB.out.alloc HB.out.size _).drew wr.heap.size 2 r.fr (r.tt + 1) rfl (show Rd (World.drew _) _ _ _ _ _ from rd_two wr r.fr (r.tt + 1) tI) (by omega) ?_; intro v' w' ho2 hb2))
      all_goals go_wp2_with fail
      all_goals go_roundw
      case rel => exact ⟨k + 1, by omega, by go_num, by rw [hst.out]; simpa [Ru.dat] using ho2, hb2⟩
      case measure => simp [intOf]; omega
      case rel => exact ⟨k + 1, by omega, by go_num, by rw [hst.out]; simpa [Ru.dat] using ho2, hb2⟩
      case measure => simp [intOf]; omega
    · obtain rfl : m = k := by omega
      rw [List.take_of_length_le (by have := HL.out; omega)] at hown
      obtain ⟨A1, c1, rfl, _⟩ := own_form hown
      have hdl := dayList_len ds
      have HDS := Lib.hid (fun x (hx : x ∈ dayList ds) => day_small HOK.out hx)
      obtain ⟨n, hn⟩ : ∃ n, n = (dayList ds).length := ⟨_, rfl⟩
      have hn48 : n ≤ 48 := by have := HL.out; omega
      obtain ⟨zs, hzs⟩ : ∃ zs, zs = dayList ds := ⟨_, rfl⟩
      rw [← hzs] at hown HDS hn ⊢
      rw [← hn] at hown ⊢
      have HD := Lib.hid (Rd.of_own hown)
      have HB := Lib.hid hb
      have HZ := Lib.hid hzs
      have HN := Lib.hid hn
      have hcl : (chg ds).length ≤ 48 := chg_len (by have := HL.out; omega)
      have HCL := Lib.hid hcl
      clear hown hb hzs hn hdl hcl
      obtain ⟨wr0, hwr0⟩ : ∃ wr0, wr0 = wr := ⟨_, rfl⟩
      rw [← hwr0] at HD HB ⊢
      clear hwr0
      go_wp2_with fail
      go_loopw [5, 6, 7, 8] (fun v last _ _ wx => ∃ (t : Int) (out : List Int), last = .int .i64 t ∧ 0 ≤ t ∧ t ≤ 100000 ∧ wx.ownsRow wr0.heap.size tI 1 v out.length (ints out) ∧ Below wr0.heap.size wr0 wx ∧ out.Pairwise (· < ·) ∧ (∀ x ∈ out, x ∈ zs ∧ 1 ≤ x ∧ x ≤ t) ∧ (∀ x ∈ zs, 1 ≤ x → x ≤ t → x ∈ out)) (fun _ last _ _ _ => (100001 - intOf last).toNat)
      case atStart => exact ⟨0, [], rfl, by omega, by omega, own_empty _ _, bl_a _, List.Pairwise.nil, fun x h => (by cases h), fun x _ h1 h2 => by omega⟩
      case round =>
        obtain ⟨t, out, rfl, ht0, ht1, hown, hb, hpw, hin, hall⟩ := hrel
        have HP := Lib.hid (And.intro hpw (And.intro hin hall))
        have HO := Lib.hid hown
        have HW := Lib.hid hb
        have hol : out.length ≤ 48 := by
          have h1 := sub_len out zs (strict_nodup hpw) (fun x hx => (hin x hx).1)
          rw [← HN.out] at h1; omega
        clear hpw hin hall hown hb
        obtain ⟨wr1, hwr1⟩ : ∃ wr1, wr1 = wr := ⟨_, rfl⟩
        rw [← hwr1] at HO HW ⊢
        clear hwr1
        go_wp2_with fail
        go_loopw [7, 8, 33] (fun nx _ i wy => ∃ (j : Nat) (z : Int), j ≤ n ∧ i = .int .i64 j ∧ nx = .int .i64 z ∧ z ≤ 100001 ∧ t < z ∧ (z = 100001 ∨ z ∈ zs) ∧ (∀ x ∈ zs.take j, t < x → z ≤ x) ∧ wy = wr1) (fun _ _ i _ => n - (intOf i).toNat)
        case atStart => exact ⟨0, 100001, by omega, rfl, rfl, by omega, by omega, .inl rfl, fun x h => (by simp at h), rfl⟩
        case round =>
          obtain ⟨j, z, hj, rfl, rfl, hz1, hz2, hz3, hz4, rfl⟩ := hrel
          have HP2 := Lib.hid (And.intro hz3 hz4)
          have HLZ := HD.out.ilen
          have HLZ2 := Lib.hid HLZ
          clear hz3 hz4 HLZ
          by_cases hlj : j < n
          · obtain ⟨ad, rfl, hc⟩ := (HD.out.below HW.out).int hlj
            have hxm := getD_mem (zs := zs) (k := j) (by have := HLZ2.out; omega)
            have htk := Lib.hid (take_snoc zs j 0 (by have := HLZ2.out; omega))
            obtain ⟨x, hx⟩ : ∃ x, x = zs[j]?.getD 0 := ⟨_, rfl⟩
            rw [← hx] at hc hxm htk
            have hx2 := HDS.out x hxm
            have HXM := Lib.hid hxm
            have i1 : (0 : Int) ≤ j := by omega
            have i2 : (j : Int) < n := by omega
            clear hx hxm
            by_cases hgt : t < x
            · go_wp2_with (go_at_call 50; refine (l00Min_any _ _ _).mono ?_; rintro e w' ⟨rfl, rfl⟩)
              go_roundw
              case rel =>
                refine ⟨j + 1, min z x, by omega, by go_num, rfl, by omega, by omega, ?_, ?_, by first | rfl | trivial⟩
                · rcases (show min z x = z ∨ min z x = x by omega) with e | e
                  · rw [e]; exact HP2.out.1
                  · rw [e]; exact .inr HXM.out
                · intro y hy hty
                  rw [htk.out, List.mem_append, List.mem_singleton] at hy
                  rcases hy with hy | rfl
                  · have := HP2.out.2 y hy hty; omega
                  · omega
              case measure => simp [intOf]; omega
            · go_wp2_with fail
              go_roundw
              case rel =>
                refine ⟨j + 1, z, by omega, by go_num, rfl, by omega, by omega, HP2.out.1, ?_, by first | rfl | trivial⟩
                intro y hy hty
                rw [htk.out, List.mem_append, List.mem_singleton] at hy
                rcases hy with hy | rfl
                · exact HP2.out.2 y hy hty
                · exact absurd hty hgt
              case measure => simp [intOf]; omega
          · obtain rfl : j = n := by omega
            have hall2 := Lib.hid (show ∀ y ∈ zs, t < y → z ≤ y from fun y hy => HP2.out.2 y (by rw [List.take_of_length_le (by have := HLZ2.out; omega)]; exact hy))
            by_cases hgt : 100000 < z
            · have hfin := Lib.hid (chg_is (ds := ds) (l := out) HP.out.1 (fun y => ⟨fun hy => by
                have := HP.out.2.1 y hy
                exact ⟨by rw [← HZ.out]; exact this.1, this.2.1, by omega⟩, fun ⟨h1, h2, h3⟩ => HP.out.2.2 y (by rw [HZ.out]; exact h1) h2 (by
                  by_cases hty : y ≤ t
                  · exact hty
                  · have := hall2.out y (by rw [HZ.out]; exact h1) (by omega); omega)⟩))
              go_wp2_with fail
              go_ret
              exact ⟨_, rfl, by rw [← hfin.out]; exact own_base HO.out HB.out.size, below_step HB.out HW.out⟩
            · have HZM := Lib.hid (show z ∈ zs from HP2.out.1.resolve_left (by omega))
              go_wp2_with (at_builtin; refine append_int rfl (.tmp 52) (.tmp 54) rfl wr0 _ _ _ rfl (World.ownsRow.alloc HO.out _) (Below.alloc HW.out (Below.size HW.out) _) _ _ z rfl (cell_new _ _ _) (by omega) ?_; intro v' w' ho2 hb2)
              go_roundw
              case rel =>
                refine ⟨z, out ++ [z], rfl, by omega, by omega, by simpa using ho2, hb2, ?_, ?_, ?_⟩
                · rw [List.pairwise_append]
                  exact ⟨HP.out.1, List.pairwise_singleton _ _, fun a ha b hb => by rw [List.mem_singleton] at hb; subst hb; have := HP.out.2.1 a ha; omega⟩
                · intro y hy
                  rw [List.mem_append, List.mem_singleton] at hy
                  rcases hy with hy | rfl
                  · have := HP.out.2.1 y hy; exact ⟨this.1, this.2.1, by omega⟩
                  · exact ⟨HZM.out, by omega, by omega⟩
                · intro y hy h1 h2
                  rw [List.mem_append, List.mem_singleton]
                  by_cases hty : y ≤ t
                  · exact .inl (HP.out.2.2 y hy h1 hty)
                  · have := hall2.out y hy (by omega)
                    exact .inr (by omega)
              case measure => simp [intOf]; omega
end Go.Proofs.Ytinocfehjdlohaa
