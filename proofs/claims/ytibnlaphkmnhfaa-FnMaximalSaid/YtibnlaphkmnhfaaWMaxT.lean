/- Contracts of the functions that list the maximal taps of a size. -/
import Derived.Test.YtibnlaphkmnhfaaWMax
import Derived.Test.YtibnlaphkmnhfaaWInts
namespace Go.Proofs.Ytibnlaphkmnhfaa
open Go.RowKit SS
set_option maxRecDepth 100000
/-- the maximal taps below k -/
def mtaps (s k : Nat) : List Int := ((List.range k).filter fun t => decide (1 ≤ t) && mx s t).map fun t : Nat => (t : Int)
theorem mtaps_one (s : Nat) : mtaps s 1 = [] := by simp [mtaps, List.range_succ]
theorem mtaps_yes (s k : Nat) (h1 : 1 ≤ k) (h : mx s k = true) : mtaps s (k + 1) = mtaps s k ++ [(k : Int)] := by
  simp [mtaps, List.range_succ, List.filter_append, h, h1]
theorem mtaps_no (s k : Nat) (h : mx s k = false) : mtaps s (k + 1) = mtaps s k := by
  simp [mtaps, List.range_succ, List.filter_append, h]
theorem mtaps_length (s k : Nat) : (mtaps s k).length ≤ k := by
  unfold mtaps
  rw [List.length_map]
  exact Nat.le_trans (List.length_filter_le _ _) (by simp)
theorem OwnI.lit (w : World) : OwnI (w.alloc (.cells #[] 3)) w.heap.size (.slice (some ⟨w.heap.size, 0, none⟩) 0 0) [] :=
  World.ownsRow_lit w #[] 0 (Nat.le_refl _) (by decide) rfl
theorem OwnI.nil (w : World) (base : Nat) : OwnI w base (.slice none 0 0) [] := World.ownsRow_nil w base _ _
theorem OwnI.grow {w' : World} {base : Nat} {v : Value} {l : List Int} {x : Int} (h : w'.ownsRow base 3 1 v (l.length + 1) (l.map (Value.int .i64) ++ [.int .i64 x])) : OwnI w' base v (l ++ [x]) := by
  unfold OwnI
  rw [List.length_append, List.map_append]
  exact h
theorem own_row {w : World} {base : Nat} {v : Value} {l : List Int} (h : OwnI w base v l) : ∀ k, v.ownBlock = some k → base ≤ k := fun k hk => (World.ownsRow.lt h k hk).1
theorem new_one (w : World) (T : TypeId) (x : Value) : ∀ (j : Nat) (u : Value), [x][j]? = some u → (w.alloc (.cells #[x] T)).cell? ((⟨w.heap.size, 0, none⟩ : Addr).add j) = some u := by
  intro j u hu
  have hj : j = 0 := by
    have := (List.getElem?_eq_some_iff.1 hu).1
    simp at this
    exact this
  subst hj
  simp at hu
  subst hu
  simp [Addr.add]
theorem one_int (x : Int) : ∀ u ∈ [Value.int .i64 x], u.oneCell' = true := by
  intro u hu
  simp at hu
  subst hu
  rfl
theorem grown_below {w w1 w2 : World} {o : Obj} {row : Option Nat} (h : Below w.heap.size w w1) (hg : (w1.alloc o).grownBy w2 row) (hr : ∀ k, row = some k → w.heap.size ≤ k) : Below w.heap.size w w2 :=
  (h.alloc h.size o).grown hg (by have := h.size; simp; omega) hr
set_option maxHeartbeats 1000000 in
theorem mtaps_impl (s : Nat) (w : World) (h2 : 2 ≤ s) (h8 : s ≤ 8) :
    Calls Try.prog 47 #[.int .i64 s] w (RetI w (mtaps s (2 ^ s))) := by
  obtain ⟨p, HP⟩ : ∃ p, Hid (p = 2 ^ s) := ⟨2 ^ s, Lib.hid rfl⟩
  have hp : p ≤ 256 := by rw [HP.out]; exact Nat.pow_le_pow_right (n := 2) (by decide) h8
  have hp4 : 4 ≤ p := by rw [HP.out]; exact Nat.pow_le_pow_right (n := 2) (by decide) h2
  have hpi : ((2 : Int) ^ s) = (p : Int) := by rw [HP.out]; simp
  rw [← HP.out]
  have HI := Lib.hid hpi
  obtain ⟨i0, hi, hz0, hz1, hz2⟩ := info_parts infoI
  have k1 : decide ((s : Int) < 2) = false := by simp; omega
  have k2 : decide (8 < (s : Int)) = false := by simp; omega
  have o1 := Lib.hid (OwnI.lit w)
  have hw1 := Lib.hid ((Below.refl w.heap.size w).alloc (Nat.le_refl _) (.cells #[] 3))
  clear hpi
  go_enter Try.func47, Try.ntmps47
  go_wp2_with fail
  go_loopw [3, 4] (fun v i wr => ∃ k : Nat, 1 ≤ k ∧ k ≤ p ∧ i = .int .i64 (k : Int) ∧ OwnI wr w.heap.size v (mtaps s k) ∧ Below w.heap.size w wr) (fun _ i _ => p - (intOf i).toNat)
  case atStart => exact ⟨1, Nat.le_refl _, by omega, rfl, by rw [mtaps_one]; exact o1.out, hw1.out⟩
  case round =>
    clear o1 hw1
    obtain ⟨k, hk1, hk, rfl, ho, hw⟩ := hrel
    have HO := Lib.hid ho
    clear ho
    have hpi := HI.out
    by_cases hlt : k < p
    · have hv : VR s k 1 := ⟨h2, h8, hk1, by rw [← HP.out]; exact hlt, by rw [← HP.out]; omega⟩
      have C := Lib.hid fun w => ismax_yes s k w hv
      clear hv
      have hll := mtaps_length s k
      cases hm : mx s k with
      | true =>
        rw [hm] at C
        have HS := Lib.hid (mtaps_yes s k hk1 hm)
        clear hm
        go_wp2_with fail
        refine (C.out _).mono ?_
        rintro e w1 ⟨rfl, hb1⟩
        have hw1 := next hw hb1 (Nat.le_refl _)
        have ho1 := Lib.hid ((HO.out.keep hb1).drewN 0)
        clear HO C hb1
        go_wp2_with (at_builtin; refine wpList_append_own _ rfl _ _ 35 rfl w.heap.size 3 i0 (.int .i64 0) 1 8 Try.underlying35 hi hz0 hz1 hz2 rfl (by decide) _ _ _ rfl (ho1.out.alloc _) ⟨w1.heap.size, 0, none⟩ 1 1 [.int .i64 (k : Int)] rfl rfl ?c1 ?c2 ?c3 ?c4 ?c5 ?_)
        case c1 => exact new_one _ _ _
        case c2 => exact one_int _
        case c3 => unfold maxLen; omega
        case c4 => omega
        case c5 => have := hw1.size; simp; omega
        intro v' w2 ho2 hg2 _
        have hw2 := grown_below hw1 hg2 (own_row ho1.out)
        have HO2 := Lib.hid (OwnI.grow ho2)
        rw [← HS.out] at HO2
        clear ho2 hg2 hw1 ho1 HS
        go_wp2
        go_roundw
        case rel => exact ⟨k + 1, by omega, by omega, by go_num, HO2.out, hw2⟩
        case measure => simp [intOf]; omega
      | false =>
        rw [hm] at C
        have HS := Lib.hid (mtaps_no s k hm)
        clear hm
        go_wp2_with fail
        refine (C.out _).mono ?_
        rintro e w1 ⟨rfl, hb1⟩
        have hw1 := next hw hb1 (Nat.le_refl _)
        have ho1 := Lib.hid (HO.out.keep hb1)
        rw [← HS.out] at ho1
        clear HO C hb1 HS
        go_wp2
        go_roundw
        case rel => exact ⟨k + 1, by omega, by omega, by go_num, ho1.out, hw1⟩
        case measure => simp [intOf]; omega
    · obtain rfl : k = p := by omega
      go_wp2
      go_ret
      exact ⟨_, rfl, HO.out, hw⟩
set_option maxHeartbeats 1000000 in
theorem mtaps_impl_no (s : Int) (w : World) (hs : s < 2 ∨ 8 < s) :
    Calls Try.prog 47 #[.int .i64 s] w (RetI w []) := by
  by_cases h : s < 2
  · have k1 : decide (s < 2) = true := decide_eq_true h
    go_enter Try.func47, Try.ntmps47
    go_wp2
    go_ret
    exact ⟨_, rfl, OwnI.nil _ _, Below.refl _ _⟩
  · have k1 : decide (s < 2) = false := decide_eq_false h
    have k2 : decide (8 < s) = true := decide_eq_true (by omega)
    go_enter Try.func47, Try.ntmps47
    go_wp2
    go_ret
    exact ⟨_, rfl, OwnI.nil _ _, Below.refl _ _⟩
set_option maxHeartbeats 1000000 in
theorem mtaps_spec (s : Nat) (w : World) (h2 : 2 ≤ s) (h8 : s ≤ 8) :
    Calls Try.prog 114 #[.int .i64 s] w (RetI w (mtaps s (2 ^ s))) := by
  obtain ⟨p, HP⟩ : ∃ p, Hid (p = 2 ^ s) := ⟨2 ^ s, Lib.hid rfl⟩
  have hp : p ≤ 256 := by rw [HP.out]; exact Nat.pow_le_pow_right (n := 2) (by decide) h8
  have hp4 : 4 ≤ p := by rw [HP.out]; exact Nat.pow_le_pow_right (n := 2) (by decide) h2
  rw [← HP.out]
  obtain ⟨i0, hi, hz0, hz1, hz2⟩ := info_parts infoI
  have o1 := Lib.hid (OwnI.lit w)
  have hw1 := Lib.hid ((Below.refl w.heap.size w).alloc (Nat.le_refl _) (.cells #[] 3))
  go_enter Try.func114, Try.ntmps114
  go_wp2_with fail
  go_loopw [3, 4] (fun v i wr => ∃ k : Nat, 1 ≤ k ∧ k ≤ p ∧ i = .int .i64 (k : Int) ∧ OwnI wr w.heap.size v (mtaps s k) ∧ Below w.heap.size w wr) (fun _ i _ => p - (intOf i).toNat)
  case atStart => exact ⟨1, Nat.le_refl _, by omega, rfl, by rw [mtaps_one]; exact o1.out, hw1.out⟩
  case round =>
    clear o1 hw1
    obtain ⟨k, hk1, hk, rfl, ho, hw⟩ := hrel
    have HO := Lib.hid ho
    clear ho
    by_cases hlt : k < p
    · have hv : VR s k 1 := ⟨h2, h8, hk1, by rw [← HP.out]; exact hlt, by rw [← HP.out]; omega⟩
      have C := Lib.hid fun w => l1max s k w hv
      have C1 := Lib.hid fun w => taps_spec s k w
      rw [tv_of hv] at C1
      clear hv
      have hll := mtaps_length s k
      cases hm : mx s k with
      | true =>
        rw [hm] at C
        have HS := Lib.hid (mtaps_yes s k hk1 hm)
        clear hm
        go_wp2_with fail
        refine (C1.out _).mono ?_
        rintro e w1 ⟨rfl, rfl⟩
        go_wp2_with fail
        refine (C.out _).mono ?_
        rintro e w1 ⟨rfl, hb1⟩
        have hw1 := next hw hb1 (Nat.le_refl _)
        have ho1 := Lib.hid (HO.out.keep hb1)
        clear HO C hb1
        go_wp2_with (at_builtin; refine wpList_append_own _ rfl _ _ 35 rfl w.heap.size 3 i0 (.int .i64 0) 1 8 Try.underlying35 hi hz0 hz1 hz2 rfl (by decide) _ _ _ rfl (ho1.out.alloc _) ⟨w1.heap.size, 0, none⟩ 1 1 [.int .i64 (k : Int)] rfl rfl ?c1 ?c2 ?c3 ?c4 ?c5 ?_)
        case c1 => exact new_one _ _ _
        case c2 => exact one_int _
        case c3 => unfold maxLen; omega
        case c4 => omega
        case c5 => have := hw1.size; simp; omega
        intro v' w2 ho2 hg2 _
        have hw2 := grown_below hw1 hg2 (own_row ho1.out)
        have HO2 := Lib.hid (OwnI.grow ho2)
        rw [← HS.out] at HO2
        clear ho2 hg2 hw1 ho1 HS
        go_wp2
        go_roundw
        case rel => exact ⟨k + 1, by omega, by omega, by go_num, HO2.out, hw2⟩
        case measure => simp [intOf]; omega
      | false =>
        rw [hm] at C
        have HS := Lib.hid (mtaps_no s k hm)
        clear hm
        go_wp2_with fail
        refine (C1.out _).mono ?_
        rintro e w1 ⟨rfl, rfl⟩
        go_wp2_with fail
        refine (C.out _).mono ?_
        rintro e w1 ⟨rfl, hb1⟩
        have hw1 := next hw hb1 (Nat.le_refl _)
        have ho1 := Lib.hid (HO.out.keep hb1)
        rw [← HS.out] at ho1
        clear HO C hb1 HS
        go_wp2
        go_roundw
        case rel => exact ⟨k + 1, by omega, by omega, by go_num, ho1.out, hw1⟩
        case measure => simp [intOf]; omega
    · obtain rfl : k = p := by omega
      have ht : tv s k = false := by
        apply tv_mk_no
        rintro ⟨_, _, _, h4⟩
        rw [Int.toNat_natCast, HP.out] at h4
        simp at h4
      have C1 := Lib.hid fun w => taps_spec s k w
      rw [ht] at C1
      clear ht
      go_wp2_with fail
      refine (C1.out _).mono ?_
      rintro e w1 ⟨rfl, rfl⟩
      go_wp2
      go_ret
      exact ⟨_, rfl, HO.out, hw⟩
set_option maxHeartbeats 1000000 in
theorem mtaps_spec_no (s : Int) (w : World) (hs : s < 2 ∨ 8 < s) :
    Calls Try.prog 114 #[.int .i64 s] w (RetI w []) := by
  have o1 := Lib.hid (OwnI.lit w)
  have hw1 := Lib.hid ((Below.refl w.heap.size w).alloc (Nat.le_refl _) (.cells #[] 3))
  have ht : tv s 1 = false := tv_mk_no (by omega)
  have C1 := Lib.hid fun w => taps_spec s 1 w
  rw [ht] at C1
  clear ht
  go_enter Try.func114, Try.ntmps114
  go_wp2_with fail
  go_loopw [3, 4] (fun v i wr => v = .slice (some ⟨w.heap.size, 0, none⟩) 0 0 ∧ i = .int .i64 1 ∧ OwnI wr w.heap.size v [] ∧ Below w.heap.size w wr) (fun _ _ _ => 0)
  case atStart => exact ⟨rfl, rfl, o1.out, hw1.out⟩
  case round =>
    clear o1 hw1
    obtain ⟨rfl, rfl, ho, hw⟩ := hrel
    have HO := Lib.hid ho
    clear ho
    go_wp2_with fail
    refine (C1.out _).mono ?_
    rintro e w1 ⟨rfl, rfl⟩
    go_wp2
    go_ret
    exact ⟨_, rfl, HO.out, hw⟩
end Go.Proofs.Ytibnlaphkmnhfaa
