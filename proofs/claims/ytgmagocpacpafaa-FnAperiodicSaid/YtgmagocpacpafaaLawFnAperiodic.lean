/- The walk of the law on correlations that do not repeat. -/
import Derived.Test.YtgmagocpacpafaaWDrawT
import Derived.Test.YtgmagocpacpafaaWLeast
import Derived.Test.YtgmagocpacpafaaWAuto
import Derived.Test.YtgmagocpacpafaaWRevb
import Derived.Test.YtgmagocpacpafaaWTail
namespace Go.Proofs.Ytgmagocpacpafaa
open Go.RowKit SS
set_option maxRecDepth 100000
set_option maxHeartbeats 2000000 in
theorem walk_FnAperiodic (a0 : Option Addr) (len0 cap0 : Nat) (z0 : List Int) (w : World) (h0 : IsRow .u8 w a0 len0 cap0 z0) :
    Calls Try.prog 13 #[.slice a0 len0 cap0] w fun e w' => e = .returned (.bool true) ∧ Below w.heap.size w w' := by
  obtain ⟨c0, l0, m0⟩ := h0.code
  clear h0
  by_cases hs0 : len0 ≤ 1048576
  · have d0 : decide ((1048576 : Int) < (len0 : Int)) = false := by simp; omega
    have D1 := Lib.hid (drawAper a0 len0 cap0 w c0 l0 m0)
    clear c0 l0 m0
    have hw := Below.refl w.heap.size w
    go_enter Try.func13, Try.ntmps13
    go_wp2_with fail
    refine (D1.out).mono ?_
    rintro e w1 ⟨s, k, rfl, hsz, hq⟩
    replace hw := afterB hw hq hw.size
    clear hq
    clear D1
    have hml : s.size ≤ maxLen := by unfold maxLen; omega
    by_cases hc : sv s.data.toList = true ∧ 0 ≤ k ∧ k < s.size
    · skip
      obtain ⟨hs, hk0, hk1⟩ := hc
      obtain ⟨k, rfl⟩ := Int.eq_ofNat_of_zero_le hk0
      have hk : k < s.size := by omega
      clear hk0 hk1 hsz hml
      obtain ⟨h1, h2⟩ := sv_size hs
      obtain ⟨g1, g2, g3⟩ := sv_yes hs
      have hkl : k < s.data.toList.length := by rw [size_list]; exact hk
      have C1 := Lib.hid fun w => quiet_below (apr_impl s k w hs hk)
      have C2 := Lib.hid fun w => quiet_below (sapr_yes s k w hs hk)
      have C3 := Lib.hid fun w => quiet_below (auto_impl s (k : Int) w hs)
      have C4 := Lib.hid fun w => rev_impl s w hs
      rw [md_nat k s.size hk] at C3
      have hx : sv (revL s.data.toList) = true := sv_mk (by rw [revL_length]; exact g1) (by rw [revL_length]; exact g2) (okB_revL _ g3)
      have hxz : (bs (revL s.data.toList)).size = s.size := by rw [bs_size, revL_length, size_list]
      have C5 := Lib.hid fun w => quiet_below (apr_impl (bs (revL s.data.toList)) k w (by rw [bs_list]; exact hx) (by omega))
      rw [bs_list, apr_rev _ _ hkl] at C5
      have hca := cor_apr s.data.toList k hkl g3
      have hbd := apr_bd s.data.toList k (by omega)
      rw [size_list] at hca hbd
      have C6 := Lib.hid fun (hp : 0 < k) w => quiet_below (apr_impl s (s.size - k) w hs (by omega))
      have hcb := apr_bd s.data.toList (s.size - k) (by rw [size_list]; omega)
      rw [size_list] at hcb
      clear g1 g2 g3 hx hkl hs hxz
      generalize bs (revL s.data.toList) = x at *
      generalize apr s.data.toList (s.size - k) = rest at *
      generalize apr s.data.toList k = v at *
      generalize cor s.data.toList s.data.toList k = c at *
      have dv : decide (v ≤ (s.size : Int) - (k : Int)) = true := by simp; omega
      have du : decide ((k : Int) - (s.size : Int) ≤ v) = true := by simp; omega
      by_cases hp : 0 < k
      · skip
        rw [if_pos hp] at hca
        have C7 := Lib.hid (C6.out hp)
        have dp : decide ((0 : Int) < (k : Int)) = true := by simp; omega
        rw [show ((s.size - k : Nat) : Int) = (s.size : Int) - (k : Int) by omega] at C7
        have hcv : (c == v + rest) = true := by rw [beq_iff_eq]; exact hca
        have HB := Lib.hid hbd
        have hr1 : -255 ≤ rest ∧ rest ≤ 255 := by omega
        clear C6 hca hbd hcb
        have hb1 : -255 ≤ v ∧ v ≤ 255 := by have := HB.out; omega
        go_wp2_with fail
        refine (C1.out _).mono ?_
        rintro e w2 ⟨rfl, hq⟩
        replace hw := afterB hw hq hw.size
        clear hq
        go_wp2_with fail
        refine (C2.out _).mono ?_
        rintro e w3 ⟨rfl, hq⟩
        replace hw := afterB hw hq hw.size
        clear hq
        go_wp2_with fail
        refine (C3.out _).mono ?_
        rintro e w4 ⟨rfl, hq⟩
        replace hw := afterB hw hq hw.size
        clear hq
        go_wp2_with fail
        refine (C7.out _).mono ?_
        rintro e w5 ⟨rfl, hq⟩
        replace hw := afterB hw hq hw.size
        clear hq
        go_wp2_with fail
        refine (C4.out _).mono ?_
        rintro e w6 ⟨rfl, hq⟩
        replace hw := afterB hw hq hw.size
        clear hq
        go_wp2_with fail
        refine (C5.out _).mono ?_
        rintro e w7 ⟨rfl, hq⟩
        replace hw := afterB hw hq hw.size
        clear hq
        go_wp2
        go_ret
        exact ⟨rfl, hw⟩
      · skip
        rw [if_neg hp] at hca
        have dp : decide ((0 : Int) < (k : Int)) = false := by simp; omega
        have hcv : (c == v) = true := by rw [beq_iff_eq]; omega
        have HB := Lib.hid hbd
        have hr1 : -255 ≤ rest ∧ rest ≤ 255 := by omega
        clear C6 hca hbd hcb
        have hb1 : -255 ≤ v ∧ v ≤ 255 := by have := HB.out; omega
        go_wp2_with fail
        refine (C1.out _).mono ?_
        rintro e w2 ⟨rfl, hq⟩
        replace hw := afterB hw hq hw.size
        clear hq
        go_wp2_with fail
        refine (C2.out _).mono ?_
        rintro e w3 ⟨rfl, hq⟩
        replace hw := afterB hw hq hw.size
        clear hq
        go_wp2_with fail
        refine (C3.out _).mono ?_
        rintro e w4 ⟨rfl, hq⟩
        replace hw := afterB hw hq hw.size
        clear hq
        go_wp2_with fail
        refine (C4.out _).mono ?_
        rintro e w5 ⟨rfl, hq⟩
        replace hw := afterB hw hq hw.size
        clear hq
        go_wp2_with fail
        refine (C5.out _).mono ?_
        rintro e w6 ⟨rfl, hq⟩
        replace hw := afterB hw hq hw.size
        clear hq
        go_wp2
        go_ret
        exact ⟨rfl, hw⟩
    · skip
      have hn : sv s.data.toList = false ∨ k < 0 ∨ (s.size : Int) ≤ k := by
        cases hs : sv s.data.toList with
        | false => exact .inl rfl
        | true => exact .inr (Classical.byContradiction fun h => hc ⟨hs, by omega, by omega⟩)
      have C1 := Lib.hid fun w => quiet_below (apr_impl_no s k w hml hn)
      have C2 := Lib.hid fun w => quiet_below (sapr_no s k w hml hn)
      clear hc hml hsz hn
      go_wp2_with fail
      refine (C1.out _).mono ?_
      rintro e w2 ⟨rfl, hq⟩
      replace hw := afterB hw hq hw.size
      clear hq
      go_wp2_with fail
      refine (C2.out _).mono ?_
      rintro e w3 ⟨rfl, hq⟩
      replace hw := afterB hw hq hw.size
      clear hq
      go_wp2
      go_ret
      exact ⟨rfl, hw⟩
  · have d0 : decide ((1048576 : Int) < (len0 : Int)) = true := by simp; omega
    go_enter Try.func13, Try.ntmps13
    go_wp2
    go_ret
    exact ⟨rfl, Below.refl _ _⟩
end Go.Proofs.Ytgmagocpacpafaa
