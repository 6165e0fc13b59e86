/- The walk of the law on balances of sums. -/
import Derived.Test.YtibnlaphkmnhfaaWDrawU
import Derived.Test.YtibnlaphkmnhfaaWMany
import Derived.Test.YtibnlaphkmnhfaaWShift
import Derived.Test.YtibnlaphkmnhfaaPlainCor
import Derived.Test.YtibnlaphkmnhfaaWTail
namespace Go.Proofs.Ytibnlaphkmnhfaa
open Go.RowKit SS
set_option maxRecDepth 100000
set_option maxHeartbeats 2000000 in
theorem walk_FnBalance (a0 : Option Addr) (len0 cap0 : Nat) (z0 : List Int) (w : World) (h0 : IsRow .u8 w a0 len0 cap0 z0) :
    Calls Try.prog 7 #[.slice a0 len0 cap0] w fun e w' => e = .returned (.bool true) ∧ Below w.heap.size w w' := by
  obtain ⟨c0, l0, m0⟩ := h0.code
  clear h0
  by_cases hs0 : len0 ≤ 1048576
  · have d0 : decide ((1048576 : Int) < (len0 : Int)) = false := by simp; omega
    have D1 := Lib.hid (drawCross a0 len0 cap0 w c0 l0 m0)
    clear c0 l0 m0
    have hw := Below.refl w.heap.size w
    go_enter Try.func7, Try.ntmps7
    go_wp2_with fail
    refine (D1.out).mono ?_
    rintro e w1 ⟨a, b, k, rfl, hsa, hsb, hq⟩
    replace hw := afterB hw hq hw.size
    clear hq
    clear D1
    have hma : a.size ≤ maxLen := by unfold maxLen; omega
    have hmb : b.size ≤ maxLen := by unfold maxLen; omega
    cases hp : pv a b with
    | false =>
      have C1 := Lib.hid fun w => quiet_below (cross_impl_no a b k w hma hmb hp)
      have C2 := Lib.hid fun w => scross_no a b k w hma hmb hp
      clear hp hma hmb hsa hsb
      go_wp2_with fail
      refine (C1.out _).mono ?_
      rintro e w2 ⟨rfl, hq⟩
      replace hw := afterB hw hq hw.size
      clear hq
      go_wp2_with fail
      refine (C2.out _).mono ?_
      rintro e w3 ⟨rfl, hq⟩
      replace hw := afterB hw hq hw.size
      clear hq
      go_wp2
      go_ret
      exact ⟨rfl, hw⟩
    | true =>
      obtain ⟨ha, hb, hz⟩ := pv_yes hp
      obtain ⟨h1, h2⟩ := sv_size ha
      obtain ⟨_, _, hoa⟩ := sv_yes ha
      obtain ⟨_, _, hob⟩ := sv_yes hb
      have hll : a.data.toList.length = b.data.toList.length := by rw [size_list, size_list, hz]
      have hkl := md_lt k b.size (by omega)
      have C1 := Lib.hid fun w => quiet_below (cross_impl a b k w hp)
      have C2 := Lib.hid fun w => scross_yes a b k w hp
      have C3 := Lib.hid fun w => ssShift_yes b k w hb
      have C4 := Lib.hid fun w => addb_impl a (shf k b) w (pv_mk ha (shf_sv _ _ hb) (by rw [shf_size _ _ (by omega), hz]))
      have hxv : sv (bs (addL a.data.toList (shf k b).data.toList)).data.toList = true := by rw [bs_list]; exact sv_mk (by rw [addL_length, size_list]; exact h1) (by rw [addL_length, size_list]; exact h2) (okB_addL _ _)
      have C5 := Lib.hid fun w => same_below (bal_impl (bs (addL a.data.toList (shf k b).data.toList)) w hxv)
      rw [bs_list] at C5
      have hbc : bal (addL a.data.toList (shf k b).data.toList) = - cor a.data.toList b.data.toList (md k b.size) := by
        have := bal_cor a.data.toList b.data.toList (md k b.size) hll (by rw [size_list]; exact hkl) hoa hob
        unfold shf
        rw [rotS_list]
        omega
      rw [hbc] at C5
      have C6 := Lib.hid fun w => same_below (bal_impl a w ha)
      have C7 := Lib.hid fun w => same_below (sbal_yes a w ha)
      have hcb := cor_bd a.data.toList b.data.toList (md k b.size)
      have hpar := cor_par a.data.toList b.data.toList (md k b.size) hoa hob
      rw [size_list] at hcb hpar
      clear hbc hxv hkl ha hb hoa hob hll hp hma hmb hsa hsb
      generalize cor a.data.toList b.data.toList (md k b.size) = c at *
      generalize bs (addL a.data.toList (shf k b).data.toList) = x at *
      generalize shf k b = sb at *
      generalize bal a.data.toList = ba at *
      have hcb1 : -255 ≤ c ∧ c ≤ 255 := by omega
      have dz : IntKind.i64.wrap (c - (a.size : Int)) = c - (a.size : Int) := by rw [IntKind.wrap_i64]; omega
      have dp : ((c - (a.size : Int)).tmod 2 == 0) = true := by rw [beq_iff_eq]; exact Int.tmod_eq_zero_of_dvd (Int.dvd_of_emod_eq_zero hpar)
      have d1 : decide (c ≤ (a.size : Int)) = true := by simp; omega
      have d2 : decide (-(a.size : Int) ≤ c) = true := by simp; omega
      clear hcb hpar hz dz
      go_wp2_with fail
      refine (C1.out _).mono ?_
      rintro e w2 ⟨rfl, hq⟩
      replace hw := afterB hw hq hw.size
      clear hq
      go_wp2_with fail
      refine (C2.out _).mono ?_
      rintro e w3 ⟨rfl, hq⟩
      replace hw := afterB hw hq hw.size
      clear hq
      go_wp2_with fail
      refine (C3.out _).mono ?_
      rintro e w4 ⟨rfl, hq⟩
      replace hw := afterB hw hq hw.size
      clear hq
      go_wp2_with fail
      refine (C4.out _).mono ?_
      rintro e w5 ⟨rfl, hq⟩
      replace hw := afterB hw hq hw.size
      clear hq
      go_wp2_with fail
      refine (C5.out _).mono ?_
      rintro e w6 ⟨rfl, hq⟩
      replace hw := afterB hw hq hw.size
      clear hq
      go_wp2_with fail
      refine (C6.out _).mono ?_
      rintro e w7 ⟨rfl, hq⟩
      replace hw := afterB hw hq hw.size
      clear hq
      go_wp2_with fail
      refine (C7.out _).mono ?_
      rintro e w8 ⟨rfl, hq⟩
      replace hw := afterB hw hq hw.size
      clear hq
      go_wp2
      go_ret
      exact ⟨rfl, hw⟩
  · have d0 : decide ((1048576 : Int) < (len0 : Int)) = true := by simp; omega
    go_enter Try.func7, Try.ntmps7
    go_wp2
    go_ret
    exact ⟨rfl, Below.refl _ _⟩
end Go.Proofs.Ytibnlaphkmnhfaa
