/- The walk of the law on reversed taps. -/
import Derived.Test.YtgmagocpacpafaaWDrawP
import Derived.Test.YtgmagocpacpafaaWTail
import Derived.Test.YtgmagocpacpafaaWMax
import Derived.Test.YtgmagocpacpafaaWRev
import Derived.Test.YtgmagocpacpafaaWPair
import Derived.Test.YtgmagocpacpafaaWFrom
import Derived.Test.YtgmagocpacpafaaWStrs2
import Derived.Test.YtgmagocpacpafaaPlainTurn2
namespace Go.Proofs.Ytgmagocpacpafaa
open Go.RowKit SS
set_option maxRecDepth 100000
theorem mx_isM {s t : Nat} (hv : VR s t 1) : mx s t = isM s t := by
  have h1 := isM_iff hv
  obtain ⟨⟨hI, _, _⟩, hN⟩ := hv.orb
  have hp : ((2 : Int) ^ s) = ((2 ^ s : Nat) : Int) := by simp
  have h4 := hv.four
  have h2 : mx s t = true ↔ Mxp s t := by
    unfold mx per1 Mxp
    rw [beq_iff_eq, hp]
    omega
  cases hb : mx s t with
  | true => exact (h1.2 (h2.1 hb)).symm
  | false =>
    cases hc : isM s t with
    | false => rfl
    | true => rw [h2.2 (h1.1 hc)] at hb; cases hb
set_option maxHeartbeats 2000000 in
theorem walk_FnReverse (a0 : Option Addr) (len0 cap0 : Nat) (z0 : List Int) (a1 : Option Addr) (len1 cap1 : Nat) (z1 : List Int) (w : World) (h0 : IsRow .u8 w a0 len0 cap0 z0) (h1 : IsRow .u8 w a1 len1 cap1 z1) :
    Calls Try.prog 5 #[.slice a0 len0 cap0, .slice a1 len1 cap1] w fun e w' => e = .returned (.bool true) ∧ Below w.heap.size w w' := by
  obtain ⟨c0, l0, m0⟩ := h0.code
  obtain ⟨c1, l1, m1⟩ := h1.code
  clear h0 h1
  by_cases hs0 : len0 ≤ 1048576
  · have d0 : decide ((1048576 : Int) < (len0 : Int)) = false := by simp; omega
    by_cases hs1 : len1 ≤ 1048576
    · have d1 : decide ((1048576 : Int) < (len1 : Int)) = false := by simp; omega
      have D1 := Lib.hid (drawReverse a0 len0 cap0 w c0 l0 m0)
      clear c0 l0 m0 c1 l1 m1
      have hw := Below.refl w.heap.size w
      go_enter Try.func5, Try.ntmps5
      go_wp2_with fail
      refine (D1.out).mono ?_
      rintro e w1 ⟨s, t, rfl, hq⟩
      replace hw := afterB hw hq hw.size
      clear hq
      clear D1
      cases hr : (tv s t && decide (t % 2 = 1)) with
      | false =>
        have C1 := Lib.hid fun w => rev_no s t w hr
        have C2 := Lib.hid fun w => srev_no s t w hr
        clear hr
        go_wp2_with fail
        refine (C1.out _).mono ?_
        rintro e wq ⟨rfl, rfl⟩
        go_wp2_with fail
        refine (C2.out _).mono ?_
        rintro e wq ⟨rfl, rfl⟩
        go_wp2_with fail
        refine (C2.out _).mono ?_
        rintro e wq ⟨rfl, rfl⟩
        go_wp2
        go_ret
        exact ⟨rfl, hw⟩
      | true =>
        rw [Bool.and_eq_true, decide_eq_true_eq] at hr
        obtain ⟨z, t', rfl, rfl, hv⟩ := tv_nat' hr.1
        have ho : t' % 2 = 1 := by omega
        have htv := hr.1
        clear hr
        obtain ⟨q1, q2, q3, q4, q5⟩ := turn_at z t' hv.1 hv.2.1 hv.2.2.2.1 ho
        have hvm : VR z (rvt z t') 1 := ⟨hv.1, hv.2.1, by omega, q3, hv.2.2.2.2⟩
        have C1 := Lib.hid fun w => rev_impl z t' w htv ho
        have C2 := Lib.hid fun w => quiet_below (srev z t' w htv ho)
        obtain ⟨p, HP⟩ : ∃ p, Hid (p = 2 ^ z) := ⟨2 ^ z, Lib.hid rfl⟩
        have hp2 : p ≤ 256 := by rw [HP.out]; exact Nat.pow_le_pow_right (n := 2) (by decide) hv.2.1
        have hp4 : 4 ≤ p := by rw [HP.out]; exact hv.four
        have hpi : ((2 : Int) ^ z) = (p : Int) := by rw [HP.out]; simp
        obtain ⟨X, hX, hXp⟩ : ∃ X : Nat, ((1 + (len1 : Int)) % (p : Int)) = (X : Int) ∧ X < p := ⟨(1 + len1) % p, by simp, Nat.mod_lt _ (by omega)⟩
        have hvX : VR z t' X := ⟨hv.1, hv.2.1, hv.2.2.1, hv.2.2.2.1, by rw [← HP.out]; exact hXp⟩
        have C3 := Lib.hid fun w => ssRun_yes z t' X 50 w hvX (by omega)
        rw [show ((50 : Nat) : Int) = 50 from rfl] at C3
        have C4 := Lib.hid fun w => ssTurned_yes (bs (run z t' 50 X)) w (by rw [bs_size, run_length]; omega)
        rw [bs_list] at C4
        have hQl : (bs (revL (run z t' 50 X))).data.toList = revL (run z t' 50 X) := rfl
        have hQs : (bs (revL (run z t' 50 X))).size = 50 := by rw [bs_size, revL_length, run_length]
        have h8 := hv.2.1
        have hEl : ((bs (revL (run z t' 50 X))).extract 0 z).data.toList = (revL (run z t' 50 X)).take z := by
          rw [ByteArray.data_extract, Array.toList_extract, hQl]
          simp
        have hEs : ((bs (revL (run z t' 50 X))).extract 0 z).size = z := by rw [ByteArray.size_extract, hQs]; omega
        have C5 := Lib.hid fun w => rfrom_yes z (rvt z t') ((bs (revL (run z t' 50 X))).extract 0 z) w (by rw [hEs]; unfold maxLen; omega) (tv_of hvm) (by rw [hEl]; unfold bitsB; rw [okB_take _ _ (okB_revL _ (okB_run _ _ _ _))]; simp; omega) hEs
        rw [hEl] at C5
        have hv2 : VR z (rvt z t') (frm ((revL (run z t' 50 X)).take z)) := ⟨hv.1, hv.2.1, by omega, q3, frm_take_lt _ _ (okB_revL _ (okB_run _ _ _ _)) (by rw [revL_length, run_length]; omega)⟩
        have C6 := Lib.hid fun w => ssRun_yes z (rvt z t') _ 50 w hv2 (by omega)
        rw [show ((50 : Nat) : Int) = 50 from rfl, turned_run hvX ho 50 (by omega)] at C6
        have C7 := Lib.hid fun w => rev_impl z (rvt z t') w (tv_of hvm) q4
        rw [q2] at C7
        have C8 := Lib.hid fun w => ismax_yes z (rvt z t') w hvm
        have C9 := Lib.hid fun w => ismax_yes z t' w hv
        rw [mx_isM hvm, q1] at C8
        rw [mx_isM hv] at C9
        have hz2 := hv.1
        have ht256 := lt256 hv.2.1 hv.2.2.2.1
        have hm256 := lt256 hv.2.1 q3
        clear q1 q2 q3 q4 q5 hvm hvX hv2 hv htv hQl hEl hEs ho
        generalize frm ((revL (run z t' 50 X)).take z) = Y at C5 C6
        generalize bs (revL (run z t' 50 X)) = Q2 at C4 C5 C6 hQs
        generalize bs (run z t' 50 X) = Q1 at C3 C4
        generalize rvt z t' = m at *
        generalize isM z t' = mb at C8 C9
        have dm : decide ((m : Int) < 0) = false := by simp
        have hQz : z ≤ Q2.size := by omega
        go_wp2_with fail
        refine (C1.out _).mono ?_
        rintro e wq ⟨rfl, rfl⟩
        go_wp2_with fail
        refine (C2.out _).mono ?_
        rintro e w2 ⟨rfl, hq⟩
        replace hw := afterB hw hq hw.size
        clear hq
        have hz0 : (0 : Int) ≤ (z : Int) := by omega
        go_wp2_with fail
        have b8 := B3.new w2 24 (.int .i64 z) (.int .i64 t') (.int .i64 X)
        replace hw := hw.alloc hw.size (.cells #[.int .i64 z, .int .i64 t', .int .i64 X] 24)
        obtain ⟨b8_0, b8_1, b8_2, b8_3, b8_4, b8_5, b8_6⟩ := b8.facts
        refine (C3.out _).mono ?_
        rintro e w3 ⟨rfl, hq⟩
        clear b8_0 b8_1 b8_2 b8_3 b8_4 b8_5 b8_6
        replace b8 := b8.belowS hq
        replace hw := afterB hw hq hw.size
        clear hq
        go_wp2_with fail
        refine (C4.out _).mono ?_
        rintro e w4 ⟨rfl, hq⟩
        replace b8 := b8.belowS hq
        replace hw := afterB hw hq hw.size
        clear hq
        go_wp2_with fail
        refine (C5.out _).mono ?_
        rintro e w5 ⟨rfl, hq⟩
        replace b8 := b8.belowS hq
        replace hw := afterB hw hq hw.size
        clear hq
        replace b8 := b8.alloc (.cells #[.int .i64 z, .int .i64 m, .int .i64 Y] 24)
        have b10 := B3.new w5 24 (.int .i64 z) (.int .i64 m) (.int .i64 Y)
        replace hw := hw.alloc hw.size (.cells #[.int .i64 z, .int .i64 m, .int .i64 Y] 24)
        obtain ⟨b10_0, b10_1, b10_2, b10_3, b10_4, b10_5, b10_6⟩ := b10.facts
        go_wp2_with fail
        refine (C6.out _).mono ?_
        rintro e w6 ⟨rfl, hq⟩
        clear b10_0 b10_1 b10_2 b10_3 b10_4 b10_5 b10_6
        replace b8 := b8.belowS hq
        replace b10 := b10.belowS hq
        replace hw := afterB hw hq hw.size
        clear hq
        go_wp2_with fail
        refine (C7.out _).mono ?_
        rintro e wq ⟨rfl, rfl⟩
        go_wp2_with fail
        refine (C8.out _).mono ?_
        rintro e w7 ⟨rfl, hq⟩
        replace b8 := b8.belowS hq
        replace b10 := b10.belowS hq
        replace hw := afterB hw hq hw.size
        clear hq
        go_wp2_with fail
        refine (C9.out _).mono ?_
        rintro e w8 ⟨rfl, hq⟩
        replace b8 := b8.belowS hq
        replace b10 := b10.belowS hq
        replace hw := afterB hw hq hw.size
        clear hq
        cases mb
        · skip
          go_wp2
          go_ret
          exact ⟨rfl, hw⟩
        · skip
          go_wp2
          go_ret
          exact ⟨rfl, hw⟩
    · have d1 : decide ((1048576 : Int) < (len1 : Int)) = true := by simp; omega
      go_enter Try.func5, Try.ntmps5
      go_wp2
      go_ret
      exact ⟨rfl, Below.refl _ _⟩
  · have d0 : decide ((1048576 : Int) < (len0 : Int)) = true := by simp; omega
    go_enter Try.func5, Try.ntmps5
    go_wp2
    go_ret
    exact ⟨rfl, Below.refl _ _⟩
end Go.Proofs.Ytgmagocpacpafaa
