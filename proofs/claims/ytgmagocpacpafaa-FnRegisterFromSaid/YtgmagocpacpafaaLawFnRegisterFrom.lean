/- The walk of the law on registers made of their first bits. -/
import Derived.Test.YtgmagocpacpafaaWDrawF
import Derived.Test.YtgmagocpacpafaaWTail
import Derived.Test.YtgmagocpacpafaaWStrs
import Derived.Test.YtgmagocpacpafaaPlainPred
import Derived.Test.YtgmagocpacpafaaWMax
import Derived.Test.YtgmagocpacpafaaWFrom
namespace Go.Proofs.Ytgmagocpacpafaa
open Go.RowKit SS
set_option maxRecDepth 100000
set_option maxHeartbeats 2000000 in
theorem walk_FnRegisterFrom (a0 : Option Addr) (len0 cap0 : Nat) (z0 : List Int) (w : World) (h0 : IsRow .u8 w a0 len0 cap0 z0) :
    Calls Try.prog 4 #[.slice a0 len0 cap0] w fun e w' => e = .returned (.bool true) ∧ Below w.heap.size w w' := by
  obtain ⟨c0, l0, m0⟩ := h0.code
  clear h0
  by_cases hs0 : len0 ≤ 1048576
  · have d0 : decide ((1048576 : Int) < (len0 : Int)) = false := by simp; omega
    have D1 := Lib.hid (drawFrom a0 len0 cap0 w c0 l0 m0)
    clear c0 l0 m0
    have hw := Below.refl w.heap.size w
    go_enter Try.func4, Try.ntmps4
    go_wp2_with fail
    refine (D1.out).mono ?_
    rintro e w1 ⟨z, t, q, rfl, hsz, hq⟩
    replace hw := afterB hw hq hw.size
    clear hq
    clear D1
    have hml : q.size ≤ maxLen := by unfold maxLen; omega
    by_cases hc : tv z t = true ∧ bitsB q.data.toList = true ∧ (q.size : Int) = z
    · skip
      obtain ⟨h1, h2, h3⟩ := hc
      obtain ⟨s', t', rfl, rfl, hv1⟩ := tv_nat' h1
      have hz : q.size = s' := by omega
      have C1 := Lib.hid fun w => rfrom_yes s' t' q w hml h1 h2 hz
      have C2 := Lib.hid fun w => srfrom_yes s' t' q w hml h1 h2 hz
      have hok : okB q.data.toList = true := by unfold bitsB at h2; rw [Bool.and_eq_true] at h2; exact h2.2
      have hlen : q.data.toList.length = s' := by rw [size_list, hz]
      have hX : frm q.data.toList < 2 ^ s' := by have := frm_lt _ hok; rwa [hlen] at this
      have hv : VR s' t' (frm q.data.toList) := ⟨hv1.1, hv1.2.1, hv1.2.2.1, hv1.2.2.2.1, hX⟩
      have h8 := hv.2.1
      have C3 := Lib.hid fun w => ssRun_yes s' t' _ s' w hv (by omega)
      rw [run_frm s' t' _ hv1.1 h8 hv1.2.2.1 hv1.2.2.2.1 hlen hok, show bs q.data.toList = q from rfl] at C3
      clear h1 h2 h3 hz hv1 hok hlen hX hv hml hsz
      generalize frm q.data.toList = X at C1 C2 C3
      go_wp2_with fail
      refine (C1.out _).mono ?_
      rintro e w2 ⟨rfl, hq⟩
      replace hw := afterB hw hq hw.size
      clear hq
      have b6 := B3.new w2 24 (.int .i64 s') (.int .i64 t') (.int .i64 X)
      replace hw := hw.alloc hw.size (.cells #[.int .i64 s', .int .i64 t', .int .i64 X] 24)
      go_wp2_with fail
      refine (C2.out _).mono ?_
      rintro e w3 ⟨rfl, hq⟩
      replace b6 := b6.belowS hq
      replace hw := afterB hw hq hw.size
      clear hq
      replace b6 := b6.alloc (.cells #[.int .i64 s', .int .i64 t', .int .i64 X] 24)
      have b8 := B3.new w3 24 (.int .i64 s') (.int .i64 t') (.int .i64 X)
      replace hw := hw.alloc hw.size (.cells #[.int .i64 s', .int .i64 t', .int .i64 X] 24)
      obtain ⟨b6_0, b6_1, b6_2, b6_3, b6_4, b6_5, b6_6⟩ := b6.facts
      obtain ⟨b8_0, b8_1, b8_2, b8_3, b8_4, b8_5, b8_6⟩ := b8.facts
      go_wp2_with fail
      refine (C3.out _).mono ?_
      rintro e w4 ⟨rfl, hq⟩
      clear b6_0 b6_1 b6_2 b6_3 b6_4 b6_5 b6_6 b8_0 b8_1 b8_2 b8_3 b8_4 b8_5 b8_6
      replace b6 := b6.belowS hq
      replace b8 := b8.belowS hq
      replace hw := afterB hw hq hw.size
      clear hq
      obtain ⟨b6_0, b6_1, b6_2, b6_3, b6_4, b6_5, b6_6⟩ := b6.facts
      obtain ⟨b8_0, b8_1, b8_2, b8_3, b8_4, b8_5, b8_6⟩ := b8.facts
      go_wp2_with fail
      refine (C1.out _).mono ?_
      rintro e w5 ⟨rfl, hq⟩
      clear b6_0 b6_1 b6_2 b6_3 b6_4 b6_5 b6_6 b8_0 b8_1 b8_2 b8_3 b8_4 b8_5 b8_6
      replace b6 := b6.belowS hq
      replace b8 := b8.belowS hq
      replace hw := afterB hw hq hw.size
      clear hq
      replace b6 := b6.alloc (.cells #[.int .i64 s', .int .i64 t', .int .i64 X] 24)
      replace b8 := b8.alloc (.cells #[.int .i64 s', .int .i64 t', .int .i64 X] 24)
      have b10 := B3.new w5 24 (.int .i64 s') (.int .i64 t') (.int .i64 X)
      replace hw := hw.alloc hw.size (.cells #[.int .i64 s', .int .i64 t', .int .i64 X] 24)
      obtain ⟨b6_0, b6_1, b6_2, b6_3, b6_4, b6_5, b6_6⟩ := b6.facts
      obtain ⟨b8_0, b8_1, b8_2, b8_3, b8_4, b8_5, b8_6⟩ := b8.facts
      obtain ⟨b10_0, b10_1, b10_2, b10_3, b10_4, b10_5, b10_6⟩ := b10.facts
      go_wp2_with fail
      refine (C3.out _).mono ?_
      rintro e w6 ⟨rfl, hq⟩
      clear b6_0 b6_1 b6_2 b6_3 b6_4 b6_5 b6_6 b8_0 b8_1 b8_2 b8_3 b8_4 b8_5 b8_6 b10_0 b10_1 b10_2 b10_3 b10_4 b10_5 b10_6
      replace b6 := b6.belowS hq
      replace b8 := b8.belowS hq
      replace b10 := b10.belowS hq
      replace hw := afterB hw hq hw.size
      clear hq
      obtain ⟨b6_0, b6_1, b6_2, b6_3, b6_4, b6_5, b6_6⟩ := b6.facts
      obtain ⟨b8_0, b8_1, b8_2, b8_3, b8_4, b8_5, b8_6⟩ := b8.facts
      obtain ⟨b10_0, b10_1, b10_2, b10_3, b10_4, b10_5, b10_6⟩ := b10.facts
      go_wp2
      go_ret
      exact ⟨rfl, hw⟩
    · skip
      have C1 := Lib.hid fun w => rfrom_no z t q w hml hc
      have C2 := Lib.hid fun w => srfrom_no z t q w hml hc
      clear hc hml hsz
      go_wp2_with fail
      refine (C1.out _).mono ?_
      rintro e w2 ⟨rfl, hq⟩
      replace hw := afterB hw hq hw.size
      clear hq
      have b6 := B3.new w2 24 (.int .i64 0) (.int .i64 0) (.int .i64 0)
      replace hw := hw.alloc hw.size (.cells #[.int .i64 0, .int .i64 0, .int .i64 0] 24)
      go_wp2_with fail
      refine (C2.out _).mono ?_
      rintro e w3 ⟨rfl, hq⟩
      replace b6 := b6.belowS hq
      replace hw := afterB hw hq hw.size
      clear hq
      replace b6 := b6.alloc (.cells #[.int .i64 0, .int .i64 0, .int .i64 0] 24)
      have b8 := B3.new w3 24 (.int .i64 0) (.int .i64 0) (.int .i64 0)
      replace hw := hw.alloc hw.size (.cells #[.int .i64 0, .int .i64 0, .int .i64 0] 24)
      obtain ⟨b6_0, b6_1, b6_2, b6_3, b6_4, b6_5, b6_6⟩ := b6.facts
      obtain ⟨b8_0, b8_1, b8_2, b8_3, b8_4, b8_5, b8_6⟩ := b8.facts
      go_wp2
      go_ret
      exact ⟨rfl, hw⟩
  · have d0 : decide ((1048576 : Int) < (len0 : Int)) = true := by simp; omega
    go_enter Try.func4, Try.ntmps4
    go_wp2
    go_ret
    exact ⟨rfl, Below.refl _ _⟩
end Go.Proofs.Ytgmagocpacpafaa
