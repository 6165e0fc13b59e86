/- The walk of the law that a step is undone. -/
import Derived.Test.YtmlmbinpkmdjjaaWDrawL
import Derived.Test.YtmlmbinpkmdjjaaWStep
import Derived.Test.YtmlmbinpkmdjjaaWTail
namespace Go.Proofs.Ytmlmbinpkmdjjaa
open Go.RowKit SS
set_option maxHeartbeats 2000000 in
theorem walk_FnStepBack (a0 : Option Addr) (len0 cap0 : Nat) (z0 : List Int) (w : World) (h0 : IsRow .u8 w a0 len0 cap0 z0) :
    Calls Try.prog 10 #[.slice a0 len0 cap0] w fun e w' => e = .returned (.bool true) ∧ Below w.heap.size w w' := by
  obtain ⟨c0, l0, m0⟩ := h0.code
  clear h0
  by_cases hs0 : len0 ≤ 1048576
  · have d0 : decide ((1048576 : Int) < (len0 : Int)) = false := by simp; omega
    have D1 := Lib.hid (drawBack a0 len0 cap0 w c0 l0 m0)
    clear c0 l0 m0
    have hw := Below.refl w.heap.size w
    go_enter Try.func10, Try.ntmps10
    go_wp2_with fail
    refine (D1.out).mono ?_
    rintro e w1 ⟨s, t, x, rfl, hq⟩
    replace hw := afterB hw hq hw.size
    clear hq
    clear D1
    cases hr : (rv s t x && decide (t % 2 = 1)) with
    | false =>
      have C1 := Lib.hid fun w => back_no s t x w hr
      have C2 := Lib.hid fun w => sback_no s t x w hr
      have b3 := B3.new w1 35 (.int .i64 s) (.int .i64 t) (.int .i64 x)
      replace hw := hw.alloc hw.size (.cells #[.int .i64 s, .int .i64 t, .int .i64 x] 35)
      obtain ⟨b3_0, b3_1, b3_2, b3_3, b3_4, b3_5, b3_6⟩ := b3.facts
      go_wp2_with fail
      refine (C1.out _).mono ?_
      rintro e w2 ⟨rfl, hq⟩
      clear b3_0 b3_1 b3_2 b3_3 b3_4 b3_5 b3_6
      replace b3 := b3.belowS hq
      replace hw := afterB hw hq hw.size
      clear hq
      replace b3 := b3.alloc (.cells #[.int .i64 0, .int .i64 0, .int .i64 0] 35)
      have b4 := B3.new w2 35 (.int .i64 0) (.int .i64 0) (.int .i64 0)
      replace hw := hw.alloc hw.size (.cells #[.int .i64 0, .int .i64 0, .int .i64 0] 35)
      obtain ⟨b3_0, b3_1, b3_2, b3_3, b3_4, b3_5, b3_6⟩ := b3.facts
      go_wp2_with fail
      refine (C2.out _).mono ?_
      rintro e w3 ⟨rfl, hq⟩
      clear b3_0 b3_1 b3_2 b3_3 b3_4 b3_5 b3_6
      replace b3 := b3.belowS hq
      replace b4 := b4.belowS hq
      replace hw := afterB hw hq hw.size
      clear hq
      replace b3 := b3.alloc (.cells #[.int .i64 0, .int .i64 0, .int .i64 0] 35)
      replace b4 := b4.alloc (.cells #[.int .i64 0, .int .i64 0, .int .i64 0] 35)
      have b6 := B3.new w3 35 (.int .i64 0) (.int .i64 0) (.int .i64 0)
      replace hw := hw.alloc hw.size (.cells #[.int .i64 0, .int .i64 0, .int .i64 0] 35)
      cases hv : rv s t x with
      | false =>
        have C3 := Lib.hid fun w => valid_impl s t x w
        rw [hv] at C3
        clear hr hv
        obtain ⟨b3_0, b3_1, b3_2, b3_3, b3_4, b3_5, b3_6⟩ := b3.facts
        obtain ⟨b4_0, b4_1, b4_2, b4_3, b4_4, b4_5, b4_6⟩ := b4.facts
        obtain ⟨b6_0, b6_1, b6_2, b6_3, b6_4, b6_5, b6_6⟩ := b6.facts
        go_wp2_with fail
        refine (C3.out _).mono ?_
        rintro e w4 ⟨rfl, hq⟩
        clear b3_0 b3_1 b3_2 b3_3 b3_4 b3_5 b3_6 b4_0 b4_1 b4_2 b4_3 b4_4 b4_5 b4_6 b6_0 b6_1 b6_2 b6_3 b6_4 b6_5 b6_6
        replace b3 := b3.belowS hq
        replace b4 := b4.belowS hq
        replace b6 := b6.belowS hq
        replace hw := afterB hw hq hw.size
        clear hq
        obtain ⟨b3_0, b3_1, b3_2, b3_3, b3_4, b3_5, b3_6⟩ := b3.facts
        obtain ⟨b4_0, b4_1, b4_2, b4_3, b4_4, b4_5, b4_6⟩ := b4.facts
        obtain ⟨b6_0, b6_1, b6_2, b6_3, b6_4, b6_5, b6_6⟩ := b6.facts
        go_wp2_with fail
        refine (C3.out _).mono ?_
        rintro e w5 ⟨rfl, hq⟩
        clear b3_0 b3_1 b3_2 b3_3 b3_4 b3_5 b3_6 b4_0 b4_1 b4_2 b4_3 b4_4 b4_5 b4_6 b6_0 b6_1 b6_2 b6_3 b6_4 b6_5 b6_6
        replace b3 := b3.belowS hq
        replace b4 := b4.belowS hq
        replace b6 := b6.belowS hq
        replace hw := afterB hw hq hw.size
        clear hq
        go_wp2
        go_ret
        exact ⟨rfl, hw⟩
      | true =>
        have C3 := Lib.hid fun w => valid_impl s t x w
        rw [hv] at C3
        rw [hv, Bool.true_and, decide_eq_false_iff_not] at hr
        obtain ⟨s', t', x', rfl, rfl, rfl, hv'⟩ := rv_nat hv
        have he : (((t' : Nat) : Int) % 2 == 1) = false := by rw [beq_eq_false_iff_ne]; exact hr
        clear hr hv hv'
        obtain ⟨b3_0, b3_1, b3_2, b3_3, b3_4, b3_5, b3_6⟩ := b3.facts
        obtain ⟨b4_0, b4_1, b4_2, b4_3, b4_4, b4_5, b4_6⟩ := b4.facts
        obtain ⟨b6_0, b6_1, b6_2, b6_3, b6_4, b6_5, b6_6⟩ := b6.facts
        go_wp2_with fail
        refine (C3.out _).mono ?_
        rintro e w4 ⟨rfl, hq⟩
        clear b3_0 b3_1 b3_2 b3_3 b3_4 b3_5 b3_6 b4_0 b4_1 b4_2 b4_3 b4_4 b4_5 b4_6 b6_0 b6_1 b6_2 b6_3 b6_4 b6_5 b6_6
        replace b3 := b3.belowS hq
        replace b4 := b4.belowS hq
        replace b6 := b6.belowS hq
        replace hw := afterB hw hq hw.size
        clear hq
        obtain ⟨b3_0, b3_1, b3_2, b3_3, b3_4, b3_5, b3_6⟩ := b3.facts
        obtain ⟨b4_0, b4_1, b4_2, b4_3, b4_4, b4_5, b4_6⟩ := b4.facts
        obtain ⟨b6_0, b6_1, b6_2, b6_3, b6_4, b6_5, b6_6⟩ := b6.facts
        go_wp2_with fail
        refine (C3.out _).mono ?_
        rintro e w5 ⟨rfl, hq⟩
        clear b3_0 b3_1 b3_2 b3_3 b3_4 b3_5 b3_6 b4_0 b4_1 b4_2 b4_3 b4_4 b4_5 b4_6 b6_0 b6_1 b6_2 b6_3 b6_4 b6_5 b6_6
        replace b3 := b3.belowS hq
        replace b4 := b4.belowS hq
        replace b6 := b6.belowS hq
        replace hw := afterB hw hq hw.size
        clear hq
        obtain ⟨b3_0, b3_1, b3_2, b3_3, b3_4, b3_5, b3_6⟩ := b3.facts
        go_wp2
        go_ret
        exact ⟨rfl, hw⟩
    | true =>
      rw [Bool.and_eq_true, decide_eq_true_eq] at hr
      obtain ⟨s', t', x', rfl, rfl, rfl, hv⟩ := rv_nat hr.1
      have ho : t' % 2 = 1 := by omega
      have he : (((t' : Nat) : Int) % 2 == 1) = true := by rw [beq_iff_eq]; exact hr.2
      have C1 := Lib.hid fun w => back_yes s' t' x' w hv ho
      have C2 := Lib.hid fun w => sback_yes s' t' x' w hv ho
      have C3 := Lib.hid fun w => valid_impl s' t' x' w
      rw [hr.1] at C3
      have C4 := Lib.hid fun w => step_yes s' t' (bk s' t' x') w hv.bk
      rw [nx_bk s' t' x' (by have := hv.1; omega) (by have := hv.2.1; omega) hv.2.2.2.2 ho] at C4
      have C5 := Lib.hid fun w => step_yes s' t' x' w hv
      have C6 := Lib.hid fun w => back_yes s' t' (nx s' t' x') w hv.nx ho
      rw [bk_nx s' t' x' (by have := hv.1; omega) (by have := hv.2.1; omega) hv.2.2.2.2 ho] at C6
      clear hr hv ho
      generalize bk s' t' x' = y at C1 C2 C4
      generalize nx s' t' x' = z at C5 C6
      have b3 := B3.new w1 35 (.int .i64 s') (.int .i64 t') (.int .i64 x')
      replace hw := hw.alloc hw.size (.cells #[.int .i64 s', .int .i64 t', .int .i64 x'] 35)
      obtain ⟨b3_0, b3_1, b3_2, b3_3, b3_4, b3_5, b3_6⟩ := b3.facts
      go_wp2_with fail
      refine (C1.out _).mono ?_
      rintro e w2 ⟨rfl, hq⟩
      clear b3_0 b3_1 b3_2 b3_3 b3_4 b3_5 b3_6
      replace b3 := b3.belowS hq
      replace hw := afterB hw hq hw.size
      clear hq
      replace b3 := b3.alloc (.cells #[.int .i64 s', .int .i64 t', .int .i64 y] 35)
      have b4 := B3.new w2 35 (.int .i64 s') (.int .i64 t') (.int .i64 y)
      replace hw := hw.alloc hw.size (.cells #[.int .i64 s', .int .i64 t', .int .i64 y] 35)
      obtain ⟨b3_0, b3_1, b3_2, b3_3, b3_4, b3_5, b3_6⟩ := b3.facts
      go_wp2_with fail
      refine (C2.out _).mono ?_
      rintro e w3 ⟨rfl, hq⟩
      clear b3_0 b3_1 b3_2 b3_3 b3_4 b3_5 b3_6
      replace b3 := b3.belowS hq
      replace b4 := b4.belowS hq
      replace hw := afterB hw hq hw.size
      clear hq
      replace b3 := b3.alloc (.cells #[.int .i64 s', .int .i64 t', .int .i64 y] 35)
      replace b4 := b4.alloc (.cells #[.int .i64 s', .int .i64 t', .int .i64 y] 35)
      have b6 := B3.new w3 35 (.int .i64 s') (.int .i64 t') (.int .i64 y)
      replace hw := hw.alloc hw.size (.cells #[.int .i64 s', .int .i64 t', .int .i64 y] 35)
      obtain ⟨b3_0, b3_1, b3_2, b3_3, b3_4, b3_5, b3_6⟩ := b3.facts
      obtain ⟨b4_0, b4_1, b4_2, b4_3, b4_4, b4_5, b4_6⟩ := b4.facts
      obtain ⟨b6_0, b6_1, b6_2, b6_3, b6_4, b6_5, b6_6⟩ := b6.facts
      go_wp2_with fail
      refine (C3.out _).mono ?_
      rintro e w4 ⟨rfl, hq⟩
      clear b3_0 b3_1 b3_2 b3_3 b3_4 b3_5 b3_6 b4_0 b4_1 b4_2 b4_3 b4_4 b4_5 b4_6 b6_0 b6_1 b6_2 b6_3 b6_4 b6_5 b6_6
      replace b3 := b3.belowS hq
      replace b4 := b4.belowS hq
      replace b6 := b6.belowS hq
      replace hw := afterB hw hq hw.size
      clear hq
      obtain ⟨b3_0, b3_1, b3_2, b3_3, b3_4, b3_5, b3_6⟩ := b3.facts
      obtain ⟨b4_0, b4_1, b4_2, b4_3, b4_4, b4_5, b4_6⟩ := b4.facts
      obtain ⟨b6_0, b6_1, b6_2, b6_3, b6_4, b6_5, b6_6⟩ := b6.facts
      go_wp2_with fail
      refine (C4.out _).mono ?_
      rintro e w5 ⟨rfl, hq⟩
      clear b3_0 b3_1 b3_2 b3_3 b3_4 b3_5 b3_6 b4_0 b4_1 b4_2 b4_3 b4_4 b4_5 b4_6 b6_0 b6_1 b6_2 b6_3 b6_4 b6_5 b6_6
      replace b3 := b3.belowS hq
      replace b4 := b4.belowS hq
      replace b6 := b6.belowS hq
      replace hw := afterB hw hq hw.size
      clear hq
      replace b3 := b3.alloc (.cells #[.int .i64 s', .int .i64 t', .int .i64 x'] 35)
      replace b4 := b4.alloc (.cells #[.int .i64 s', .int .i64 t', .int .i64 x'] 35)
      replace b6 := b6.alloc (.cells #[.int .i64 s', .int .i64 t', .int .i64 x'] 35)
      have b8 := B3.new w5 35 (.int .i64 s') (.int .i64 t') (.int .i64 x')
      replace hw := hw.alloc hw.size (.cells #[.int .i64 s', .int .i64 t', .int .i64 x'] 35)
      obtain ⟨b3_0, b3_1, b3_2, b3_3, b3_4, b3_5, b3_6⟩ := b3.facts
      go_wp2_with fail
      refine (C5.out _).mono ?_
      rintro e w6 ⟨rfl, hq⟩
      clear b3_0 b3_1 b3_2 b3_3 b3_4 b3_5 b3_6
      replace b3 := b3.belowS hq
      replace b4 := b4.belowS hq
      replace b6 := b6.belowS hq
      replace b8 := b8.belowS hq
      replace hw := afterB hw hq hw.size
      clear hq
      replace b3 := b3.alloc (.cells #[.int .i64 s', .int .i64 t', .int .i64 z] 35)
      replace b4 := b4.alloc (.cells #[.int .i64 s', .int .i64 t', .int .i64 z] 35)
      replace b6 := b6.alloc (.cells #[.int .i64 s', .int .i64 t', .int .i64 z] 35)
      replace b8 := b8.alloc (.cells #[.int .i64 s', .int .i64 t', .int .i64 z] 35)
      have b10 := B3.new w6 35 (.int .i64 s') (.int .i64 t') (.int .i64 z)
      replace hw := hw.alloc hw.size (.cells #[.int .i64 s', .int .i64 t', .int .i64 z] 35)
      obtain ⟨b10_0, b10_1, b10_2, b10_3, b10_4, b10_5, b10_6⟩ := b10.facts
      go_wp2_with fail
      refine (C6.out _).mono ?_
      rintro e w7 ⟨rfl, hq⟩
      clear b10_0 b10_1 b10_2 b10_3 b10_4 b10_5 b10_6
      replace b3 := b3.belowS hq
      replace b4 := b4.belowS hq
      replace b6 := b6.belowS hq
      replace b8 := b8.belowS hq
      replace b10 := b10.belowS hq
      replace hw := afterB hw hq hw.size
      clear hq
      replace b3 := b3.alloc (.cells #[.int .i64 s', .int .i64 t', .int .i64 x'] 35)
      replace b4 := b4.alloc (.cells #[.int .i64 s', .int .i64 t', .int .i64 x'] 35)
      replace b6 := b6.alloc (.cells #[.int .i64 s', .int .i64 t', .int .i64 x'] 35)
      replace b8 := b8.alloc (.cells #[.int .i64 s', .int .i64 t', .int .i64 x'] 35)
      replace b10 := b10.alloc (.cells #[.int .i64 s', .int .i64 t', .int .i64 x'] 35)
      have b12 := B3.new w7 35 (.int .i64 s') (.int .i64 t') (.int .i64 x')
      replace hw := hw.alloc hw.size (.cells #[.int .i64 s', .int .i64 t', .int .i64 x'] 35)
      obtain ⟨b3_0, b3_1, b3_2, b3_3, b3_4, b3_5, b3_6⟩ := b3.facts
      obtain ⟨b8_0, b8_1, b8_2, b8_3, b8_4, b8_5, b8_6⟩ := b8.facts
      obtain ⟨b12_0, b12_1, b12_2, b12_3, b12_4, b12_5, b12_6⟩ := b12.facts
      go_wp2
      go_ret
      exact ⟨rfl, hw⟩
  · have d0 : decide ((1048576 : Int) < (len0 : Int)) = true := by simp; omega
    go_enter Try.func10, Try.ntmps10
    go_wp2
    go_ret
    exact ⟨rfl, Below.refl _ _⟩
end Go.Proofs.Ytmlmbinpkmdjjaa
