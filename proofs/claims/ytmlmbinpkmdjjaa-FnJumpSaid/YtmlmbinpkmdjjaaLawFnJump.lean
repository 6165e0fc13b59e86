/- The walk of the law that jumps add up. -/
import Derived.Test.YtmlmbinpkmdjjaaWDrawL
import Derived.Test.YtmlmbinpkmdjjaaWJp
import Derived.Test.YtmlmbinpkmdjjaaWTail
namespace Go.Proofs.Ytmlmbinpkmdjjaa
open Go.RowKit SS
set_option maxHeartbeats 2000000 in
theorem walk_FnJump (a0 : Option Addr) (len0 cap0 : Nat) (z0 : List Int) (a1 : Option Addr) (len1 cap1 : Nat) (z1 : List Int) (w : World) (h0 : IsRow .u8 w a0 len0 cap0 z0) (h1 : IsRow .u8 w a1 len1 cap1 z1) :
    Calls Try.prog 12 #[.slice a0 len0 cap0, .slice a1 len1 cap1] w fun e w' => e = .returned (.bool true) ∧ Below w.heap.size w w' := by
  obtain ⟨c0, l0, m0⟩ := h0.code
  obtain ⟨c1, l1, m1⟩ := h1.code
  clear h0 h1
  by_cases hs0 : len0 ≤ 1048576
  · have d0 : decide ((1048576 : Int) < (len0 : Int)) = false := by simp; omega
    by_cases hs1 : len1 ≤ 1048576
    · have d1 : decide ((1048576 : Int) < (len1 : Int)) = false := by simp; omega
      have D1 := Lib.hid (drawJump a0 len0 cap0 w c0 l0 m0)
      clear c0 l0 m0 c1 l1 m1
      have hw := Below.refl w.heap.size w
      go_enter Try.func12, Try.ntmps12
      go_wp2_with fail
      refine (D1.out).mono ?_
      rintro e w1 ⟨s, t, x, k, rfl, hq⟩
      replace hw := afterB hw hq hw.size
      clear hq
      clear D1
      cases hr : jv s t x k with
      | false =>
        have C1 := Lib.hid fun w => jump_no s t x k w hr
        have C2 := Lib.hid fun w => sjump_no s t x k w hr
        clear hr
        have b5 := B3.new w1 35 (.int .i64 s) (.int .i64 t) (.int .i64 x)
        replace hw := hw.alloc hw.size (.cells #[.int .i64 s, .int .i64 t, .int .i64 x] 35)
        obtain ⟨b5_0, b5_1, b5_2, b5_3, b5_4, b5_5, b5_6⟩ := b5.facts
        go_wp2_with fail
        refine (C1.out _).mono ?_
        rintro e w2 ⟨rfl, hq⟩
        clear b5_0 b5_1 b5_2 b5_3 b5_4 b5_5 b5_6
        replace b5 := b5.belowS hq
        replace hw := afterB hw hq hw.size
        clear hq
        replace b5 := b5.alloc (.cells #[.int .i64 0, .int .i64 0, .int .i64 0] 35)
        have b7 := B3.new w2 35 (.int .i64 0) (.int .i64 0) (.int .i64 0)
        replace hw := hw.alloc hw.size (.cells #[.int .i64 0, .int .i64 0, .int .i64 0] 35)
        obtain ⟨b5_0, b5_1, b5_2, b5_3, b5_4, b5_5, b5_6⟩ := b5.facts
        go_wp2_with fail
        refine (C2.out _).mono ?_
        rintro e w3 ⟨rfl, hq⟩
        clear b5_0 b5_1 b5_2 b5_3 b5_4 b5_5 b5_6
        replace b5 := b5.belowS hq
        replace b7 := b7.belowS hq
        replace hw := afterB hw hq hw.size
        clear hq
        replace b5 := b5.alloc (.cells #[.int .i64 0, .int .i64 0, .int .i64 0] 35)
        replace b7 := b7.alloc (.cells #[.int .i64 0, .int .i64 0, .int .i64 0] 35)
        have b9 := B3.new w3 35 (.int .i64 0) (.int .i64 0) (.int .i64 0)
        replace hw := hw.alloc hw.size (.cells #[.int .i64 0, .int .i64 0, .int .i64 0] 35)
        obtain ⟨b7_0, b7_1, b7_2, b7_3, b7_4, b7_5, b7_6⟩ := b7.facts
        obtain ⟨b9_0, b9_1, b9_2, b9_3, b9_4, b9_5, b9_6⟩ := b9.facts
        go_wp2
        go_ret
        exact ⟨rfl, hw⟩
      | true =>
        obtain ⟨s', t', x', rfl, rfl, rfl, hv, k1, k2, k3⟩ := jv_nat hr
        clear hr
        have C1 := Lib.hid fun w => jump_jp s' t' x' k w hv k1 k2 k3
        have C2 := Lib.hid fun w => sjump_jp s' t' x' k w hv k1 k2 k3
        obtain ⟨m, hm, hmlt⟩ : ∃ m : Nat, ((len1 : Int) % 60) = (m : Int) ∧ m < 60 := ⟨len1 % 60, by omega, by omega⟩
        have hv2 := hv.jp k
        have C3 := Lib.hid fun w => jump_pos s' t' _ m w hv2 (by omega)
        rw [jp_it s' t' x' m k hv k3] at C3
        have HV := Lib.hid hv
        have HV2 := Lib.hid hv2
        have HJ := Lib.hid (jp_back s' t' x' k hv)
        clear hv hv2
        generalize hy : jp s' t' k x' = y at C1 C2 C3 HV2 HJ
        clear hy
        obtain ⟨q, hq⟩ : ∃ q, Hid (q = jp s' t' (k + m) x') := ⟨_, Lib.hid rfl⟩
        rw [← hq.out] at C3
        have b5 := B3.new w1 35 (.int .i64 s') (.int .i64 t') (.int .i64 x')
        replace hw := hw.alloc hw.size (.cells #[.int .i64 s', .int .i64 t', .int .i64 x'] 35)
        obtain ⟨b5_0, b5_1, b5_2, b5_3, b5_4, b5_5, b5_6⟩ := b5.facts
        go_wp2_with fail
        refine (C1.out _).mono ?_
        rintro e w2 ⟨rfl, hq⟩
        clear b5_0 b5_1 b5_2 b5_3 b5_4 b5_5 b5_6
        replace b5 := b5.belowS hq
        replace hw := afterB hw hq hw.size
        clear hq
        replace b5 := b5.alloc (.cells #[.int .i64 s', .int .i64 t', .int .i64 y] 35)
        have b7 := B3.new w2 35 (.int .i64 s') (.int .i64 t') (.int .i64 y)
        replace hw := hw.alloc hw.size (.cells #[.int .i64 s', .int .i64 t', .int .i64 y] 35)
        obtain ⟨b5_0, b5_1, b5_2, b5_3, b5_4, b5_5, b5_6⟩ := b5.facts
        go_wp2_with fail
        refine (C2.out _).mono ?_
        rintro e w3 ⟨rfl, hq⟩
        clear b5_0 b5_1 b5_2 b5_3 b5_4 b5_5 b5_6
        replace b5 := b5.belowS hq
        replace b7 := b7.belowS hq
        replace hw := afterB hw hq hw.size
        clear hq
        replace b5 := b5.alloc (.cells #[.int .i64 s', .int .i64 t', .int .i64 y] 35)
        replace b7 := b7.alloc (.cells #[.int .i64 s', .int .i64 t', .int .i64 y] 35)
        have b9 := B3.new w3 35 (.int .i64 s') (.int .i64 t') (.int .i64 y)
        replace hw := hw.alloc hw.size (.cells #[.int .i64 s', .int .i64 t', .int .i64 y] 35)
        obtain ⟨b7_0, b7_1, b7_2, b7_3, b7_4, b7_5, b7_6⟩ := b7.facts
        obtain ⟨b9_0, b9_1, b9_2, b9_3, b9_4, b9_5, b9_6⟩ := b9.facts
        go_wp2_with fail
        refine (C3.out _).mono ?_
        rintro e w4 ⟨rfl, hq⟩
        clear b7_0 b7_1 b7_2 b7_3 b7_4 b7_5 b7_6 b9_0 b9_1 b9_2 b9_3 b9_4 b9_5 b9_6
        replace b5 := b5.belowS hq
        replace b7 := b7.belowS hq
        replace b9 := b9.belowS hq
        replace hw := afterB hw hq hw.size
        clear hq
        replace b5 := b5.alloc (.cells #[.int .i64 s', .int .i64 t', .int .i64 q] 35)
        replace b7 := b7.alloc (.cells #[.int .i64 s', .int .i64 t', .int .i64 q] 35)
        replace b9 := b9.alloc (.cells #[.int .i64 s', .int .i64 t', .int .i64 q] 35)
        have b12 := B3.new w4 35 (.int .i64 s') (.int .i64 t') (.int .i64 q)
        replace hw := hw.alloc hw.size (.cells #[.int .i64 s', .int .i64 t', .int .i64 q] 35)
        have E4 : Hid ((∃ r, ∀ w, Calls Try.prog 43 #[.agg #[.int .i64 (s' : Int), .int .i64 (t' : Int), .int .i64 (x' : Int)], .int .i64 (k + m)] w fun e w' => e = .returned r ∧ Below w.heap.size w w' ∧ (r = .tuple #[.agg #[.int .i64 s', .int .i64 t', .int .i64 q], .bool true] ∨ r = .tuple #[.agg #[.int .i64 0, .int .i64 0, .int .i64 0], .bool false]))) := by
          cases hj : jv s' t' x' (k + m) with
          | false => exact ⟨_, fun w => (jump_no _ _ _ _ w hj).mono fun _ _ ⟨h1, h2⟩ => ⟨h1, h2, .inr rfl⟩⟩
          | true =>
            obtain ⟨s2, t2, x2, e1, e2, e3, hv, j1, j2, j3⟩ := jv_nat hj
            obtain rfl : s' = s2 := by omega
            obtain rfl : t' = t2 := by omega
            obtain rfl : x' = x2 := by omega
            exact ⟨_, fun w => (jump_jp _ _ _ _ w hv j1 j2 j3).mono fun _ _ ⟨h1, h2⟩ => ⟨h1, h2, .inl (by rw [hq.out])⟩⟩
        obtain ⟨r4, C4⟩ := E4.out
        clear E4
        have hvt := vr_tlt HV.out
        have ht0 : (0 : Int) ≤ t' := by omega
        by_cases hk0 : k ≤ 0
        · skip
          have dk : decide (k ≤ 0) = true := decide_eq_true hk0
          have C5 := Lib.hid fun w => jump_jp s' t' y (-k) w HV2.out (by omega) (by omega) (by omega)
          rw [HJ.out (by omega)] at C5
          clear hq HJ HV HV2
          obtain ⟨b5_0, b5_1, b5_2, b5_3, b5_4, b5_5, b5_6⟩ := b5.facts
          have hwx := hw
          go_wp2_with fail
          refine (C4 _).mono ?_
          rintro e w5 ⟨rfl, hq4, rfl | rfl⟩
          · skip
            clear b5_0 b5_1 b5_2 b5_3 b5_4 b5_5 b5_6
            clear hwx
            replace b5 := b5.belowS hq4
            replace b7 := b7.belowS hq4
            replace b9 := b9.belowS hq4
            replace b12 := b12.belowS hq4
            replace hw := afterB hw hq4 hw.size
            clear hq4
            replace b5 := b5.alloc (.cells #[.int .i64 s', .int .i64 t', .int .i64 q] 35)
            replace b7 := b7.alloc (.cells #[.int .i64 s', .int .i64 t', .int .i64 q] 35)
            replace b9 := b9.alloc (.cells #[.int .i64 s', .int .i64 t', .int .i64 q] 35)
            replace b12 := b12.alloc (.cells #[.int .i64 s', .int .i64 t', .int .i64 q] 35)
            have b14 := B3.new w5 35 (.int .i64 s') (.int .i64 t') (.int .i64 q)
            replace hw := hw.alloc hw.size (.cells #[.int .i64 s', .int .i64 t', .int .i64 q] 35)
            obtain ⟨b7_0, b7_1, b7_2, b7_3, b7_4, b7_5, b7_6⟩ := b7.facts
            go_wp2_with fail
            refine (C5.out _).mono ?_
            rintro e w6 ⟨rfl, hq⟩
            clear b7_0 b7_1 b7_2 b7_3 b7_4 b7_5 b7_6
            replace b5 := b5.belowS hq
            replace b7 := b7.belowS hq
            replace b9 := b9.belowS hq
            replace b12 := b12.belowS hq
            replace b14 := b14.belowS hq
            replace hw := afterB hw hq hw.size
            clear hq
            replace b5 := b5.alloc (.cells #[.int .i64 s', .int .i64 t', .int .i64 x'] 35)
            replace b7 := b7.alloc (.cells #[.int .i64 s', .int .i64 t', .int .i64 x'] 35)
            replace b9 := b9.alloc (.cells #[.int .i64 s', .int .i64 t', .int .i64 x'] 35)
            replace b12 := b12.alloc (.cells #[.int .i64 s', .int .i64 t', .int .i64 x'] 35)
            replace b14 := b14.alloc (.cells #[.int .i64 s', .int .i64 t', .int .i64 x'] 35)
            have b16 := B3.new w6 35 (.int .i64 s') (.int .i64 t') (.int .i64 x')
            replace hw := hw.alloc hw.size (.cells #[.int .i64 s', .int .i64 t', .int .i64 x'] 35)
            obtain ⟨b5_0, b5_1, b5_2, b5_3, b5_4, b5_5, b5_6⟩ := b5.facts
            obtain ⟨b12_0, b12_1, b12_2, b12_3, b12_4, b12_5, b12_6⟩ := b12.facts
            obtain ⟨b14_0, b14_1, b14_2, b14_3, b14_4, b14_5, b14_6⟩ := b14.facts
            obtain ⟨b16_0, b16_1, b16_2, b16_3, b16_4, b16_5, b16_6⟩ := b16.facts
            go_wp2
            go_ret
            exact ⟨rfl, hw⟩
          · skip
            clear b5_0 b5_1 b5_2 b5_3 b5_4 b5_5 b5_6
            clear hwx
            replace b5 := b5.belowS hq4
            replace b7 := b7.belowS hq4
            replace b9 := b9.belowS hq4
            replace b12 := b12.belowS hq4
            replace hw := afterB hw hq4 hw.size
            clear hq4
            replace b5 := b5.alloc (.cells #[.int .i64 0, .int .i64 0, .int .i64 0] 35)
            replace b7 := b7.alloc (.cells #[.int .i64 0, .int .i64 0, .int .i64 0] 35)
            replace b9 := b9.alloc (.cells #[.int .i64 0, .int .i64 0, .int .i64 0] 35)
            replace b12 := b12.alloc (.cells #[.int .i64 0, .int .i64 0, .int .i64 0] 35)
            have b14 := B3.new w5 35 (.int .i64 0) (.int .i64 0) (.int .i64 0)
            replace hw := hw.alloc hw.size (.cells #[.int .i64 0, .int .i64 0, .int .i64 0] 35)
            obtain ⟨b7_0, b7_1, b7_2, b7_3, b7_4, b7_5, b7_6⟩ := b7.facts
            go_wp2_with fail
            refine (C5.out _).mono ?_
            rintro e w6 ⟨rfl, hq⟩
            clear b7_0 b7_1 b7_2 b7_3 b7_4 b7_5 b7_6
            replace b5 := b5.belowS hq
            replace b7 := b7.belowS hq
            replace b9 := b9.belowS hq
            replace b12 := b12.belowS hq
            replace b14 := b14.belowS hq
            replace hw := afterB hw hq hw.size
            clear hq
            replace b5 := b5.alloc (.cells #[.int .i64 s', .int .i64 t', .int .i64 x'] 35)
            replace b7 := b7.alloc (.cells #[.int .i64 s', .int .i64 t', .int .i64 x'] 35)
            replace b9 := b9.alloc (.cells #[.int .i64 s', .int .i64 t', .int .i64 x'] 35)
            replace b12 := b12.alloc (.cells #[.int .i64 s', .int .i64 t', .int .i64 x'] 35)
            replace b14 := b14.alloc (.cells #[.int .i64 s', .int .i64 t', .int .i64 x'] 35)
            have b16 := B3.new w6 35 (.int .i64 s') (.int .i64 t') (.int .i64 x')
            replace hw := hw.alloc hw.size (.cells #[.int .i64 s', .int .i64 t', .int .i64 x'] 35)
            obtain ⟨b5_0, b5_1, b5_2, b5_3, b5_4, b5_5, b5_6⟩ := b5.facts
            obtain ⟨b12_0, b12_1, b12_2, b12_3, b12_4, b12_5, b12_6⟩ := b12.facts
            obtain ⟨b14_0, b14_1, b14_2, b14_3, b14_4, b14_5, b14_6⟩ := b14.facts
            obtain ⟨b16_0, b16_1, b16_2, b16_3, b16_4, b16_5, b16_6⟩ := b16.facts
            go_wp2
            go_ret
            exact ⟨rfl, hw⟩
        · skip
          have dk : decide (k ≤ 0) = false := decide_eq_false hk0
          by_cases ho : t' % 2 = 1
          · skip
            have he : (((t' : Nat) : Int) % 2 == 1) = true := by rw [beq_iff_eq]; omega
            have he0 : (((t' : Nat) : Int) % 2 == 0) = false := by rw [beq_eq_false_iff_ne]; omega
            have C5 := Lib.hid fun w => jump_jp s' t' y (-k) w HV2.out (by omega) (by omega) (by omega)
            rw [HJ.out (by omega)] at C5
            clear hq HJ HV HV2
            obtain ⟨b5_0, b5_1, b5_2, b5_3, b5_4, b5_5, b5_6⟩ := b5.facts
            have hwx := hw
            go_wp2_with fail
            refine (C4 _).mono ?_
            rintro e w5 ⟨rfl, hq4, rfl | rfl⟩
            · skip
              clear b5_0 b5_1 b5_2 b5_3 b5_4 b5_5 b5_6
              clear hwx
              replace b5 := b5.belowS hq4
              replace b7 := b7.belowS hq4
              replace b9 := b9.belowS hq4
              replace b12 := b12.belowS hq4
              replace hw := afterB hw hq4 hw.size
              clear hq4
              replace b5 := b5.alloc (.cells #[.int .i64 s', .int .i64 t', .int .i64 q] 35)
              replace b7 := b7.alloc (.cells #[.int .i64 s', .int .i64 t', .int .i64 q] 35)
              replace b9 := b9.alloc (.cells #[.int .i64 s', .int .i64 t', .int .i64 q] 35)
              replace b12 := b12.alloc (.cells #[.int .i64 s', .int .i64 t', .int .i64 q] 35)
              have b14 := B3.new w5 35 (.int .i64 s') (.int .i64 t') (.int .i64 q)
              replace hw := hw.alloc hw.size (.cells #[.int .i64 s', .int .i64 t', .int .i64 q] 35)
              obtain ⟨b7_0, b7_1, b7_2, b7_3, b7_4, b7_5, b7_6⟩ := b7.facts
              go_wp2_with fail
              refine (C5.out _).mono ?_
              rintro e w6 ⟨rfl, hq⟩
              clear b7_0 b7_1 b7_2 b7_3 b7_4 b7_5 b7_6
              replace b5 := b5.belowS hq
              replace b7 := b7.belowS hq
              replace b9 := b9.belowS hq
              replace b12 := b12.belowS hq
              replace b14 := b14.belowS hq
              replace hw := afterB hw hq hw.size
              clear hq
              replace b5 := b5.alloc (.cells #[.int .i64 s', .int .i64 t', .int .i64 x'] 35)
              replace b7 := b7.alloc (.cells #[.int .i64 s', .int .i64 t', .int .i64 x'] 35)
              replace b9 := b9.alloc (.cells #[.int .i64 s', .int .i64 t', .int .i64 x'] 35)
              replace b12 := b12.alloc (.cells #[.int .i64 s', .int .i64 t', .int .i64 x'] 35)
              replace b14 := b14.alloc (.cells #[.int .i64 s', .int .i64 t', .int .i64 x'] 35)
              have b16 := B3.new w6 35 (.int .i64 s') (.int .i64 t') (.int .i64 x')
              replace hw := hw.alloc hw.size (.cells #[.int .i64 s', .int .i64 t', .int .i64 x'] 35)
              obtain ⟨b5_0, b5_1, b5_2, b5_3, b5_4, b5_5, b5_6⟩ := b5.facts
              obtain ⟨b12_0, b12_1, b12_2, b12_3, b12_4, b12_5, b12_6⟩ := b12.facts
              obtain ⟨b14_0, b14_1, b14_2, b14_3, b14_4, b14_5, b14_6⟩ := b14.facts
              obtain ⟨b16_0, b16_1, b16_2, b16_3, b16_4, b16_5, b16_6⟩ := b16.facts
              go_wp2
              go_ret
              exact ⟨rfl, hw⟩
            · skip
              clear b5_0 b5_1 b5_2 b5_3 b5_4 b5_5 b5_6
              clear hwx
              replace b5 := b5.belowS hq4
              replace b7 := b7.belowS hq4
              replace b9 := b9.belowS hq4
              replace b12 := b12.belowS hq4
              replace hw := afterB hw hq4 hw.size
              clear hq4
              replace b5 := b5.alloc (.cells #[.int .i64 0, .int .i64 0, .int .i64 0] 35)
              replace b7 := b7.alloc (.cells #[.int .i64 0, .int .i64 0, .int .i64 0] 35)
              replace b9 := b9.alloc (.cells #[.int .i64 0, .int .i64 0, .int .i64 0] 35)
              replace b12 := b12.alloc (.cells #[.int .i64 0, .int .i64 0, .int .i64 0] 35)
              have b14 := B3.new w5 35 (.int .i64 0) (.int .i64 0) (.int .i64 0)
              replace hw := hw.alloc hw.size (.cells #[.int .i64 0, .int .i64 0, .int .i64 0] 35)
              obtain ⟨b7_0, b7_1, b7_2, b7_3, b7_4, b7_5, b7_6⟩ := b7.facts
              go_wp2_with fail
              refine (C5.out _).mono ?_
              rintro e w6 ⟨rfl, hq⟩
              clear b7_0 b7_1 b7_2 b7_3 b7_4 b7_5 b7_6
              replace b5 := b5.belowS hq
              replace b7 := b7.belowS hq
              replace b9 := b9.belowS hq
              replace b12 := b12.belowS hq
              replace b14 := b14.belowS hq
              replace hw := afterB hw hq hw.size
              clear hq
              replace b5 := b5.alloc (.cells #[.int .i64 s', .int .i64 t', .int .i64 x'] 35)
              replace b7 := b7.alloc (.cells #[.int .i64 s', .int .i64 t', .int .i64 x'] 35)
              replace b9 := b9.alloc (.cells #[.int .i64 s', .int .i64 t', .int .i64 x'] 35)
              replace b12 := b12.alloc (.cells #[.int .i64 s', .int .i64 t', .int .i64 x'] 35)
              replace b14 := b14.alloc (.cells #[.int .i64 s', .int .i64 t', .int .i64 x'] 35)
              have b16 := B3.new w6 35 (.int .i64 s') (.int .i64 t') (.int .i64 x')
              replace hw := hw.alloc hw.size (.cells #[.int .i64 s', .int .i64 t', .int .i64 x'] 35)
              obtain ⟨b5_0, b5_1, b5_2, b5_3, b5_4, b5_5, b5_6⟩ := b5.facts
              obtain ⟨b12_0, b12_1, b12_2, b12_3, b12_4, b12_5, b12_6⟩ := b12.facts
              obtain ⟨b14_0, b14_1, b14_2, b14_3, b14_4, b14_5, b14_6⟩ := b14.facts
              obtain ⟨b16_0, b16_1, b16_2, b16_3, b16_4, b16_5, b16_6⟩ := b16.facts
              go_wp2
              go_ret
              exact ⟨rfl, hw⟩
          · skip
            have he : (((t' : Nat) : Int) % 2 == 1) = false := by rw [beq_eq_false_iff_ne]; omega
            have he0 : (((t' : Nat) : Int) % 2 == 0) = true := by rw [beq_iff_eq]; omega
            have hj : jv s' t' y (-k) = false := by
              cases h : jv s' t' y (-k) with
              | false => rfl
              | true =>
                obtain ⟨s2, t2, x2, e1, e2, e3, _, j1, j2, j3⟩ := jv_nat h
                omega
            have C5 := Lib.hid fun w => jump_no s' t' y (-k) w hj
            clear hq HJ HV HV2 hj
            obtain ⟨b5_0, b5_1, b5_2, b5_3, b5_4, b5_5, b5_6⟩ := b5.facts
            have hwx := hw
            go_wp2_with fail
            refine (C4 _).mono ?_
            rintro e w5 ⟨rfl, hq4, rfl | rfl⟩
            · skip
              clear b5_0 b5_1 b5_2 b5_3 b5_4 b5_5 b5_6
              clear hwx
              replace b5 := b5.belowS hq4
              replace b7 := b7.belowS hq4
              replace b9 := b9.belowS hq4
              replace b12 := b12.belowS hq4
              replace hw := afterB hw hq4 hw.size
              clear hq4
              replace b5 := b5.alloc (.cells #[.int .i64 s', .int .i64 t', .int .i64 q] 35)
              replace b7 := b7.alloc (.cells #[.int .i64 s', .int .i64 t', .int .i64 q] 35)
              replace b9 := b9.alloc (.cells #[.int .i64 s', .int .i64 t', .int .i64 q] 35)
              replace b12 := b12.alloc (.cells #[.int .i64 s', .int .i64 t', .int .i64 q] 35)
              have b14 := B3.new w5 35 (.int .i64 s') (.int .i64 t') (.int .i64 q)
              replace hw := hw.alloc hw.size (.cells #[.int .i64 s', .int .i64 t', .int .i64 q] 35)
              obtain ⟨b7_0, b7_1, b7_2, b7_3, b7_4, b7_5, b7_6⟩ := b7.facts
              go_wp2_with fail
              refine (C5.out _).mono ?_
              rintro e w6 ⟨rfl, hq⟩
              clear b7_0 b7_1 b7_2 b7_3 b7_4 b7_5 b7_6
              replace b5 := b5.belowS hq
              replace b7 := b7.belowS hq
              replace b9 := b9.belowS hq
              replace b12 := b12.belowS hq
              replace b14 := b14.belowS hq
              replace hw := afterB hw hq hw.size
              clear hq
              replace b5 := b5.alloc (.cells #[.int .i64 0, .int .i64 0, .int .i64 0] 35)
              replace b7 := b7.alloc (.cells #[.int .i64 0, .int .i64 0, .int .i64 0] 35)
              replace b9 := b9.alloc (.cells #[.int .i64 0, .int .i64 0, .int .i64 0] 35)
              replace b12 := b12.alloc (.cells #[.int .i64 0, .int .i64 0, .int .i64 0] 35)
              replace b14 := b14.alloc (.cells #[.int .i64 0, .int .i64 0, .int .i64 0] 35)
              have b16 := B3.new w6 35 (.int .i64 0) (.int .i64 0) (.int .i64 0)
              replace hw := hw.alloc hw.size (.cells #[.int .i64 0, .int .i64 0, .int .i64 0] 35)
              obtain ⟨b5_0, b5_1, b5_2, b5_3, b5_4, b5_5, b5_6⟩ := b5.facts
              obtain ⟨b12_0, b12_1, b12_2, b12_3, b12_4, b12_5, b12_6⟩ := b12.facts
              obtain ⟨b14_0, b14_1, b14_2, b14_3, b14_4, b14_5, b14_6⟩ := b14.facts
              obtain ⟨b16_0, b16_1, b16_2, b16_3, b16_4, b16_5, b16_6⟩ := b16.facts
              go_wp2
              go_ret
              exact ⟨rfl, hw⟩
            · skip
              clear b5_0 b5_1 b5_2 b5_3 b5_4 b5_5 b5_6
              clear hwx
              replace b5 := b5.belowS hq4
              replace b7 := b7.belowS hq4
              replace b9 := b9.belowS hq4
              replace b12 := b12.belowS hq4
              replace hw := afterB hw hq4 hw.size
              clear hq4
              replace b5 := b5.alloc (.cells #[.int .i64 0, .int .i64 0, .int .i64 0] 35)
              replace b7 := b7.alloc (.cells #[.int .i64 0, .int .i64 0, .int .i64 0] 35)
              replace b9 := b9.alloc (.cells #[.int .i64 0, .int .i64 0, .int .i64 0] 35)
              replace b12 := b12.alloc (.cells #[.int .i64 0, .int .i64 0, .int .i64 0] 35)
              have b14 := B3.new w5 35 (.int .i64 0) (.int .i64 0) (.int .i64 0)
              replace hw := hw.alloc hw.size (.cells #[.int .i64 0, .int .i64 0, .int .i64 0] 35)
              obtain ⟨b7_0, b7_1, b7_2, b7_3, b7_4, b7_5, b7_6⟩ := b7.facts
              go_wp2_with fail
              refine (C5.out _).mono ?_
              rintro e w6 ⟨rfl, hq⟩
              clear b7_0 b7_1 b7_2 b7_3 b7_4 b7_5 b7_6
              replace b5 := b5.belowS hq
              replace b7 := b7.belowS hq
              replace b9 := b9.belowS hq
              replace b12 := b12.belowS hq
              replace b14 := b14.belowS hq
              replace hw := afterB hw hq hw.size
              clear hq
              replace b5 := b5.alloc (.cells #[.int .i64 0, .int .i64 0, .int .i64 0] 35)
              replace b7 := b7.alloc (.cells #[.int .i64 0, .int .i64 0, .int .i64 0] 35)
              replace b9 := b9.alloc (.cells #[.int .i64 0, .int .i64 0, .int .i64 0] 35)
              replace b12 := b12.alloc (.cells #[.int .i64 0, .int .i64 0, .int .i64 0] 35)
              replace b14 := b14.alloc (.cells #[.int .i64 0, .int .i64 0, .int .i64 0] 35)
              have b16 := B3.new w6 35 (.int .i64 0) (.int .i64 0) (.int .i64 0)
              replace hw := hw.alloc hw.size (.cells #[.int .i64 0, .int .i64 0, .int .i64 0] 35)
              obtain ⟨b5_0, b5_1, b5_2, b5_3, b5_4, b5_5, b5_6⟩ := b5.facts
              obtain ⟨b12_0, b12_1, b12_2, b12_3, b12_4, b12_5, b12_6⟩ := b12.facts
              obtain ⟨b14_0, b14_1, b14_2, b14_3, b14_4, b14_5, b14_6⟩ := b14.facts
              obtain ⟨b16_0, b16_1, b16_2, b16_3, b16_4, b16_5, b16_6⟩ := b16.facts
              go_wp2
              go_ret
              exact ⟨rfl, hw⟩
    · have d1 : decide ((1048576 : Int) < (len1 : Int)) = true := by simp; omega
      go_enter Try.func12, Try.ntmps12
      go_wp2
      go_ret
      exact ⟨rfl, Below.refl _ _⟩
  · have d0 : decide ((1048576 : Int) < (len0 : Int)) = true := by simp; omega
    go_enter Try.func12, Try.ntmps12
    go_wp2
    go_ret
    exact ⟨rfl, Below.refl _ _⟩
end Go.Proofs.Ytmlmbinpkmdjjaa
