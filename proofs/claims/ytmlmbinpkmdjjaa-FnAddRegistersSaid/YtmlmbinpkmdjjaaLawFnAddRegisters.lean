/- The walk of the law on sums of registers. -/
import Derived.Test.YtmlmbinpkmdjjaaWDrawL
import Derived.Test.YtmlmbinpkmdjjaaWStep
import Derived.Test.YtmlmbinpkmdjjaaWTail
import Derived.Test.YtmlmbinpkmdjjaaWStrs
import Derived.Test.YtmlmbinpkmdjjaaPlainAdd
namespace Go.Proofs.Ytmlmbinpkmdjjaa
open Go.RowKit SS
set_option maxHeartbeats 2000000 in
theorem walk_FnAddRegisters (a0 : Option Addr) (len0 cap0 : Nat) (z0 : List Int) (w : World) (h0 : IsRow .u8 w a0 len0 cap0 z0) :
    Calls Try.prog 13 #[.slice a0 len0 cap0] w fun e w' => e = .returned (.bool true) ∧ Below w.heap.size w w' := by
  obtain ⟨c0, l0, m0⟩ := h0.code
  clear h0
  by_cases hs0 : len0 ≤ 1048576
  · have d0 : decide ((1048576 : Int) < (len0 : Int)) = false := by simp; omega
    have D1 := Lib.hid (drawAdd a0 len0 cap0 w c0 l0 m0)
    clear c0 l0 m0
    have hw := Below.refl w.heap.size w
    go_enter Try.func13, Try.ntmps13
    go_wp2_with fail
    refine (D1.out).mono ?_
    rintro e w1 ⟨s, t, x, s2, t2, x2, rfl, hq⟩
    replace hw := afterB hw hq hw.size
    clear hq
    clear D1
    by_cases hr : rv s t x = true ∧ rv s2 t2 x2 = true ∧ s = s2 ∧ t = t2
    · skip
      obtain ⟨hr1, hr2, rfl, rfl⟩ := hr
      obtain ⟨s', t', x', rfl, rfl, rfl, hv⟩ := rv_nat hr1
      obtain ⟨s'', t'', x'', e1, e2, rfl, hv2⟩ := rv_nat hr2
      obtain rfl : s' = s'' := by omega
      obtain rfl : t' = t'' := by omega
      clear e1 e2 hr1 hr2
      have C1 := Lib.hid fun w => add_yes s' t' x' x'' w hv hv2
      have C2 := Lib.hid fun w => sadd_yes s' t' x' x'' w hv hv2
      have C3 := Lib.hid fun w => add_yes s' t' (x' ^^^ x'') x'' w (hv.xor hv2) hv2
      rw [xor_twice] at C3
      have C4 := Lib.hid fun w => step_yes s' t' x' w hv
      have C5 := Lib.hid fun w => step_yes s' t' x'' w hv2
      have C6 := Lib.hid fun w => step_yes s' t' (x' ^^^ x'') w (hv.xor hv2)
      have C7 := Lib.hid fun w => add_yes s' t' (nx s' t' x') (nx s' t' x'') w hv.nx hv2.nx
      rw [← nx_xor s' t' x' x'' (by have := hv.1; omega) hv.2.2.2.2 hv2.2.2.2.2] at C7
      have C8 := Lib.hid fun w => ssRun_yes s' t' (x' ^^^ x'') 40 w (hv.xor hv2) (by omega)
      have C9 := Lib.hid fun w => ssRun_yes s' t' x' 40 w hv (by omega)
      have C10 := Lib.hid fun w => ssRun_yes s' t' x'' 40 w hv2 (by omega)
      rw [show ((40 : Nat) : Int) = 40 from rfl] at C8 C9 C10
      have C11 := Lib.hid fun w => ssXor_yes (bs (run s' t' 40 x')) (bs (run s' t' 40 x'')) w (by rw [bs_size, bs_size, run_length, run_length]) (by rw [bs_size, run_length]; omega) (okB_run _ _ _ _) (okB_run _ _ _ _)
      rw [bs_list, bs_list, run_add s' t' 40 x' x'' hv hv2] at C11
      clear hv hv2
      generalize bs (run s' t' 40 (x' ^^^ x'')) = q1 at C8 C11
      generalize bs (run s' t' 40 x') = q2 at C9 C11
      generalize bs (run s' t' 40 x'') = q3 at C10 C11
      generalize nx s' t' (x' ^^^ x'') = z at C6 C7
      generalize nx s' t' x' = z1 at C4 C7
      generalize nx s' t' x'' = z2 at C5 C7
      generalize x' ^^^ x'' = y at C1 C2 C3 C6 C8
      have b3 := B3.new w1 35 (.int .i64 s') (.int .i64 t') (.int .i64 x')
      replace hw := hw.alloc hw.size (.cells #[.int .i64 s', .int .i64 t', .int .i64 x'] 35)
      replace b3 := b3.alloc (.cells #[.int .i64 s', .int .i64 t', .int .i64 x''] 35)
      have b4 := B3.new (w1.alloc (.cells #[.int .i64 s', .int .i64 t', .int .i64 x'] 35)) 35 (.int .i64 s') (.int .i64 t') (.int .i64 x'')
      rw [World.size_alloc] at b4
      replace hw := hw.alloc hw.size (.cells #[.int .i64 s', .int .i64 t', .int .i64 x''] 35)
      obtain ⟨b3_0, b3_1, b3_2, b3_3, b3_4, b3_5, b3_6⟩ := b3.facts
      obtain ⟨b4_0, b4_1, b4_2, b4_3, b4_4, b4_5, b4_6⟩ := b4.facts
      go_wp2_with fail
      refine (C1.out _).mono ?_
      rintro e w2 ⟨rfl, hq⟩
      clear b3_0 b3_1 b3_2 b3_3 b3_4 b3_5 b3_6 b4_0 b4_1 b4_2 b4_3 b4_4 b4_5 b4_6
      replace b3 := b3.belowS hq
      replace b4 := b4.belowS hq
      replace hw := afterB hw hq hw.size
      clear hq
      replace b3 := b3.alloc (.cells #[.int .i64 s', .int .i64 t', .int .i64 y] 35)
      replace b4 := b4.alloc (.cells #[.int .i64 s', .int .i64 t', .int .i64 y] 35)
      have b5 := B3.new w2 35 (.int .i64 s') (.int .i64 t') (.int .i64 y)
      replace hw := hw.alloc hw.size (.cells #[.int .i64 s', .int .i64 t', .int .i64 y] 35)
      obtain ⟨b3_0, b3_1, b3_2, b3_3, b3_4, b3_5, b3_6⟩ := b3.facts
      obtain ⟨b4_0, b4_1, b4_2, b4_3, b4_4, b4_5, b4_6⟩ := b4.facts
      go_wp2_with fail
      refine (C2.out _).mono ?_
      rintro e w3 ⟨rfl, hq⟩
      clear b3_0 b3_1 b3_2 b3_3 b3_4 b3_5 b3_6 b4_0 b4_1 b4_2 b4_3 b4_4 b4_5 b4_6
      replace b3 := b3.belowS hq
      replace b4 := b4.belowS hq
      replace b5 := b5.belowS hq
      replace hw := afterB hw hq hw.size
      clear hq
      replace b3 := b3.alloc (.cells #[.int .i64 s', .int .i64 t', .int .i64 y] 35)
      replace b4 := b4.alloc (.cells #[.int .i64 s', .int .i64 t', .int .i64 y] 35)
      replace b5 := b5.alloc (.cells #[.int .i64 s', .int .i64 t', .int .i64 y] 35)
      have b7 := B3.new w3 35 (.int .i64 s') (.int .i64 t') (.int .i64 y)
      replace hw := hw.alloc hw.size (.cells #[.int .i64 s', .int .i64 t', .int .i64 y] 35)
      obtain ⟨b5_0, b5_1, b5_2, b5_3, b5_4, b5_5, b5_6⟩ := b5.facts
      obtain ⟨b7_0, b7_1, b7_2, b7_3, b7_4, b7_5, b7_6⟩ := b7.facts
      obtain ⟨b4_0, b4_1, b4_2, b4_3, b4_4, b4_5, b4_6⟩ := b4.facts
      go_wp2_with fail
      refine (C3.out _).mono ?_
      rintro e w4 ⟨rfl, hq⟩
      clear b5_0 b5_1 b5_2 b5_3 b5_4 b5_5 b5_6 b7_0 b7_1 b7_2 b7_3 b7_4 b7_5 b7_6 b4_0 b4_1 b4_2 b4_3 b4_4 b4_5 b4_6
      replace b3 := b3.belowS hq
      replace b4 := b4.belowS hq
      replace b5 := b5.belowS hq
      replace b7 := b7.belowS hq
      replace hw := afterB hw hq hw.size
      clear hq
      clear b7
      replace b3 := b3.alloc (.cells #[.int .i64 s', .int .i64 t', .int .i64 x'] 35)
      replace b4 := b4.alloc (.cells #[.int .i64 s', .int .i64 t', .int .i64 x'] 35)
      replace b5 := b5.alloc (.cells #[.int .i64 s', .int .i64 t', .int .i64 x'] 35)
      have b9 := B3.new w4 35 (.int .i64 s') (.int .i64 t') (.int .i64 x')
      replace hw := hw.alloc hw.size (.cells #[.int .i64 s', .int .i64 t', .int .i64 x'] 35)
      obtain ⟨b3_0, b3_1, b3_2, b3_3, b3_4, b3_5, b3_6⟩ := b3.facts
      go_wp2_with fail
      refine (C4.out _).mono ?_
      rintro e w5 ⟨rfl, hq⟩
      clear b3_0 b3_1 b3_2 b3_3 b3_4 b3_5 b3_6
      replace b3 := b3.belowS hq
      replace b4 := b4.belowS hq
      replace b5 := b5.belowS hq
      replace b9 := b9.belowS hq
      replace hw := afterB hw hq hw.size
      clear hq
      replace b3 := b3.alloc (.cells #[.int .i64 s', .int .i64 t', .int .i64 z1] 35)
      replace b4 := b4.alloc (.cells #[.int .i64 s', .int .i64 t', .int .i64 z1] 35)
      replace b5 := b5.alloc (.cells #[.int .i64 s', .int .i64 t', .int .i64 z1] 35)
      replace b9 := b9.alloc (.cells #[.int .i64 s', .int .i64 t', .int .i64 z1] 35)
      have b11 := B3.new w5 35 (.int .i64 s') (.int .i64 t') (.int .i64 z1)
      replace hw := hw.alloc hw.size (.cells #[.int .i64 s', .int .i64 t', .int .i64 z1] 35)
      obtain ⟨b4_0, b4_1, b4_2, b4_3, b4_4, b4_5, b4_6⟩ := b4.facts
      go_wp2_with fail
      refine (C5.out _).mono ?_
      rintro e w6 ⟨rfl, hq⟩
      clear b4_0 b4_1 b4_2 b4_3 b4_4 b4_5 b4_6
      replace b3 := b3.belowS hq
      replace b4 := b4.belowS hq
      replace b5 := b5.belowS hq
      replace b9 := b9.belowS hq
      replace b11 := b11.belowS hq
      replace hw := afterB hw hq hw.size
      clear hq
      replace b3 := b3.alloc (.cells #[.int .i64 s', .int .i64 t', .int .i64 z2] 35)
      replace b4 := b4.alloc (.cells #[.int .i64 s', .int .i64 t', .int .i64 z2] 35)
      replace b5 := b5.alloc (.cells #[.int .i64 s', .int .i64 t', .int .i64 z2] 35)
      replace b9 := b9.alloc (.cells #[.int .i64 s', .int .i64 t', .int .i64 z2] 35)
      replace b11 := b11.alloc (.cells #[.int .i64 s', .int .i64 t', .int .i64 z2] 35)
      have b13 := B3.new w6 35 (.int .i64 s') (.int .i64 t') (.int .i64 z2)
      replace hw := hw.alloc hw.size (.cells #[.int .i64 s', .int .i64 t', .int .i64 z2] 35)
      obtain ⟨b5_0, b5_1, b5_2, b5_3, b5_4, b5_5, b5_6⟩ := b5.facts
      go_wp2_with fail
      refine (C6.out _).mono ?_
      rintro e w7 ⟨rfl, hq⟩
      clear b5_0 b5_1 b5_2 b5_3 b5_4 b5_5 b5_6
      replace b3 := b3.belowS hq
      replace b4 := b4.belowS hq
      replace b5 := b5.belowS hq
      replace b9 := b9.belowS hq
      replace b11 := b11.belowS hq
      replace b13 := b13.belowS hq
      replace hw := afterB hw hq hw.size
      clear hq
      replace b3 := b3.alloc (.cells #[.int .i64 s', .int .i64 t', .int .i64 z] 35)
      replace b4 := b4.alloc (.cells #[.int .i64 s', .int .i64 t', .int .i64 z] 35)
      replace b5 := b5.alloc (.cells #[.int .i64 s', .int .i64 t', .int .i64 z] 35)
      replace b9 := b9.alloc (.cells #[.int .i64 s', .int .i64 t', .int .i64 z] 35)
      replace b11 := b11.alloc (.cells #[.int .i64 s', .int .i64 t', .int .i64 z] 35)
      replace b13 := b13.alloc (.cells #[.int .i64 s', .int .i64 t', .int .i64 z] 35)
      have b15 := B3.new w7 35 (.int .i64 s') (.int .i64 t') (.int .i64 z)
      replace hw := hw.alloc hw.size (.cells #[.int .i64 s', .int .i64 t', .int .i64 z] 35)
      obtain ⟨b11_0, b11_1, b11_2, b11_3, b11_4, b11_5, b11_6⟩ := b11.facts
      obtain ⟨b13_0, b13_1, b13_2, b13_3, b13_4, b13_5, b13_6⟩ := b13.facts
      go_wp2_with fail
      refine (C7.out _).mono ?_
      rintro e w8 ⟨rfl, hq⟩
      clear b11_0 b11_1 b11_2 b11_3 b11_4 b11_5 b11_6 b13_0 b13_1 b13_2 b13_3 b13_4 b13_5 b13_6
      replace b3 := b3.belowS hq
      replace b4 := b4.belowS hq
      replace b5 := b5.belowS hq
      replace b9 := b9.belowS hq
      replace b11 := b11.belowS hq
      replace b13 := b13.belowS hq
      replace b15 := b15.belowS hq
      replace hw := afterB hw hq hw.size
      clear hq
      clear b11 b13
      replace b3 := b3.alloc (.cells #[.int .i64 s', .int .i64 t', .int .i64 z] 35)
      replace b4 := b4.alloc (.cells #[.int .i64 s', .int .i64 t', .int .i64 z] 35)
      replace b5 := b5.alloc (.cells #[.int .i64 s', .int .i64 t', .int .i64 z] 35)
      replace b9 := b9.alloc (.cells #[.int .i64 s', .int .i64 t', .int .i64 z] 35)
      replace b15 := b15.alloc (.cells #[.int .i64 s', .int .i64 t', .int .i64 z] 35)
      have b17 := B3.new w8 35 (.int .i64 s') (.int .i64 t') (.int .i64 z)
      replace hw := hw.alloc hw.size (.cells #[.int .i64 s', .int .i64 t', .int .i64 z] 35)
      go_wp2_with fail
      generalize w8.alloc (.cells #[.int .i64 s', .int .i64 t', .int .i64 z] 35) = wX at b3 b4 b5 b9 b15 b17 hw ⊢
      obtain ⟨b3_0, b3_1, b3_2, b3_3, b3_4, b3_5, b3_6⟩ := b3.facts
      obtain ⟨b4_0, b4_1, b4_2, b4_3, b4_4, b4_5, b4_6⟩ := b4.facts
      obtain ⟨b5_0, b5_1, b5_2, b5_3, b5_4, b5_5, b5_6⟩ := b5.facts
      obtain ⟨b9_0, b9_1, b9_2, b9_3, b9_4, b9_5, b9_6⟩ := b9.facts
      obtain ⟨b15_0, b15_1, b15_2, b15_3, b15_4, b15_5, b15_6⟩ := b15.facts
      obtain ⟨b17_0, b17_1, b17_2, b17_3, b17_4, b17_5, b17_6⟩ := b17.facts
      go_region_held3 (fun w' => w'.cell? ⟨w1.heap.size, 0, none⟩ = some (.int .i64 s') ∧ w'.cell? ⟨w1.heap.size, 1, none⟩ = some (.int .i64 t') ∧ w'.cell? ⟨w1.heap.size, 2, none⟩ = some (.int .i64 x') ∧ w'.cell? ⟨(w1.heap.size + 1), 0, none⟩ = some (.int .i64 s') ∧ w'.cell? ⟨(w1.heap.size + 1), 1, none⟩ = some (.int .i64 t') ∧ w'.cell? ⟨(w1.heap.size + 1), 2, none⟩ = some (.int .i64 x'') ∧ w'.cell? ⟨w2.heap.size, 0, none⟩ = some (.int .i64 s') ∧ w'.cell? ⟨w2.heap.size, 1, none⟩ = some (.int .i64 t') ∧ w'.cell? ⟨w2.heap.size, 2, none⟩ = some (.int .i64 y) ∧ w'.cell? ⟨w4.heap.size, 0, none⟩ = some (.int .i64 s') ∧ w'.cell? ⟨w4.heap.size, 1, none⟩ = some (.int .i64 t') ∧ w'.cell? ⟨w4.heap.size, 2, none⟩ = some (.int .i64 x') ∧ w'.cell? ⟨w7.heap.size, 0, none⟩ = some (.int .i64 s') ∧ w'.cell? ⟨w7.heap.size, 1, none⟩ = some (.int .i64 t') ∧ w'.cell? ⟨w7.heap.size, 2, none⟩ = some (.int .i64 z) ∧ w'.cell? ⟨w8.heap.size, 0, none⟩ = some (.int .i64 s') ∧ w'.cell? ⟨w8.heap.size, 1, none⟩ = some (.int .i64 t') ∧ w'.cell? ⟨w8.heap.size, 2, none⟩ = some (.int .i64 z)) (go_keep)
        (first | (go_at_call 48; (with_reducible refine (C8.out _).mono ?_); rintro e v1 ⟨rfl, hq1⟩; have b3v1 := (b3.drewN 1).belowS hq1; obtain ⟨b3x0, b3x1, b3x2, _, _, _, _⟩ := b3v1.facts; have b4v1 := (b4.drewN 1).belowS hq1; obtain ⟨b4x0, b4x1, b4x2, _, _, _, _⟩ := b4v1.facts; have b5v1 := (b5.drewN 1).belowS hq1; obtain ⟨b5x0, b5x1, b5x2, _, _, _, _⟩ := b5v1.facts; have b9v1 := (b9.drewN 1).belowS hq1; obtain ⟨b9x0, b9x1, b9x2, _, _, _, _⟩ := b9v1.facts; have b15v1 := (b15.drewN 1).belowS hq1; obtain ⟨b15x0, b15x1, b15x2, _, _, _, _⟩ := b15v1.facts; have b17v1 := (b17.drewN 1).belowS hq1; obtain ⟨b17x0, b17x1, b17x2, _, _, _, _⟩ := b17v1.facts; have hwv1 := afterB (below_drewN hw 1) hq1 ((below_drewN hw 1)).size) | (go_at_call 48; (with_reducible refine (C9.out _).mono ?_); rintro e v2 ⟨rfl, hq2⟩; have b3v2 := b3v1.belowS hq2; obtain ⟨b3x0, b3x1, b3x2, _, _, _, _⟩ := b3v2.facts; have b4v2 := b4v1.belowS hq2; obtain ⟨b4x0, b4x1, b4x2, _, _, _, _⟩ := b4v2.facts; have b5v2 := b5v1.belowS hq2; obtain ⟨b5x0, b5x1, b5x2, _, _, _, _⟩ := b5v2.facts; have b9v2 := b9v1.belowS hq2; obtain ⟨b9x0, b9x1, b9x2, _, _, _, _⟩ := b9v2.facts; have b15v2 := b15v1.belowS hq2; obtain ⟨b15x0, b15x1, b15x2, _, _, _, _⟩ := b15v2.facts; have b17v2 := b17v1.belowS hq2; obtain ⟨b17x0, b17x1, b17x2, _, _, _, _⟩ := b17v2.facts; have hwv2 := afterB hwv1 hq2 (hwv1).size) | (go_at_call 48; (with_reducible refine (C10.out _).mono ?_); rintro e v3 ⟨rfl, hq3⟩; have b3v3 := b3v2.belowS hq3; obtain ⟨b3x0, b3x1, b3x2, _, _, _, _⟩ := b3v3.facts; have b4v3 := b4v2.belowS hq3; obtain ⟨b4x0, b4x1, b4x2, _, _, _, _⟩ := b4v3.facts; have b5v3 := b5v2.belowS hq3; obtain ⟨b5x0, b5x1, b5x2, _, _, _, _⟩ := b5v3.facts; have b9v3 := b9v2.belowS hq3; obtain ⟨b9x0, b9x1, b9x2, _, _, _, _⟩ := b9v3.facts; have b15v3 := b15v2.belowS hq3; obtain ⟨b15x0, b15x1, b15x2, _, _, _, _⟩ := b15v3.facts; have b17v3 := b17v2.belowS hq3; obtain ⟨b17x0, b17x1, b17x2, _, _, _, _⟩ := b17v3.facts; have hwv3 := afterB hwv2 hq3 (hwv2).size) | (go_at_call 49; (with_reducible refine (C11.out _).mono ?_); rintro e v4 ⟨rfl, hq4⟩; have b3v4 := b3v3.belowS hq4; obtain ⟨b3x0, b3x1, b3x2, _, _, _, _⟩ := b3v4.facts; have b4v4 := b4v3.belowS hq4; obtain ⟨b4x0, b4x1, b4x2, _, _, _, _⟩ := b4v4.facts; have b5v4 := b5v3.belowS hq4; obtain ⟨b5x0, b5x1, b5x2, _, _, _, _⟩ := b5v4.facts; have b9v4 := b9v3.belowS hq4; obtain ⟨b9x0, b9x1, b9x2, _, _, _, _⟩ := b9v4.facts; have b15v4 := b15v3.belowS hq4; obtain ⟨b15x0, b15x1, b15x2, _, _, _, _⟩ := b15v4.facts; have b17v4 := b17v3.belowS hq4; obtain ⟨b17x0, b17x1, b17x2, _, _, _, _⟩ := b17v4.facts; have hwv4 := afterB hwv3 hq4 (hwv3).size))
      go_wp2_with fail
      go_ret
      exact ⟨rfl, hwv4⟩
    · skip
      have C1 := Lib.hid fun w => add_no s t x s2 t2 x2 w hr
      have C2 := Lib.hid fun w => sadd_no s t x s2 t2 x2 w hr
      clear hr
      have b3 := B3.new w1 35 (.int .i64 s) (.int .i64 t) (.int .i64 x)
      replace hw := hw.alloc hw.size (.cells #[.int .i64 s, .int .i64 t, .int .i64 x] 35)
      replace b3 := b3.alloc (.cells #[.int .i64 s2, .int .i64 t2, .int .i64 x2] 35)
      have b4 := B3.new (w1.alloc (.cells #[.int .i64 s, .int .i64 t, .int .i64 x] 35)) 35 (.int .i64 s2) (.int .i64 t2) (.int .i64 x2)
      rw [World.size_alloc] at b4
      replace hw := hw.alloc hw.size (.cells #[.int .i64 s2, .int .i64 t2, .int .i64 x2] 35)
      obtain ⟨b3_0, b3_1, b3_2, b3_3, b3_4, b3_5, b3_6⟩ := b3.facts
      obtain ⟨b4_0, b4_1, b4_2, b4_3, b4_4, b4_5, b4_6⟩ := b4.facts
      go_wp2_with fail
      refine (C1.out _).mono ?_
      rintro e w2 ⟨rfl, hq⟩
      clear b3_0 b3_1 b3_2 b3_3 b3_4 b3_5 b3_6 b4_0 b4_1 b4_2 b4_3 b4_4 b4_5 b4_6
      replace b3 := b3.belowS hq
      replace b4 := b4.belowS hq
      replace hw := afterB hw hq hw.size
      clear hq
      replace b3 := b3.alloc (.cells #[.int .i64 0, .int .i64 0, .int .i64 0] 35)
      replace b4 := b4.alloc (.cells #[.int .i64 0, .int .i64 0, .int .i64 0] 35)
      have b5 := B3.new w2 35 (.int .i64 0) (.int .i64 0) (.int .i64 0)
      replace hw := hw.alloc hw.size (.cells #[.int .i64 0, .int .i64 0, .int .i64 0] 35)
      obtain ⟨b3_0, b3_1, b3_2, b3_3, b3_4, b3_5, b3_6⟩ := b3.facts
      obtain ⟨b4_0, b4_1, b4_2, b4_3, b4_4, b4_5, b4_6⟩ := b4.facts
      go_wp2_with fail
      refine (C2.out _).mono ?_
      rintro e w3 ⟨rfl, hq⟩
      clear b3_0 b3_1 b3_2 b3_3 b3_4 b3_5 b3_6 b4_0 b4_1 b4_2 b4_3 b4_4 b4_5 b4_6
      replace b3 := b3.belowS hq
      replace b4 := b4.belowS hq
      replace b5 := b5.belowS hq
      replace hw := afterB hw hq hw.size
      clear hq
      replace b3 := b3.alloc (.cells #[.int .i64 0, .int .i64 0, .int .i64 0] 35)
      replace b4 := b4.alloc (.cells #[.int .i64 0, .int .i64 0, .int .i64 0] 35)
      replace b5 := b5.alloc (.cells #[.int .i64 0, .int .i64 0, .int .i64 0] 35)
      have b7 := B3.new w3 35 (.int .i64 0) (.int .i64 0) (.int .i64 0)
      replace hw := hw.alloc hw.size (.cells #[.int .i64 0, .int .i64 0, .int .i64 0] 35)
      obtain ⟨b5_0, b5_1, b5_2, b5_3, b5_4, b5_5, b5_6⟩ := b5.facts
      obtain ⟨b7_0, b7_1, b7_2, b7_3, b7_4, b7_5, b7_6⟩ := b7.facts
      go_wp2
      go_ret
      exact ⟨rfl, hw⟩
  · have d0 : decide ((1048576 : Int) < (len0 : Int)) = true := by simp; omega
    go_enter Try.func13, Try.ntmps13
    go_wp2
    go_ret
    exact ⟨rfl, Below.refl _ _⟩
end Go.Proofs.Ytmlmbinpkmdjjaa
