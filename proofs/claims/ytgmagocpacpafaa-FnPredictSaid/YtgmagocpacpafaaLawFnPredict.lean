/- The walk of the law that enough bits tell all further ones. -/
import Derived.Test.YtgmagocpacpafaaWDrawL
import Derived.Test.YtgmagocpacpafaaWShort
import Derived.Test.YtgmagocpacpafaaWTail
import Derived.Test.YtgmagocpacpafaaWStrs
import Derived.Test.YtgmagocpacpafaaPlainPred
namespace Go.Proofs.Ytgmagocpacpafaa
open Go.RowKit SS
set_option maxRecDepth 100000
set_option maxHeartbeats 2000000 in
theorem walk_FnPredict (a0 : Option Addr) (len0 cap0 : Nat) (z0 : List Int) (w : World) (h0 : IsRow .u8 w a0 len0 cap0 z0) :
    Calls Try.prog 6 #[.slice a0 len0 cap0] w fun e w' => e = .returned (.bool true) ∧ Below w.heap.size w w' := by
  obtain ⟨c0, l0, m0⟩ := h0.code
  clear h0
  by_cases hs0 : len0 ≤ 1048576
  · have d0 : decide ((1048576 : Int) < (len0 : Int)) = false := by simp; omega
    have D1 := Lib.hid (drawRun a0 len0 cap0 w c0 l0 m0)
    clear c0 l0 m0
    have hw := Below.refl w.heap.size w
    go_enter Try.func6, Try.ntmps6
    go_wp2_with fail
    refine (D1.out).mono ?_
    rintro e w1 ⟨s, t, x, n, rfl, hq⟩
    replace hw := afterB hw hq hw.size
    clear hq
    clear D1
    cases hr : rv s t x with
    | false =>
      have C1 := Lib.hid fun w => valid_impl s t x w
      have C2 := Lib.hid fun w => valid_spec s t x w
      rw [hr] at C1 C2
      clear hr
      have b3 := B3.new w1 24 (.int .i64 s) (.int .i64 t) (.int .i64 x)
      replace hw := hw.alloc hw.size (.cells #[.int .i64 s, .int .i64 t, .int .i64 x] 24)
      obtain ⟨b3_0, b3_1, b3_2, b3_3, b3_4, b3_5, b3_6⟩ := b3.facts
      go_wp2_with fail
      refine (C1.out _).mono ?_
      rintro e w2 ⟨rfl, hq⟩
      clear b3_0 b3_1 b3_2 b3_3 b3_4 b3_5 b3_6
      replace b3 := b3.belowS hq
      replace hw := afterB hw hq hw.size
      clear hq
      obtain ⟨b3_0, b3_1, b3_2, b3_3, b3_4, b3_5, b3_6⟩ := b3.facts
      go_wp2_with fail
      refine (C2.out _).mono ?_
      rintro e w3 ⟨rfl, hq⟩
      clear b3_0 b3_1 b3_2 b3_3 b3_4 b3_5 b3_6
      replace b3 := b3.belowS hq
      replace hw := afterB hw hq hw.size
      clear hq
      go_wp2
      go_ret
      exact ⟨rfl, hw⟩
    | true =>
      have C1 := Lib.hid fun w => valid_impl s t x w
      rw [hr] at C1
      obtain ⟨s', t', x', rfl, rfl, rfl, hv⟩ := rv_nat hr
      clear hr
      obtain ⟨S, T, hS, hSs, hvS, hrun⟩ := predict hv
      have C2 := Lib.hid fun w => ssRun_yes s' t' x' 16 w hv (by omega)
      rw [show ((16 : Nat) : Int) = 16 from rfl] at C2
      have hz : (bs (run s' t' 16 x')).size = 16 := by rw [bs_size, run_length]
      have C3 := Lib.hid fun w => short_yes (bs (run s' t' 16 x')) S T w (by omega) (by omega) (okB_run _ _ _ _) hS
      have C4 := Lib.hid fun w => sshort_yes (bs (run s' t' 16 x')) S T w (by omega) (by omega) (okB_run _ _ _ _) hS
      rw [bs_list] at C3 C4
      have C5 := Lib.hid fun w => ssRun_yes S T _ 64 w hvS (by omega)
      have C6 := Lib.hid fun w => ssRun_yes s' t' x' 64 w hv (by omega)
      rw [show ((64 : Nat) : Int) = 64 from rfl] at C5 C6
      rw [hrun] at C5
      clear hS hrun hz hvS hv
      generalize frm ((run s' t' 16 x').take S) = X at C3 C4 C5
      generalize bs (run s' t' 16 x') = Q at C2 C3 C4
      generalize bs (run s' t' 64 x') = P at C5 C6
      have hss : ((S : Nat) : Int) ≤ ((s' : Nat) : Int) := by omega
      have dss : decide (((S : Nat) : Int) ≤ ((s' : Nat) : Int)) = true := decide_eq_true hss
      have b3 := B3.new w1 24 (.int .i64 s') (.int .i64 t') (.int .i64 x')
      replace hw := hw.alloc hw.size (.cells #[.int .i64 s', .int .i64 t', .int .i64 x'] 24)
      obtain ⟨b3_0, b3_1, b3_2, b3_3, b3_4, b3_5, b3_6⟩ := b3.facts
      go_wp2_with fail
      refine (C1.out _).mono ?_
      rintro e w2 ⟨rfl, hq⟩
      clear b3_0 b3_1 b3_2 b3_3 b3_4 b3_5 b3_6
      replace b3 := b3.belowS hq
      replace hw := afterB hw hq hw.size
      clear hq
      obtain ⟨b3_0, b3_1, b3_2, b3_3, b3_4, b3_5, b3_6⟩ := b3.facts
      go_wp2_with fail
      refine (C2.out _).mono ?_
      rintro e w3 ⟨rfl, hq⟩
      clear b3_0 b3_1 b3_2 b3_3 b3_4 b3_5 b3_6
      replace b3 := b3.belowS hq
      replace hw := afterB hw hq hw.size
      clear hq
      go_wp2_with fail
      refine (C3.out _).mono ?_
      rintro e w4 ⟨rfl, hq⟩
      replace b3 := b3.belowS hq
      replace hw := afterB hw hq hw.size
      clear hq
      replace b3 := b3.alloc (.cells #[.int .i64 S, .int .i64 T, .int .i64 X] 24)
      have b6 := B3.new w4 24 (.int .i64 S) (.int .i64 T) (.int .i64 X)
      replace hw := hw.alloc hw.size (.cells #[.int .i64 S, .int .i64 T, .int .i64 X] 24)
      go_wp2_with fail
      refine (C4.out _).mono ?_
      rintro e w5 ⟨rfl, hq⟩
      replace b3 := b3.belowS hq
      replace b6 := b6.belowS hq
      replace hw := afterB hw hq hw.size
      clear hq
      replace b3 := b3.alloc (.cells #[.int .i64 S, .int .i64 T, .int .i64 X] 24)
      replace b6 := b6.alloc (.cells #[.int .i64 S, .int .i64 T, .int .i64 X] 24)
      have b8 := B3.new w5 24 (.int .i64 S) (.int .i64 T) (.int .i64 X)
      replace hw := hw.alloc hw.size (.cells #[.int .i64 S, .int .i64 T, .int .i64 X] 24)
      go_wp2_with fail
      generalize w5.alloc (.cells #[.int .i64 S, .int .i64 T, .int .i64 X] 24) = wX at b3 b6 b8 hw ⊢
      obtain ⟨b3_0, b3_1, b3_2, b3_3, b3_4, b3_5, b3_6⟩ := b3.facts
      obtain ⟨b6_0, b6_1, b6_2, b6_3, b6_4, b6_5, b6_6⟩ := b6.facts
      obtain ⟨b8_0, b8_1, b8_2, b8_3, b8_4, b8_5, b8_6⟩ := b8.facts
      go_region_held3 (fun w' => w'.cell? ⟨w1.heap.size, 0, none⟩ = some (.int .i64 s') ∧ w'.cell? ⟨w1.heap.size, 1, none⟩ = some (.int .i64 t') ∧ w'.cell? ⟨w1.heap.size, 2, none⟩ = some (.int .i64 x') ∧ w'.cell? ⟨w4.heap.size, 0, none⟩ = some (.int .i64 S) ∧ w'.cell? ⟨w4.heap.size, 1, none⟩ = some (.int .i64 T) ∧ w'.cell? ⟨w4.heap.size, 2, none⟩ = some (.int .i64 X) ∧ w'.cell? ⟨w5.heap.size, 0, none⟩ = some (.int .i64 S) ∧ w'.cell? ⟨w5.heap.size, 1, none⟩ = some (.int .i64 T) ∧ w'.cell? ⟨w5.heap.size, 2, none⟩ = some (.int .i64 X)) (go_keep)
        (first | (go_at_call 26; (with_reducible refine (C5.out _).mono ?_); rintro e v1 ⟨rfl, hq1⟩; have b3v1 := (b3.drewN 1).belowS hq1; obtain ⟨b3x0, b3x1, b3x2, _, _, _, _⟩ := b3v1.facts; have b6v1 := (b6.drewN 1).belowS hq1; obtain ⟨b6x0, b6x1, b6x2, _, _, _, _⟩ := b6v1.facts; have b8v1 := (b8.drewN 1).belowS hq1; obtain ⟨b8x0, b8x1, b8x2, _, _, _, _⟩ := b8v1.facts; have hwv1 := afterB (below_drewN hw 1) hq1 ((below_drewN hw 1)).size) | (go_at_call 26; (with_reducible refine (C6.out _).mono ?_); rintro e v2 ⟨rfl, hq2⟩; have b3v2 := b3v1.belowS hq2; obtain ⟨b3x0, b3x1, b3x2, _, _, _, _⟩ := b3v2.facts; have b6v2 := b6v1.belowS hq2; obtain ⟨b6x0, b6x1, b6x2, _, _, _, _⟩ := b6v2.facts; have b8v2 := b8v1.belowS hq2; obtain ⟨b8x0, b8x1, b8x2, _, _, _, _⟩ := b8v2.facts; have hwv2 := afterB hwv1 hq2 (hwv1).size))
      go_wp2_with fail
      go_ret
      exact ⟨rfl, hwv2⟩
  · have d0 : decide ((1048576 : Int) < (len0 : Int)) = true := by simp; omega
    go_enter Try.func6, Try.ntmps6
    go_wp2
    go_ret
    exact ⟨rfl, Below.refl _ _⟩
end Go.Proofs.Ytgmagocpacpafaa
