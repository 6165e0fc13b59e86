/- The walk of the law that the bits of a register are those before each step. -/
import Derived.Test.YtmlmbinpkmdjjaaWDrawL
import Derived.Test.YtmlmbinpkmdjjaaWStep
import Derived.Test.YtmlmbinpkmdjjaaWTail
import Derived.Test.YtmlmbinpkmdjjaaWStrs
import Derived.Test.YtmlmbinpkmdjjaaWRunS
namespace Go.Proofs.Ytmlmbinpkmdjjaa
open Go.RowKit SS
theorem vr_tlt' {s t x : Nat} (h : VR s t x) : x < 256 := lt256 h.2.1 h.2.2.2.2
set_option maxHeartbeats 2000000 in
theorem walk_FnRunSteps (a0 : Option Addr) (len0 cap0 : Nat) (z0 : List Int) (a1 : Option Addr) (len1 cap1 : Nat) (z1 : List Int) (w : World) (h0 : IsRow .u8 w a0 len0 cap0 z0) (h1 : IsRow .u8 w a1 len1 cap1 z1) :
    Calls Try.prog 14 #[.slice a0 len0 cap0, .slice a1 len1 cap1] w fun e w' => e = .returned (.bool true) ∧ Below w.heap.size w w' := by
  obtain ⟨c0, l0, m0⟩ := h0.code
  obtain ⟨c1, l1, m1⟩ := h1.code
  clear h0 h1
  by_cases hs0 : len0 ≤ 1048576
  · have d0 : decide ((1048576 : Int) < (len0 : Int)) = false := by simp; omega
    by_cases hs1 : len1 ≤ 1048576
    · have d1 : decide ((1048576 : Int) < (len1 : Int)) = false := by simp; omega
      have D1 := Lib.hid (drawRun a0 len0 cap0 w c0 l0 m0)
      clear c0 l0 m0 c1 l1 m1
      have hw := Below.refl w.heap.size w
      go_enter Try.func14, Try.ntmps14
      go_wp2_with fail
      refine (D1.out).mono ?_
      rintro e w1 ⟨s, t, x, n, rfl, hq⟩
      replace hw := afterB hw hq hw.size
      clear hq
      clear D1
      cases hr : nv s t x n with
      | false =>
        have C1 := Lib.hid fun w => run_no s t x n w hr
        have C2 := Lib.hid fun w => srun_no s t x n w hr
        clear hr
        have b5 := B3.new w1 35 (.int .i64 s) (.int .i64 t) (.int .i64 x)
        replace hw := hw.alloc hw.size (.cells #[.int .i64 s, .int .i64 t, .int .i64 x] 35)
        obtain ⟨b5_0, b5_1, b5_2, b5_3, b5_4, b5_5, b5_6⟩ := b5.facts
        go_wp2_with fail
        refine (C1.out _).mono ?_
        rintro e w2 ⟨rfl, hq⟩
        clear b5_0 b5_1 b5_2 b5_3 b5_4 b5_5 b5_6
        replace b5 := b5.belowS hq
        replace hw := afterB hw hq hw.size
        clear hq
        obtain ⟨b5_0, b5_1, b5_2, b5_3, b5_4, b5_5, b5_6⟩ := b5.facts
        go_wp2_with fail
        refine (C2.out _).mono ?_
        rintro e w3 ⟨rfl, hq⟩
        clear b5_0 b5_1 b5_2 b5_3 b5_4 b5_5 b5_6
        replace b5 := b5.belowS hq
        replace hw := afterB hw hq hw.size
        clear hq
        obtain ⟨b5_0, b5_1, b5_2, b5_3, b5_4, b5_5, b5_6⟩ := b5.facts
        go_wp2
        go_ret
        exact ⟨rfl, hw⟩
      | true =>
        unfold nv at hr
        rw [Bool.and_eq_true, decide_eq_true_eq] at hr
        obtain ⟨s', t', x', rfl, rfl, rfl, hv⟩ := rv_nat hr.1
        obtain ⟨n', rfl⟩ := Int.eq_ofNat_of_zero_le hr.2.1
        have hn6 : n' ≤ 600 := by omega
        clear hr
        have C1 := Lib.hid fun w => run_yes s' t' x' n' w hv hn6
        have C2 := Lib.hid fun w => srun_yes s' t' x' n' w hv hn6
        obtain ⟨Q, hQ⟩ : ∃ Q, IsRun Q s' t' n' x' := ⟨_, rfl⟩
        rw [← (show Q = ⟨(run s' t' n' x').toArray⟩ from hQ)] at C1 C2
        have hsz := hQ.size
        have HQ := Lib.hid hQ
        clear hQ
        subst hsz
        have HV := Lib.hid hv
        have b5 := B3.new w1 35 (.int .i64 s') (.int .i64 t') (.int .i64 x')
        replace hw := hw.alloc hw.size (.cells #[.int .i64 s', .int .i64 t', .int .i64 x'] 35)
        obtain ⟨b5_0, b5_1, b5_2, b5_3, b5_4, b5_5, b5_6⟩ := b5.facts
        go_wp2_with fail
        refine (C1.out _).mono ?_
        rintro e w2 ⟨rfl, hq⟩
        clear b5_0 b5_1 b5_2 b5_3 b5_4 b5_5 b5_6
        replace b5 := b5.belowS hq
        replace hw := afterB hw hq hw.size
        clear hq
        obtain ⟨b5_0, b5_1, b5_2, b5_3, b5_4, b5_5, b5_6⟩ := b5.facts
        go_wp2_with fail
        refine (C2.out _).mono ?_
        rintro e w3 ⟨rfl, hq⟩
        clear b5_0 b5_1 b5_2 b5_3 b5_4 b5_5 b5_6
        replace b5 := b5.belowS hq
        replace hw := afterB hw hq hw.size
        clear hq
        by_cases hbig : Q.size ≤ 60
        · skip
          have dbig : decide ((60 : Int) < (Q.size : Int)) = false := by simp; omega
          obtain ⟨k, hk, hkn⟩ : ∃ k : Nat, ((len1 : Int) % ((Q.size : Int) + 1)) = (k : Int) ∧ k ≤ Q.size := ⟨len1 % (Q.size + 1), by simp, by have := Nat.mod_lt len1 (show 0 < Q.size + 1 by omega); omega⟩
          have C3 := Lib.hid fun w => jump_pos s' t' x' k w hv (by omega)
          have HK := Lib.hid (hv.itnx k)
          clear hv
          generalize hyk : it (nx s' t') k x' = xk at C3 HK
          have HXK := Lib.hid hyk
          clear hyk
          obtain ⟨b5_0, b5_1, b5_2, b5_3, b5_4, b5_5, b5_6⟩ := b5.facts
          go_wp2_with fail
          refine (C3.out _).mono ?_
          rintro e w4 ⟨rfl, hq⟩
          clear b5_0 b5_1 b5_2 b5_3 b5_4 b5_5 b5_6
          replace b5 := b5.belowS hq
          replace hw := afterB hw hq hw.size
          clear hq
          have hzz := hw.size
          replace b5 := b5.alloc (.cells #[.int .i64 s', .int .i64 t', .int .i64 xk] 35)
          have b12 := B3.new w4 35 (.int .i64 s') (.int .i64 t') (.int .i64 xk)
          replace hw := hw.alloc hw.size (.cells #[.int .i64 s', .int .i64 t', .int .i64 xk] 35)
          obtain ⟨b5_0, b5_1, b5_2, b5_3, b5_4, b5_5, b5_6⟩ := b5.facts
          replace b5 := b5.alloc (.cells #[.int .i64 s', .int .i64 t', .int .i64 x'] 35)
          replace b12 := b12.alloc (.cells #[.int .i64 s', .int .i64 t', .int .i64 x'] 35)
          have b14 := B3.new (w4.alloc (.cells #[.int .i64 s', .int .i64 t', .int .i64 xk] 35)) 35 (.int .i64 s') (.int .i64 t') (.int .i64 x')
          rw [World.size_alloc] at b14
          replace hw := hw.alloc hw.size (.cells #[.int .i64 s', .int .i64 t', .int .i64 x'] 35)
          have B12 := Lib.hid b12
          have B14 := Lib.hid b14
          have HW := Lib.hid hw
          go_wp2_with fail
          go_loopw [15] (fun i wr => ∃ j : Nat, j ≤ Q.size ∧ i = .int .i64 (j : Int) ∧ B3 wr w4.heap.size 35 (.int .i64 s') (.int .i64 t') (.int .i64 xk) ∧ B3 wr (w4.heap.size + 1) 35 (.int .i64 s') (.int .i64 t') (.int .i64 (it (nx s' t') j x')) ∧ Below w.heap.size w wr) (fun i _ => Q.size - (intOf i).toNat)
          case atStart => exact ⟨0, Nat.zero_le _, rfl, B12.out, B14.out, HW.out⟩
          case round =>
            clear B12 B14 HW b5_0 b5_1 b5_2 b5_3 b5_4 b5_5 b5_6 b5 b12 b14 hw
            obtain ⟨j, hj, rfl, b12, b14, hw⟩ := hrel
            by_cases hlt : j < Q.size
            · skip
              have hq := HQ.out.look j hlt
              have hvj := HV.out.itnx j
              have C4 := Lib.hid fun w => step_yes s' t' _ w hvj
              have hyl := (vr_tlt' hvj)
              rw [← it_succ (nx s' t') j x'] at C4
              clear hvj
              generalize hy : it (nx s' t') j x' = y at C4 b14 hq hyl
              clear hy
              generalize hy2 : it (nx s' t') (j + 1) x' = y2 at C4
              have HY2 := Lib.hid hy2
              clear hy2
              rcases (show y % 2 = 0 ∨ y % 2 = 1 by omega) with hb | hb
              · skip
                have hqb : Q[j].toNat = 48 := by omega
                have hmy : ((y : Int)).tmod 2 = 0 := by rw [Int.tmod_eq_emod_of_nonneg (by omega)]; omega
                clear hq hb
                obtain ⟨b14_0, b14_1, b14_2, b14_3, b14_4, b14_5, b14_6⟩ := b14.facts
                go_wp2_with fail
                go_quiet (fail)
                clear hmy hqb
                go_wp2_with fail
                refine (C4.out _).mono ?_
                rintro e w20 ⟨rfl, hq20⟩
                clear b14_0 b14_1 b14_2 b14_3 b14_4 b14_5 b14_6
                replace b12 := (b12.drewN _).belowS hq20
                replace b14 := (b14.drewN _).belowS hq20
                replace hw := afterB (below_drewN hw _) hq20 (below_drewN hw _).size
                clear hq20
                obtain ⟨b14_0, b14_1, b14_2, b14_3, b14_4, b14_5, b14_6⟩ := b14.facts
                have hz1 : w.heap.size ≤ w4.heap.size + 1 := by omega
                go_wp2
                go_roundw
                case rel => exact ⟨j + 1, by omega, by go_num, ((b12.other (by simp) _).other (by simp) _).other (by simp) _, by rw [HY2.out]; exact b14.set012 _ _ _, ((hw.setCell hz1 _).setCell hz1 _).setCell hz1 _⟩
                case measure => simp [intOf]; omega
              · skip
                have hqb : Q[j].toNat = 49 := by omega
                have hmy : ((y : Int)).tmod 2 = 1 := by rw [Int.tmod_eq_emod_of_nonneg (by omega)]; omega
                clear hq hb
                obtain ⟨b14_0, b14_1, b14_2, b14_3, b14_4, b14_5, b14_6⟩ := b14.facts
                go_wp2_with fail
                go_quiet (fail)
                clear hmy hqb
                go_wp2_with fail
                refine (C4.out _).mono ?_
                rintro e w20 ⟨rfl, hq20⟩
                clear b14_0 b14_1 b14_2 b14_3 b14_4 b14_5 b14_6
                replace b12 := (b12.drewN _).belowS hq20
                replace b14 := (b14.drewN _).belowS hq20
                replace hw := afterB (below_drewN hw _) hq20 (below_drewN hw _).size
                clear hq20
                obtain ⟨b14_0, b14_1, b14_2, b14_3, b14_4, b14_5, b14_6⟩ := b14.facts
                have hz1 : w.heap.size ≤ w4.heap.size + 1 := by omega
                go_wp2
                go_roundw
                case rel => exact ⟨j + 1, by omega, by go_num, ((b12.other (by simp) _).other (by simp) _).other (by simp) _, by rw [HY2.out]; exact b14.set012 _ _ _, ((hw.setCell hz1 _).setCell hz1 _).setCell hz1 _⟩
                case measure => simp [intOf]; omega
            · skip
              have C5 := Lib.hid fun w => ssRun_yes s' t' xk (Q.size - k) w HK.out (by omega)
              obtain ⟨m, hm⟩ : ∃ m, m = Q.size - k := ⟨_, rfl⟩
              rw [← hm] at C5
              have HM := Lib.hid hm
              have hsub : IntKind.i64.wrap ((Q.size : Int) - (k : Int)) = (m : Int) := by rw [IntKind.wrap_i64]; omega
              clear hm
              obtain ⟨P, hP⟩ : ∃ P, IsRun P s' t' m xk := ⟨_, rfl⟩
              rw [show bs (run s' t' m xk) = P from hP.symm] at C5
              have hcmp := HQ.out.rest hkn HM.out (by rw [HXK.out]; exact hP)
              clear hP
              have hk0 : (0 : Int) ≤ (k : Int) := by omega
              have hk1 : (k : Int) ≤ (Q.size : Int) := by omega
              obtain ⟨b12_0, b12_1, b12_2, b12_3, b12_4, b12_5, b12_6⟩ := b12.facts
              go_wp2_with fail
              go_region_held3 (fun w' => w'.cell? ⟨w4.heap.size, 0, none⟩ = some (.int .i64 s') ∧ w'.cell? ⟨w4.heap.size, 1, none⟩ = some (.int .i64 t') ∧ w'.cell? ⟨w4.heap.size, 2, none⟩ = some (.int .i64 xk)) (go_keep)
                (first | (go_at_call 48; refine (C5.out _).mono ?_; rintro e v1 ⟨rfl, hq1⟩; have b12v := (b12.drewN 1).belowS hq1; obtain ⟨x0, x1, x2, _, _, _, _⟩ := b12v.facts; have hwv := afterB (below_drewN hw 1) hq1 (below_drewN hw 1).size))
              go_wp2_with fail
              go_ret
              exact ⟨rfl, hwv⟩
        · skip
          have dbig : decide ((60 : Int) < (Q.size : Int)) = true := by simp; omega
          obtain ⟨b5_0, b5_1, b5_2, b5_3, b5_4, b5_5, b5_6⟩ := b5.facts
          go_wp2
          go_ret
          exact ⟨rfl, hw⟩
    · have d1 : decide ((1048576 : Int) < (len1 : Int)) = true := by simp; omega
      go_enter Try.func14, Try.ntmps14
      go_wp2
      go_ret
      exact ⟨rfl, Below.refl _ _⟩
  · have d0 : decide ((1048576 : Int) < (len0 : Int)) = true := by simp; omega
    go_enter Try.func14, Try.ntmps14
    go_wp2
    go_ret
    exact ⟨rfl, Below.refl _ _⟩
end Go.Proofs.Ytmlmbinpkmdjjaa
