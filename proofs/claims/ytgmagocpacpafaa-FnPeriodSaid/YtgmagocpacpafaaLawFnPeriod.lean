/- The walk of the law on periods and leads. -/
import Derived.Test.YtgmagocpacpafaaWDrawP
import Derived.Test.YtgmagocpacpafaaWStep
import Derived.Test.YtgmagocpacpafaaWTail
import Derived.Test.YtgmagocpacpafaaWOrb
import Derived.Test.YtgmagocpacpafaaPlainPer
namespace Go.Proofs.Ytgmagocpacpafaa
open Go.RowKit SS
set_option maxRecDepth 100000
set_option maxHeartbeats 2000000 in
theorem walk_FnPeriod (a0 : Option Addr) (len0 cap0 : Nat) (z0 : List Int) (w : World) (h0 : IsRow .u8 w a0 len0 cap0 z0) :
    Calls Try.prog 3 #[.slice a0 len0 cap0] w fun e w' => e = .returned (.bool true) ∧ Below w.heap.size w w' := by
  obtain ⟨c0, l0, m0⟩ := h0.code
  clear h0
  by_cases hs0 : len0 ≤ 1048576
  · have d0 : decide ((1048576 : Int) < (len0 : Int)) = false := by simp; omega
    have D1 := Lib.hid (drawPeriod a0 len0 cap0 w c0 l0 m0)
    clear c0 l0 m0
    have hw := Below.refl w.heap.size w
    go_enter Try.func3, Try.ntmps3
    go_wp2_with fail
    refine (D1.out).mono ?_
    rintro e w1 ⟨s, t, x, rfl, hq⟩
    replace hw := afterB hw hq hw.size
    clear hq
    clear D1
    cases hr : rv s t x with
    | false =>
      have C1 := Lib.hid fun w => period_no s t x w hr
      have C2 := Lib.hid fun w => lead_no s t x w hr
      have C3 := Lib.hid fun w => speriod_no s t x w hr
      have C4 := Lib.hid fun w => slead_no s t x w hr
      have C5 := Lib.hid fun w => valid_impl s t x w
      rw [hr] at C5
      clear hr
      have b3 := B3.new w1 24 (.int .i64 s) (.int .i64 t) (.int .i64 x)
      replace hw := hw.alloc hw.size (.cells #[.int .i64 s, .int .i64 t, .int .i64 x] 24)
      obtain ⟨b3_0, b3_1, b3_2, b3_3, b3_4, b3_5, b3_6⟩ := b3.facts
      go_wp2_with fail
      refine (C1.out _).mono ?_
      rintro e w2 ⟨rfl, hq⟩
      clear b3_0 b3_1 b3_2 b3_3 b3_4 b3_5 b3_6
      replace b3 := b3.belowS hq
      replace hw := afterB hw hq hw.size
      clear hq
      obtain ⟨b3_0, b3_1, b3_2, b3_3, b3_4, b3_5, b3_6⟩ := b3.facts
      go_wp2_with fail
      refine (C2.out _).mono ?_
      rintro e w3 ⟨rfl, hq⟩
      clear b3_0 b3_1 b3_2 b3_3 b3_4 b3_5 b3_6
      replace b3 := b3.belowS hq
      replace hw := afterB hw hq hw.size
      clear hq
      obtain ⟨b3_0, b3_1, b3_2, b3_3, b3_4, b3_5, b3_6⟩ := b3.facts
      go_wp2_with fail
      refine (C3.out _).mono ?_
      rintro e w4 ⟨rfl, hq⟩
      clear b3_0 b3_1 b3_2 b3_3 b3_4 b3_5 b3_6
      replace b3 := b3.belowS hq
      replace hw := afterB hw hq hw.size
      clear hq
      obtain ⟨b3_0, b3_1, b3_2, b3_3, b3_4, b3_5, b3_6⟩ := b3.facts
      go_wp2_with fail
      refine (C4.out _).mono ?_
      rintro e w5 ⟨rfl, hq⟩
      clear b3_0 b3_1 b3_2 b3_3 b3_4 b3_5 b3_6
      replace b3 := b3.belowS hq
      replace hw := afterB hw hq hw.size
      clear hq
      obtain ⟨b3_0, b3_1, b3_2, b3_3, b3_4, b3_5, b3_6⟩ := b3.facts
      go_wp2_with fail
      refine (C3.out _).mono ?_
      rintro e w6 ⟨rfl, hq⟩
      clear b3_0 b3_1 b3_2 b3_3 b3_4 b3_5 b3_6
      replace b3 := b3.belowS hq
      replace hw := afterB hw hq hw.size
      clear hq
      obtain ⟨b3_0, b3_1, b3_2, b3_3, b3_4, b3_5, b3_6⟩ := b3.facts
      go_wp2_with fail
      refine (C4.out _).mono ?_
      rintro e w7 ⟨rfl, hq⟩
      clear b3_0 b3_1 b3_2 b3_3 b3_4 b3_5 b3_6
      replace b3 := b3.belowS hq
      replace hw := afterB hw hq hw.size
      clear hq
      obtain ⟨b3_0, b3_1, b3_2, b3_3, b3_4, b3_5, b3_6⟩ := b3.facts
      go_wp2_with fail
      refine (C5.out _).mono ?_
      rintro e w8 ⟨rfl, hq⟩
      clear b3_0 b3_1 b3_2 b3_3 b3_4 b3_5 b3_6
      replace b3 := b3.belowS hq
      replace hw := afterB hw hq hw.size
      clear hq
      obtain ⟨b3_0, b3_1, b3_2, b3_3, b3_4, b3_5, b3_6⟩ := b3.facts
      go_wp2
      go_ret
      exact ⟨rfl, hw⟩
    | true =>
      obtain ⟨s', t', x', rfl, rfl, rfl, hv⟩ := rv_nat hr
      clear hr
      have C1 := Lib.hid fun w => period_yes s' t' x' w hv
      have C2 := Lib.hid fun w => lead_yes s' t' x' w hv
      have C3 := Lib.hid fun w => speriod_yes s' t' x' w hv
      have C4 := Lib.hid fun w => slead_yes s' t' x' w hv
      have HV := Lib.hid hv
      have HL := Lib.hid hv.lead
      have HC := Lib.hid hv.comes
      have HO := Lib.hid hv.lost
      obtain ⟨⟨hIN, hE1, hE2⟩, hN⟩ := hv.orb
      clear hE1 hE2
      have h8 := hv.2.1
      have hp256 : 2 ^ s' ≤ 256 := Nat.pow_le_pow_right (n := 2) (by decide) h8
      generalize orbI (nx s' t') x' = I at *
      generalize orbN (nx s' t') x' = N at *
      have hN2 : N ≤ 256 := by omega
      clear hp256 hN
      obtain ⟨p, hp⟩ : ∃ p, p = N - I := ⟨_, rfl⟩
      rw [← hp] at HC HO
      have hpi : (N : Int) - (I : Int) = (p : Int) := by omega
      rw [hpi] at C1 C3
      have hp1 : 1 ≤ p := by omega
      have hp2 : p ≤ 256 := by omega
      clear hpi hp hIN hN2 N
      have hI8 : I ≤ 8 := by have := HL.out.1; omega
      have C6 := Lib.hid fun w => jump_pos s' t' x' I w hv (by omega)
      clear hv
      obtain ⟨F, HF⟩ : ∃ F, Hid (F = it (nx s' t') I x') := ⟨_, Lib.hid rfl⟩
      rw [← HF.out] at C6
      have k1 : decide ((p : Int) < 0) = false := by simp
      have b3 := B3.new w1 24 (.int .i64 s') (.int .i64 t') (.int .i64 x')
      replace hw := hw.alloc hw.size (.cells #[.int .i64 s', .int .i64 t', .int .i64 x'] 24)
      obtain ⟨b3_0, b3_1, b3_2, b3_3, b3_4, b3_5, b3_6⟩ := b3.facts
      go_wp2_with fail
      refine (C1.out _).mono ?_
      rintro e w2 ⟨rfl, hq⟩
      clear b3_0 b3_1 b3_2 b3_3 b3_4 b3_5 b3_6
      replace b3 := b3.belowS hq
      replace hw := afterB hw hq hw.size
      clear hq
      obtain ⟨b3_0, b3_1, b3_2, b3_3, b3_4, b3_5, b3_6⟩ := b3.facts
      go_wp2_with fail
      refine (C2.out _).mono ?_
      rintro e w3 ⟨rfl, hq⟩
      clear b3_0 b3_1 b3_2 b3_3 b3_4 b3_5 b3_6
      replace b3 := b3.belowS hq
      replace hw := afterB hw hq hw.size
      clear hq
      obtain ⟨b3_0, b3_1, b3_2, b3_3, b3_4, b3_5, b3_6⟩ := b3.facts
      go_wp2_with fail
      refine (C3.out _).mono ?_
      rintro e w4 ⟨rfl, hq⟩
      clear b3_0 b3_1 b3_2 b3_3 b3_4 b3_5 b3_6
      replace b3 := b3.belowS hq
      replace hw := afterB hw hq hw.size
      clear hq
      obtain ⟨b3_0, b3_1, b3_2, b3_3, b3_4, b3_5, b3_6⟩ := b3.facts
      go_wp2_with fail
      refine (C4.out _).mono ?_
      rintro e w5 ⟨rfl, hq⟩
      clear b3_0 b3_1 b3_2 b3_3 b3_4 b3_5 b3_6
      replace b3 := b3.belowS hq
      replace hw := afterB hw hq hw.size
      clear hq
      obtain ⟨b3_0, b3_1, b3_2, b3_3, b3_4, b3_5, b3_6⟩ := b3.facts
      go_wp2_with fail
      refine (C6.out _).mono ?_
      rintro e w6 ⟨rfl, hq⟩
      clear b3_0 b3_1 b3_2 b3_3 b3_4 b3_5 b3_6
      replace b3 := b3.belowS hq
      replace hw := afterB hw hq hw.size
      clear hq
      have hzz := hw.size
      have HNE : Hid (w1.heap.size ≠ w6.heap.size + 1) := Lib.hid (by have := b3.facts.2.2.2.2.2.2; omega)
      replace b3 := b3.alloc (.cells #[.int .i64 s', .int .i64 t', .int .i64 F] 24)
      have b6 := B3.new w6 24 (.int .i64 s') (.int .i64 t') (.int .i64 F)
      replace hw := hw.alloc hw.size (.cells #[.int .i64 s', .int .i64 t', .int .i64 F] 24)
      obtain ⟨b6_0, b6_1, b6_2, b6_3, b6_4, b6_5, b6_6⟩ := b6.facts
      replace b3 := b3.alloc (.cells #[.int .i64 s', .int .i64 t', .int .i64 F] 24)
      replace b6 := b6.alloc (.cells #[.int .i64 s', .int .i64 t', .int .i64 F] 24)
      have b8 := B3.new (w6.alloc (.cells #[.int .i64 s', .int .i64 t', .int .i64 F] 24)) 24 (.int .i64 s') (.int .i64 t') (.int .i64 F)
      rw [World.size_alloc] at b8
      replace hw := hw.alloc hw.size (.cells #[.int .i64 s', .int .i64 t', .int .i64 F] 24)
      have B3' := Lib.hid b3
      have B6 := Lib.hid b6
      have B8 := Lib.hid b8
      have HW := Lib.hid hw
      go_wp2_with fail
      go_loopw [9] (fun i wr => ∃ j : Nat, 1 ≤ j ∧ j ≤ p + 1 ∧ i = .int .i64 (j : Int) ∧ B3 wr w1.heap.size 24 (.int .i64 s') (.int .i64 t') (.int .i64 x') ∧ B3 wr w6.heap.size 24 (.int .i64 s') (.int .i64 t') (.int .i64 F) ∧ B3 wr (w6.heap.size + 1) 24 (.int .i64 s') (.int .i64 t') (.int .i64 (it (nx s' t') (I + (j - 1)) x')) ∧ Below w.heap.size w wr) (fun i _ => p + 1 - (intOf i).toNat)
      case atStart => exact ⟨1, Nat.le_refl _, by omega, rfl, B3'.out, B6.out, by have e : it (nx s' t') (I + (1 - 1)) x' = F := HF.out.symm; rw [e]; exact B8.out, HW.out⟩
      case round =>
        clear B3' B6 B8 HW b6_0 b6_1 b6_2 b6_3 b6_4 b6_5 b6_6 b3 b6 b8 hw
        obtain ⟨j, hj1, hj, rfl, b3, b6, b8, hw⟩ := hrel
        have hlt3 : w1.heap.size ≠ w6.heap.size + 1 := HNE.out
        by_cases hlt : j ≤ p
        · skip
          have hvj := HV.out.itnx (I + (j - 1))
          have C7 := Lib.hid fun w => step_yes s' t' _ w hvj
          rw [← it_succ (nx s' t') (I + (j - 1)) x', show I + (j - 1) + 1 = I + j by omega] at C7
          clear hvj
          have hcm := HC.out j hj1 hlt
          rw [← HF.out] at hcm
          have HJ : Hid (it (nx s' t') (I + (j + 1 - 1)) x' = it (nx s' t') (I + j) x') := by show _ = _; rw [Nat.add_sub_cancel]
          generalize it (nx s' t') (I + (j - 1)) x' = y at b8 C7
          generalize hy2 : it (nx s' t') (I + j) x' = y2 at C7 hcm HJ
          clear hy2
          obtain ⟨b8_0, b8_1, b8_2, b8_3, b8_4, b8_5, b8_6⟩ := b8.facts
          go_wp2_with fail
          refine (C7.out _).mono ?_
          rintro e w21 ⟨rfl, hq⟩
          clear b8_0 b8_1 b8_2 b8_3 b8_4 b8_5 b8_6
          replace b3 := b3.belowS hq
          replace b6 := b6.belowS hq
          replace b8 := b8.belowS hq
          replace hw := afterB hw hq hw.size
          clear hq
          have hz6 : w.heap.size ≤ w6.heap.size + 1 := by omega
          replace b3 := ((b3.other (a := ⟨w6.heap.size + 1, 0, none⟩) hlt3 (.int .i64 s')).other (a := ⟨w6.heap.size + 1, 1, none⟩) hlt3 (.int .i64 t')).other (a := ⟨w6.heap.size + 1, 2, none⟩) hlt3 (.int .i64 y2)
          replace b6 := ((b6.other (a := ⟨w6.heap.size + 1, 0, none⟩) (by simp) (.int .i64 s')).other (a := ⟨w6.heap.size + 1, 1, none⟩) (by simp) (.int .i64 t')).other (a := ⟨w6.heap.size + 1, 2, none⟩) (by simp) (.int .i64 y2)
          replace hw := ((hw.setCell (p := ⟨w6.heap.size + 1, 0, none⟩) hz6 (.int .i64 s')).setCell (p := ⟨w6.heap.size + 1, 1, none⟩) hz6 (.int .i64 t')).setCell (p := ⟨w6.heap.size + 1, 2, none⟩) hz6 (.int .i64 y2)
          obtain ⟨b8_0, b8_1, b8_2, b8_3, b8_4, b8_5, b8_6⟩ := b8.facts
          have b8n := b8.set012 (.int .i64 s') (.int .i64 t') (.int .i64 y2)
          obtain ⟨e0, e1, e2, e3, e4, e5, e6⟩ := b6.facts
          obtain ⟨n0, n1, n2, n3, n4, n5, n6⟩ := b8n.facts
          by_cases hjp : j = p
          · skip
            have hy : y2 = F := hcm.2 hjp
            subst hjp
            have hyb : (((y2 : Nat) : Int) == ((F : Nat) : Int)) = true := by rw [beq_iff_eq, hy]
            have hjb : (((j : Nat) : Int) == ((j : Nat) : Int)) = true := by simp
            clear hcm hy
            go_wp2
            go_roundw
            case rel => exact ⟨j + 1, by omega, by omega, by go_num, b3, b6, by rw [HJ.out]; exact b8n, hw⟩
            case measure => simp [intOf]
          · skip
            have hy : y2 ≠ F := fun e => hjp (hcm.1 e)
            have hyb : (((y2 : Nat) : Int) == ((F : Nat) : Int)) = false := by rw [beq_eq_false_iff_ne]; omega
            have hjb : (((j : Nat) : Int) == ((p : Nat) : Int)) = false := by rw [beq_eq_false_iff_ne]; omega
            clear hcm hy hjp
            go_wp2
            go_roundw
            case rel => exact ⟨j + 1, by omega, by omega, by go_num, b3, b6, by rw [HJ.out]; exact b8n, hw⟩
            case measure => simp [intOf]; omega
        · skip
          clear hj hj1 b6 b8
          obtain ⟨wo, rfl⟩ : ∃ wo : World, wo = wr := ⟨_, rfl⟩
          have hzo := hw.size
          have hz3 := b3.facts.2.2.2.2.2.2
          obtain ⟨b3_0, b3_1, b3_2, b3_3, b3_4, b3_5, b3_6⟩ := b3.facts
          have B3' := Lib.hid (b3.alloc (.cells #[.int .i64 s', .int .i64 t', .int .i64 x'] 24))
          have B10 := Lib.hid (B3.new wo 24 (.int .i64 s') (.int .i64 t') (.int .i64 x'))
          have HW := Lib.hid (hw.alloc hw.size (.cells #[.int .i64 s', .int .i64 t', .int .i64 x'] 24))
          go_wp2_with fail
          go_loopw [11] (fun i wr => ∃ j : Nat, j ≤ I ∧ i = .int .i64 (j : Int) ∧ B3 wr w1.heap.size 24 (.int .i64 s') (.int .i64 t') (.int .i64 x') ∧ B3 wr wo.heap.size 24 (.int .i64 s') (.int .i64 t') (.int .i64 (it (nx s' t') j x')) ∧ Below w.heap.size w wr) (fun i _ => I - (intOf i).toNat)
          case atStart => exact ⟨0, Nat.zero_le _, rfl, B3'.out, B10.out, HW.out⟩
          case round =>
            clear B3' B10 HW b3 hw b3_0 b3_1 b3_2 b3_3 b3_4 b3_5 b3_6
            obtain ⟨i, hi, rfl, b3, b10, hw⟩ := hrel
            by_cases hil : i < I
            · skip
              have hvj := HV.out.itnx i
              have C8 := Lib.hid fun w => jump_pos s' t' _ p w hvj (by omega)
              rw [← it_add] at C8
              have C9 := Lib.hid fun w => step_yes s' t' _ w hvj
              rw [← it_succ (nx s' t') i x'] at C9
              clear hvj
              have hne := HO.out i hil
              generalize it (nx s' t') i x' = y at b10 C8 C9 hne
              generalize it (nx s' t') (i + p) x' = z at C8 hne
              have hyb : (((z : Nat) : Int) == ((y : Nat) : Int)) = false := by rw [beq_eq_false_iff_ne]; omega
              clear hne
              generalize hy2 : it (nx s' t') (i + 1) x' = y2 at C9
              have HY2 := Lib.hid hy2
              clear hy2
              obtain ⟨b10_0, b10_1, b10_2, b10_3, b10_4, b10_5, b10_6⟩ := b10.facts
              go_wp2_with fail
              refine (C8.out _).mono ?_
              rintro e w31 ⟨rfl, hq⟩
              clear b10_0 b10_1 b10_2 b10_3 b10_4 b10_5 b10_6
              replace b3 := b3.belowS hq
              replace b10 := b10.belowS hq
              replace hw := afterB hw hq hw.size
              clear hq
              replace b3 := b3.alloc (.cells #[.int .i64 s', .int .i64 t', .int .i64 z] 24)
              replace b10 := b10.alloc (.cells #[.int .i64 s', .int .i64 t', .int .i64 z] 24)
              have b12 := B3.new w31 24 (.int .i64 s') (.int .i64 t') (.int .i64 z)
              replace hw := hw.alloc hw.size (.cells #[.int .i64 s', .int .i64 t', .int .i64 z] 24)
              obtain ⟨b10_0, b10_1, b10_2, b10_3, b10_4, b10_5, b10_6⟩ := b10.facts
              obtain ⟨b12_0, b12_1, b12_2, b12_3, b12_4, b12_5, b12_6⟩ := b12.facts
              go_wp2_with fail
              refine (C9.out _).mono ?_
              rintro e w32 ⟨rfl, hq⟩
              clear b10_0 b10_1 b10_2 b10_3 b10_4 b10_5 b10_6 b12_0 b12_1 b12_2 b12_3 b12_4 b12_5 b12_6
              replace b3 := b3.belowS hq
              replace b10 := b10.belowS hq
              replace b12 := b12.belowS hq
              replace hw := afterB hw hq hw.size
              clear hq
              clear b12
              obtain ⟨b10_0, b10_1, b10_2, b10_3, b10_4, b10_5, b10_6⟩ := b10.facts
              have hz10 : w.heap.size ≤ wo.heap.size := by omega
              have hne3 : w1.heap.size ≠ wo.heap.size := by omega
              go_wp2
              go_roundw
              case rel => exact ⟨i + 1, by omega, by go_num, ((b3.other hne3 _).other hne3 _).other hne3 _, by rw [HY2.out]; exact b10.set012 _ _ _, ((hw.setCell hz10 _).setCell hz10 _).setCell hz10 _⟩
              case measure => simp [intOf]; omega
            · skip
              clear hi
              obtain ⟨hl1, hl2⟩ := HL.out
              have hp1' : decide ((1 : Int) ≤ (p : Int)) = true := by simp; omega
              have hls : decide ((I : Int) ≤ (s' : Int)) = true := by simp; omega
              have ht0 := (vr_tlt HV.out).1
              by_cases ho : t' % 2 = 1
              · skip
                have hb : (((t' : Nat) : Int) % 2 == 0) = false := by rw [beq_eq_false_iff_ne]; omega
                have hI0 := hl2 ho
                have hIb : (((I : Nat) : Int) == 0) = true := by rw [beq_iff_eq]; omega
                clear hl2 ho hI0
                obtain ⟨b3_0, b3_1, b3_2, b3_3, b3_4, b3_5, b3_6⟩ := b3.facts
                go_wp2
                go_ret
                exact ⟨rfl, hw⟩
              · skip
                have hb : (((t' : Nat) : Int) % 2 == 0) = true := by rw [beq_iff_eq]; omega
                clear hl2 ho
                obtain ⟨b3_0, b3_1, b3_2, b3_3, b3_4, b3_5, b3_6⟩ := b3.facts
                go_wp2
                go_ret
                exact ⟨rfl, hw⟩
  · have d0 : decide ((1048576 : Int) < (len0 : Int)) = true := by simp; omega
    go_enter Try.func3, Try.ntmps3
    go_wp2
    go_ret
    exact ⟨rfl, Below.refl _ _⟩
end Go.Proofs.Ytgmagocpacpafaa
