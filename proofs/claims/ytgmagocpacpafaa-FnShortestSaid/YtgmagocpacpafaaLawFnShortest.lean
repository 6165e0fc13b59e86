/- The walk of the law on shortest registers. -/
import Derived.Test.YtgmagocpacpafaaWDrawG
import Derived.Test.YtgmagocpacpafaaWShort
import Derived.Test.YtgmagocpacpafaaWMax
import Derived.Test.YtgmagocpacpafaaWStrs
import Derived.Test.YtgmagocpacpafaaWTail
namespace Go.Proofs.Ytgmagocpacpafaa
open Go.RowKit SS
set_option maxRecDepth 100000
set_option maxHeartbeats 2000000 in
theorem walk_FnShortest (a0 : Option Addr) (len0 cap0 : Nat) (z0 : List Int) (w : World) (h0 : IsRow .u8 w a0 len0 cap0 z0) :
    Calls Try.prog 8 #[.slice a0 len0 cap0] w fun e w' => e = .returned (.bool true) ∧ Below w.heap.size w w' := by
  obtain ⟨c0, l0, m0⟩ := h0.code
  clear h0
  by_cases hs0 : len0 ≤ 1048576
  · have d0 : decide ((1048576 : Int) < (len0 : Int)) = false := by simp; omega
    have D1 := Lib.hid (drawShortest a0 len0 cap0 w c0 l0 m0)
    clear c0 l0 m0
    have hw := Below.refl w.heap.size w
    go_enter Try.func8, Try.ntmps8
    go_wp2_with fail
    refine (D1.out).mono ?_
    rintro e w1 ⟨q, rfl, hsz, hq⟩
    replace hw := afterB hw hq hw.size
    clear hq
    clear D1
    have hml : q.size ≤ maxLen := by unfold maxLen; omega
    by_cases hc : bitsB q.data.toList = true ∧ 8 ≤ q.size ∧ q.size ≤ 64
    · skip
      obtain ⟨hb, h8, h64⟩ := hc
      have hok : okB q.data.toList = true := by unfold bitsB at hb; rw [Bool.and_eq_true] at hb; exact hb.2
      clear hb
      rcases short_or q.data.toList with ⟨S, T, hS⟩ | hn
      · skip
        have C1 := Lib.hid fun w => short_yes q S T w h8 h64 hok hS
        have C2 := Lib.hid fun w => sshort_yes q S T w h8 h64 hok hS
        obtain ⟨hS2, hS8, hT1, hT2, hh, _, hno⟩ := hS
        have hS2' : 2 ≤ S := hS2
        have hvS := short_vr q.data.toList S T hS2 hS8 hT1 hT2 (by rw [size_list]; exact h8) hok
        have hre := hit_yes hh
        have C3 := Lib.hid fun w => ssRun_yes S T _ q.size w hvS (by omega)
        have HNO : Hid (∀ k t : Nat, 2 ≤ k → k < S → 1 ≤ t → t < 2 ^ k → VR k t (frm (q.data.toList.take k)) ∧ ((bs (run k t q.size (frm (q.data.toList.take k)))).toList == q.toList) = false) :=
          Lib.hid fun k t h2 hk h1 ht => ⟨short_vr q.data.toList k t h2 (by omega) h1 ht (by rw [size_list]; exact h8) hok, hit_no (hno k t h2 hk h1 ht)⟩
        have HRE : Hid ((bs (run S T q.size (frm (q.data.toList.take S)))).toList == q.toList) := Lib.hid hre
        have HF : Hid (∀ (k t : Nat) (w : World), VR k t (frm (q.data.toList.take k)) → k < q.size → Calls Try.prog 24 #[.int .i64 k, .int .i64 t, .string (q.extract 0 k)] w fun e w' => e = .returned (.tuple #[.agg #[.int .i64 k, .int .i64 t, .int .i64 (frm (q.data.toList.take k))], .bool true]) ∧ Below w.heap.size w w') := by
          intro k t w hv hk
          have e : (q.extract 0 k).data.toList = q.data.toList.take k := by simp [ByteArray.data_extract]
          have hz : (q.extract 0 k).size = k := by rw [ByteArray.size_extract]; omega
          have := rfrom_yes k t (q.extract 0 k) w (by unfold maxLen; omega) (tv_of (s := k) (t := t) ⟨hv.1, hv.2.1, hv.2.2.1, hv.2.2.2.1, by have := Nat.pow_le_pow_right (n := 2) (by decide) hv.1; omega⟩) (by unfold bitsB; rw [e, okB_take _ _ hok, Bool.and_true, decide_eq_true_eq, List.length_take, size_list]; omega) hz
          rwa [e] at this
        clear hS2 hT1 hT2 hh hno hvS hre hok hsz hml
        generalize hX : frm (q.data.toList.take S) = X at C1 C2 C3 HRE
        clear hX
        generalize bs (run S T q.size X) = R at C3 HRE
        go_wp2_with fail
        refine (C1.out _).mono ?_
        rintro e w2 ⟨rfl, hq⟩
        replace hw := afterB hw hq hw.size
        clear hq
        have b4 := B3.new w2 24 (.int .i64 S) (.int .i64 T) (.int .i64 X)
        replace hw := hw.alloc hw.size (.cells #[.int .i64 S, .int .i64 T, .int .i64 X] 24)
        go_wp2_with fail
        refine (C2.out _).mono ?_
        rintro e w3 ⟨rfl, hq⟩
        replace b4 := b4.belowS hq
        replace hw := afterB hw hq hw.size
        clear hq
        replace b4 := b4.alloc (.cells #[.int .i64 S, .int .i64 T, .int .i64 X] 24)
        have b6 := B3.new w3 24 (.int .i64 S) (.int .i64 T) (.int .i64 X)
        replace hw := hw.alloc hw.size (.cells #[.int .i64 S, .int .i64 T, .int .i64 X] 24)
        obtain ⟨b4_0, b4_1, b4_2, b4_3, b4_4, b4_5, b4_6⟩ := b4.facts
        obtain ⟨b6_0, b6_1, b6_2, b6_3, b6_4, b6_5, b6_6⟩ := b6.facts
        have HB4 := Lib.hid b4
        have HW := Lib.hid hw
        clear hw C1 C2
        go_wp2_with fail
        go_loopw [8] (fun i wr => ∃ k : Nat, 2 ≤ k ∧ k ≤ S ∧ i = .int .i64 (k : Int) ∧ B3 wr w2.heap.size 24 (.int .i64 S) (.int .i64 T) (.int .i64 X) ∧ Below w.heap.size w wr) (fun i _ => S - (intOf i).toNat)
        case atStart => exact ⟨2, Nat.le_refl _, hS2', rfl, HB4.out, HW.out⟩
        case round =>
          clear HB4 HW b4 b6 b4_0 b4_1 b4_2 b4_3 b4_4 b4_5 b4_6 b6_0 b6_1 b6_2 b6_3 b6_4 b6_5 b6_6
          obtain ⟨k, hk2, hk, rfl, b4, hw⟩ := hrel
          by_cases hlt : k < S
          · skip
            obtain ⟨wo, rfl⟩ : ∃ wo : World, wo = wr := ⟨_, rfl⟩
            obtain ⟨p, HP⟩ : ∃ p, Hid (p = 2 ^ k) := ⟨2 ^ k, Lib.hid rfl⟩
            have hp256 : p ≤ 256 := by rw [HP.out]; exact Nat.pow_le_pow_right (n := 2) (by decide) (show k ≤ 8 by omega)
            have hp1 : 1 ≤ p := by rw [HP.out]; exact Nat.one_le_two_pow
            have hpi : ((2 : Int) ^ k) = (p : Int) := by rw [HP.out]; simp
            obtain ⟨b4_0, b4_1, b4_2, b4_3, b4_4, b4_5, b4_6⟩ := b4.facts
            have HB4 := Lib.hid b4
            have HW := Lib.hid hw
            clear hw
            go_wp2_with fail
            go_loopw [9] (fun i wr => ∃ t : Nat, 1 ≤ t ∧ t ≤ p ∧ i = .int .i64 (t : Int) ∧ B3 wr w2.heap.size 24 (.int .i64 S) (.int .i64 T) (.int .i64 X) ∧ Below w.heap.size w wr) (fun i _ => p - (intOf i).toNat)
            case atStart => exact ⟨1, Nat.le_refl _, hp1, rfl, HB4.out, HW.out⟩
            case round =>
              clear HB4 HW b4 b4_0 b4_1 b4_2 b4_3 b4_4 b4_5 b4_6
              obtain ⟨t, ht1, ht, rfl, b4, hw⟩ := hrel
              by_cases htp : t < p
              · skip
                obtain ⟨hv, hne⟩ := HNO.out k t hk2 hlt ht1 (by rw [← HP.out]; exact htp)
                have C5 := Lib.hid fun w => HF.out k t w hv (by omega)
                have C6 := Lib.hid fun w => ssRun_yes k t _ q.size w hv (by omega)
                generalize frm (q.data.toList.take k) = Y at C5 C6 hne
                generalize bs (run k t q.size Y) = P at C6 hne
                clear hv
                go_wp2_with fail
                refine (C5.out _).mono ?_
                rintro e w31 ⟨rfl, hq⟩
                replace b4 := b4.belowS hq
                replace hw := afterB hw hq hw.size
                clear hq
                replace b4 := b4.alloc (.cells #[.int .i64 k, .int .i64 t, .int .i64 Y] 24)
                have b10 := B3.new w31 24 (.int .i64 k) (.int .i64 t) (.int .i64 Y)
                replace hw := hw.alloc hw.size (.cells #[.int .i64 k, .int .i64 t, .int .i64 Y] 24)
                obtain ⟨b10_0, b10_1, b10_2, b10_3, b10_4, b10_5, b10_6⟩ := b10.facts
                go_wp2_with fail
                refine (C6.out _).mono ?_
                rintro e w32 ⟨rfl, hq⟩
                clear b10_0 b10_1 b10_2 b10_3 b10_4 b10_5 b10_6
                replace b4 := b4.belowS hq
                replace b10 := b10.belowS hq
                replace hw := afterB hw hq hw.size
                clear hq
                go_wp2
                go_roundw
                case rel => exact ⟨t + 1, by omega, by omega, by go_num, b4, hw⟩
                case measure => simp [intOf]; omega
              · skip
                obtain rfl : t = p := by omega
                go_wp2
                go_roundw
                case rel => exact ⟨k + 1, by omega, by omega, by go_num, b4, hw⟩
                case measure => simp [intOf]; omega
          · skip
            obtain rfl : k = S := by omega
            have hre := HRE.out
            obtain ⟨b4_0, b4_1, b4_2, b4_3, b4_4, b4_5, b4_6⟩ := b4.facts
            go_wp2_with fail
            refine (C3.out _).mono ?_
            rintro e w21 ⟨rfl, hq⟩
            clear b4_0 b4_1 b4_2 b4_3 b4_4 b4_5 b4_6
            replace b4 := b4.belowS hq
            replace hw := afterB hw hq hw.size
            clear hq
            go_wp2
            go_ret
            exact ⟨rfl, hw⟩
      · skip
        have C1 := Lib.hid fun w => short_no q w h8 h64 hok hn
        have C2 := Lib.hid fun w => sshort_no q w h8 h64 hok hn
        clear h8 h64 hok hn hsz hml
        go_wp2_with fail
        refine (C1.out _).mono ?_
        rintro e w2 ⟨rfl, hq⟩
        replace hw := afterB hw hq hw.size
        clear hq
        have b4 := B3.new w2 24 (.int .i64 0) (.int .i64 0) (.int .i64 0)
        replace hw := hw.alloc hw.size (.cells #[.int .i64 0, .int .i64 0, .int .i64 0] 24)
        go_wp2_with fail
        refine (C2.out _).mono ?_
        rintro e w3 ⟨rfl, hq⟩
        replace b4 := b4.belowS hq
        replace hw := afterB hw hq hw.size
        clear hq
        replace b4 := b4.alloc (.cells #[.int .i64 0, .int .i64 0, .int .i64 0] 24)
        have b6 := B3.new w3 24 (.int .i64 0) (.int .i64 0) (.int .i64 0)
        replace hw := hw.alloc hw.size (.cells #[.int .i64 0, .int .i64 0, .int .i64 0] 24)
        obtain ⟨b4_0, b4_1, b4_2, b4_3, b4_4, b4_5, b4_6⟩ := b4.facts
        obtain ⟨b6_0, b6_1, b6_2, b6_3, b6_4, b6_5, b6_6⟩ := b6.facts
        go_wp2
        go_ret
        exact ⟨rfl, hw⟩
    · skip
      have hn : bitsB q.data.toList = false ∨ q.size < 8 ∨ 64 < q.size := by
        cases hb : bitsB q.data.toList with
        | false => exact .inl rfl
        | true => exact .inr (Classical.byContradiction fun h => hc ⟨hb, by omega, by omega⟩)
      have C1 := Lib.hid fun w => short_bad q w hml hn
      have C2 := Lib.hid fun w => sshort_bad q w hml hn
      clear hc hml hsz hn
      go_wp2_with fail
      refine (C1.out _).mono ?_
      rintro e w2 ⟨rfl, hq⟩
      replace hw := afterB hw hq hw.size
      clear hq
      have b4 := B3.new w2 24 (.int .i64 0) (.int .i64 0) (.int .i64 0)
      replace hw := hw.alloc hw.size (.cells #[.int .i64 0, .int .i64 0, .int .i64 0] 24)
      go_wp2_with fail
      refine (C2.out _).mono ?_
      rintro e w3 ⟨rfl, hq⟩
      replace b4 := b4.belowS hq
      replace hw := afterB hw hq hw.size
      clear hq
      replace b4 := b4.alloc (.cells #[.int .i64 0, .int .i64 0, .int .i64 0] 24)
      have b6 := B3.new w3 24 (.int .i64 0) (.int .i64 0) (.int .i64 0)
      replace hw := hw.alloc hw.size (.cells #[.int .i64 0, .int .i64 0, .int .i64 0] 24)
      obtain ⟨b4_0, b4_1, b4_2, b4_3, b4_4, b4_5, b4_6⟩ := b4.facts
      obtain ⟨b6_0, b6_1, b6_2, b6_3, b6_4, b6_5, b6_6⟩ := b6.facts
      go_wp2
      go_ret
      exact ⟨rfl, hw⟩
  · have d0 : decide ((1048576 : Int) < (len0 : Int)) = true := by simp; omega
    go_enter Try.func8, Try.ntmps8
    go_wp2
    go_ret
    exact ⟨rfl, Below.refl _ _⟩
end Go.Proofs.Ytgmagocpacpafaa
