/- The walk of the law on every k-th bit. -/
import Derived.Test.YtgmagocpacpafaaWDrawT
import Derived.Test.YtgmagocpacpafaaWShift
import Derived.Test.YtgmagocpacpafaaWFill
import Derived.Test.YtgmagocpacpafaaPlainLeast
import Derived.Test.YtgmagocpacpafaaWTail
namespace Go.Proofs.Ytgmagocpacpafaa
open Go.RowKit SS
set_option maxRecDepth 100000
set_option maxHeartbeats 2000000 in
theorem walk_FnDecimate (a0 : Option Addr) (len0 cap0 : Nat) (z0 : List Int) (a1 : Option Addr) (len1 cap1 : Nat) (z1 : List Int) (w : World) (h0 : IsRow .u8 w a0 len0 cap0 z0) (h1 : IsRow .u8 w a1 len1 cap1 z1) :
    Calls Try.prog 9 #[.slice a0 len0 cap0, .slice a1 len1 cap1] w fun e w' => e = .returned (.bool true) ∧ Below w.heap.size w w' := by
  obtain ⟨c0, l0, m0⟩ := h0.code
  obtain ⟨c1, l1, m1⟩ := h1.code
  clear h0 h1
  by_cases hs0 : len0 ≤ 1048576
  · have d0 : decide ((1048576 : Int) < (len0 : Int)) = false := by simp; omega
    by_cases hs1 : len1 ≤ 1048576
    · have d1 : decide ((1048576 : Int) < (len1 : Int)) = false := by simp; omega
      have D1 := Lib.hid (drawDecimate a0 len0 cap0 w c0 l0 m0)
      clear c0 l0 m0 c1 l1 m1
      have hw := Below.refl w.heap.size w
      go_enter Try.func9, Try.ntmps9
      go_wp2_with fail
      refine (D1.out).mono ?_
      rintro e w1 ⟨s, k, rfl, hsz, hq⟩
      replace hw := afterB hw hq hw.size
      clear hq
      clear D1
      have hml : s.size ≤ maxLen := by unfold maxLen; omega
      by_cases hc : sv s.data.toList = true ∧ 0 ≤ k ∧ k ≤ 255
      · skip
        obtain ⟨hs, hk0, hk1⟩ := hc
        obtain ⟨k, rfl⟩ := Int.eq_ofNat_of_zero_le hk0
        have hk : k ≤ 255 := by omega
        clear hk0 hk1 hsz hml
        obtain ⟨h1, h2⟩ := sv_size hs
        obtain ⟨g1, g2, g3⟩ := sv_yes hs
        obtain ⟨m, hm, hm9⟩ : ∃ m : Nat, ((len1 : Int) % 9) = (m : Int) ∧ m < 9 := ⟨len1 % 9, by omega, by omega⟩
        have hx : sv (decL k s.data.toList) = true := sv_mk (by rw [decL_length]; exact g1) (by rw [decL_length]; exact g2) (okB_decL _ _ g3)
        have C1 := Lib.hid fun w => dec_impl s k w hs hk
        have C2 := Lib.hid fun w => sdec_yes s k w hs hk
        have C3 := Lib.hid fun w => dec_impl (bs (decL k s.data.toList)) m w (by rw [bs_list]; exact hx) (by omega)
        have hkm : k * m % s.size < s.size := Nat.mod_lt _ (by omega)
        have C4 := Lib.hid fun w => dec_impl s (k * m % s.size) w hs (by omega)
        have C5 := Lib.hid fun w => dec_impl s 1 w hs (by omega)
        rw [bs_list, dec_dec k m s.data.toList g1, size_list] at C3
        rw [dec_one, show bs s.data.toList = s from rfl, show ((1 : Nat) : Int) = 1 from rfl] at C5
        have hxz : (bs (decL k s.data.toList)).size = s.size := by rw [bs_size, decL_length, size_list]
        have HXA : Hid (∀ i p (h : i < (bs (decL k s.data.toList)).size) (hp : p < s.size), k * i % s.size = p → ((bs (decL k s.data.toList))[i]'h).toNat = (s[p]'hp).toNat) := by
          intro i p h hp e
          rw [← at_ba (bs (decL k s.data.toList)) i h, bs_list, at_decL _ _ _ (by rw [size_list]; omega), size_list, e, at_ba s p hp]
        clear hx g1 g2 g3 hs hkm
        have hmul : (k : Int) * (m : Int) = ((k * m : Nat) : Int) := by simp
        have hkb : k * m ≤ 255 * 8 := Nat.mul_le_mul hk (by omega)
        have hmod : (((k * m : Nat) : Int) % (s.size : Int)) = ((k * m % s.size : Nat) : Int) := by simp
        generalize k * m % s.size = K at C3 C4 hmod
        generalize k * m = KM at hmul hkb hmod
        generalize bs (decL k s.data.toList) = x at *
        generalize bs (decL K s.data.toList) = z at C3 C4
        have hxs := hxz
        have hnz : ((s.size : Int) == 0) = false := by rw [beq_eq_false_iff_ne]; omega
        go_wp2_with fail
        refine (C1.out _).mono ?_
        rintro e w2 ⟨rfl, hq⟩
        replace hw := afterB hw hq hw.size
        clear hq
        go_wp2_with fail
        refine (C2.out _).mono ?_
        rintro e w3 ⟨rfl, hq⟩
        replace hw := afterB hw hq hw.size
        clear hq
        go_wp2_with fail
        refine (C3.out _).mono ?_
        rintro e w4 ⟨rfl, hq⟩
        replace hw := afterB hw hq hw.size
        clear hq
        go_wp2_with fail
        refine (C4.out _).mono ?_
        rintro e w5 ⟨rfl, hq⟩
        replace hw := afterB hw hq hw.size
        clear hq
        go_wp2_with fail
        refine (C5.out _).mono ?_
        rintro e w6 ⟨rfl, hq⟩
        replace hw := afterB hw hq hw.size
        clear hq
        have HW := Lib.hid hw
        have HXZ := Lib.hid hxz
        clear hw C1 C2 C3 C4 C5 hmul hkb hmod hm hxz hxs
        obtain ⟨wo, hwo⟩ : ∃ wo : World, wo = w6 := ⟨_, rfl⟩
        have HWO : Below w.heap.size w wo := hwo ▸ HW.out
        rw [← hwo]
        clear hwo HW
        go_wp2_with fail
        go_loopw [18] (fun i wr => ∃ j n : Nat, j ≤ s.size ∧ i = .int .i64 (j : Int) ∧ wr = wo.drewN n) (fun i _ => s.size - (intOf i).toNat)
        case atStart => exact ⟨0, 0, Nat.zero_le _, rfl, rfl⟩
        case round =>
          obtain ⟨j, n, hj, rfl, rfl⟩ := hrel
          have hxs := HXZ.out
          by_cases hlt : j < s.size
          · skip
            have hjx : j < x.size := by omega
            have hb : k * j % s.size < s.size := Nat.mod_lt _ (by omega)
            obtain ⟨p, hpe⟩ : ∃ p, k * j % s.size = p := ⟨_, rfl⟩
            rw [hpe] at hb
            have hq := HXA.out j p hjx hb hpe
            have hp1 : k * j ≤ 65025 := Nat.mul_le_mul (show k ≤ 255 by omega) (show j ≤ 255 by omega)
            have hmul : IntKind.i64.wrap ((k : Int) * (j : Int)) = ((k * j : Nat) : Int) := by rw [show (k : Int) * (j : Int) = ((k * j : Nat) : Int) by simp, IntKind.wrap_i64]; omega
            have htm : (((k * j : Nat) : Int)).tmod (s.size : Int) = ((k * j % s.size : Nat) : Int) := by rw [Int.tmod_eq_emod_of_nonneg (by omega)]; simp
            rw [hpe] at htm
            clear hpe
            generalize k * j = KJ at hmul htm hp1
            have hnb : (((x[j].toNat : Nat) : Int) == ((s[p].toNat : Nat) : Int)) = true := by rw [beq_iff_eq, hq]
            have hjs : decide (x.size ≤ j) = false := by simp; omega
            have hps : decide (s.size ≤ p) = false := by simp; omega
            clear hxs
            go_wp2_with fail
            go_quiet (fail)
            go_wp2
            go_roundw
            case rel => exact ⟨j + 1, _, by omega, by go_num, rfl⟩
            case measure => simp [intOf]; omega
          · skip
            obtain rfl : j = s.size := by omega
            have h0x : 0 < x.size := by omega
            have h0s : 0 < s.size := by omega
            have hq := HXA.out 0 0 h0x h0s (by rw [Nat.mul_zero, Nat.zero_mod])
            have hnb : (((x[0].toNat : Nat) : Int) == ((s[0].toNat : Nat) : Int)) = true := by rw [beq_iff_eq, hq]
            have dl : decide (s.size < x.size) = false := by simp; omega
            clear hq hxs
            go_wp2_with fail
            go_quiet (fail)
            go_wp2
            go_ret
            exact ⟨rfl, below_drewN (below_drewN HWO _) _⟩
      · skip
        have hn : sv s.data.toList = false ∨ k < 0 ∨ 255 < k := by
          cases hs : sv s.data.toList with
          | false => exact .inl rfl
          | true => exact .inr (Classical.byContradiction fun h => hc ⟨hs, by omega, by omega⟩)
        have C1 := Lib.hid fun w => dec_impl_no s k w hml hn
        have C2 := Lib.hid fun w => sdec_no s k w (by omega) hn
        clear hc hml hsz hn
        go_wp2_with fail
        refine (C1.out _).mono ?_
        rintro e w2 ⟨rfl, hq⟩
        replace hw := afterB hw hq hw.size
        clear hq
        go_wp2_with fail
        refine (C2.out _).mono ?_
        rintro e w3 ⟨rfl, hq⟩
        replace hw := afterB hw hq hw.size
        clear hq
        go_wp2
        go_ret
        exact ⟨rfl, hw⟩
    · have d1 : decide ((1048576 : Int) < (len1 : Int)) = true := by simp; omega
      go_enter Try.func9, Try.ntmps9
      go_wp2
      go_ret
      exact ⟨rfl, Below.refl _ _⟩
  · have d0 : decide ((1048576 : Int) < (len0 : Int)) = true := by simp; omega
    go_enter Try.func9, Try.ntmps9
    go_wp2
    go_ret
    exact ⟨rfl, Below.refl _ _⟩
end Go.Proofs.Ytgmagocpacpafaa
