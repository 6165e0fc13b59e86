/- The walk of the law that shifts add up. -/
import Derived.Test.YtgmagocpacpafaaWDrawT
import Derived.Test.YtgmagocpacpafaaWShift
import Derived.Test.YtgmagocpacpafaaWTail
namespace Go.Proofs.Ytgmagocpacpafaa
open Go.RowKit SS
set_option maxRecDepth 100000
set_option maxHeartbeats 2000000 in
theorem walk_FnShift (a0 : Option Addr) (len0 cap0 : Nat) (z0 : List Int) (a1 : Option Addr) (len1 cap1 : Nat) (z1 : List Int) (w : World) (h0 : IsRow .u8 w a0 len0 cap0 z0) (h1 : IsRow .u8 w a1 len1 cap1 z1) :
    Calls Try.prog 10 #[.slice a0 len0 cap0, .slice a1 len1 cap1] w fun e w' => e = .returned (.bool true) ∧ Below w.heap.size w w' := by
  obtain ⟨c0, l0, m0⟩ := h0.code
  obtain ⟨c1, l1, m1⟩ := h1.code
  clear h0 h1
  by_cases hs0 : len0 ≤ 1048576
  · have d0 : decide ((1048576 : Int) < (len0 : Int)) = false := by simp; omega
    by_cases hs1 : len1 ≤ 1048576
    · have d1 : decide ((1048576 : Int) < (len1 : Int)) = false := by simp; omega
      have D1 := Lib.hid (drawShift a0 len0 cap0 w c0 l0 m0)
      clear c0 l0 m0 c1 l1 m1
      have hw := Below.refl w.heap.size w
      go_enter Try.func10, Try.ntmps10
      go_wp2_with fail
      refine (D1.out).mono ?_
      rintro e w1 ⟨s, k, rfl, hsz, hq⟩
      replace hw := afterB hw hq hw.size
      clear hq
      clear D1
      have hml : s.size ≤ maxLen := by unfold maxLen; omega
      have C0 := Lib.hid fun w => same_below (seq_impl s w hml)
      cases hs : sv s.data.toList with
      | false =>
        have C1 := Lib.hid fun w => quiet_below (shift_impl_no s k w hml hs)
        have C2 := Lib.hid fun w => quiet_below (sshift_no s k w hml hs)
        rw [hs] at C0
        clear hs
        go_wp2_with fail
        refine (C1.out _).mono ?_
        rintro e w2 ⟨rfl, hq⟩
        replace hw := afterB hw hq hw.size
        clear hq
        go_wp2_with fail
        refine (C2.out _).mono ?_
        rintro e w3 ⟨rfl, hq⟩
        replace hw := afterB hw hq hw.size
        clear hq
        go_wp2_with fail
        refine (C0.out _).mono ?_
        rintro e w4 ⟨rfl, hq⟩
        replace hw := afterB hw hq hw.size
        clear hq
        go_wp2_with fail
        refine (C0.out _).mono ?_
        rintro e w5 ⟨rfl, hq⟩
        replace hw := afterB hw hq hw.size
        clear hq
        go_wp2
        go_ret
        exact ⟨rfl, hw⟩
      | true =>
        have C1 := Lib.hid fun w => quiet_below (shift_impl s k w hs)
        have C2 := Lib.hid fun w => quiet_below (sshift_yes s k w hs)
        rw [hs] at C0
        obtain ⟨h1, h2⟩ := sv_size hs
        rw [show rotS (md k s.size) s = shf k s from rfl] at C1 C2
        obtain ⟨n, hn, hn1, hn2, hnm⟩ := tmod_any k s.size h1 h2
        obtain ⟨m, hm, hml2⟩ : ∃ m : Nat, ((len1 : Int) % 300) = (m : Int) ∧ m < 300 := ⟨len1 % 300, by omega, by omega⟩
        have hsx := shf_sv k s hs
        have C3 := Lib.hid fun w => ssShift_yes (shf k s) (m : Int) w hsx
        rw [shf_shf k m s h1] at C3
        have C4 := Lib.hid fun w => ssShift_yes s (n + m) w hs
        rw [shf_congr (n + m) (k + m) s (by rw [Int.add_emod, hnm, ← Int.add_emod])] at C4
        have C5 := Lib.hid fun w => ssShift_yes (shf k s) (-n) w hsx
        rw [shf_shf k (-n) s h1, shf_id (k + -n) s (by rw [← Int.sub_eq_add_neg]; exact Int.emod_eq_zero_of_dvd (Int.dvd_of_emod_eq_zero (by rw [Int.sub_emod, hnm, Int.sub_self, Int.zero_emod])))] at C5
        have C6 := Lib.hid fun w => ssShift_yes s (s.size : Int) w hs
        rw [shf_id _ s (Int.emod_self)] at C6
        have hzx := shf_size k s h1
        clear hnm hs hsx
        generalize shf k s = x at *
        generalize shf (k + m) s = z at *
        have hzb : ((x.size : Int) == (s.size : Int)) = true := by rw [beq_iff_eq, hzx]
        clear hzx
        go_wp2_with fail
        refine (C1.out _).mono ?_
        rintro e w2 ⟨rfl, hq⟩
        replace hw := afterB hw hq hw.size
        clear hq
        go_wp2_with fail
        refine (C2.out _).mono ?_
        rintro e w3 ⟨rfl, hq⟩
        replace hw := afterB hw hq hw.size
        clear hq
        go_wp2_with fail
        refine (C0.out _).mono ?_
        rintro e w4 ⟨rfl, hq⟩
        replace hw := afterB hw hq hw.size
        clear hq
        go_wp2_with fail
        refine (C3.out _).mono ?_
        rintro e w5 ⟨rfl, hq⟩
        replace hw := afterB hw hq hw.size
        clear hq
        go_wp2_with fail
        refine (C4.out _).mono ?_
        rintro e w6 ⟨rfl, hq⟩
        replace hw := afterB hw hq hw.size
        clear hq
        go_wp2_with fail
        refine (C5.out _).mono ?_
        rintro e w7 ⟨rfl, hq⟩
        replace hw := afterB hw hq hw.size
        clear hq
        go_wp2_with fail
        refine (C6.out _).mono ?_
        rintro e w8 ⟨rfl, hq⟩
        replace hw := afterB hw hq hw.size
        clear hq
        go_wp2
        go_ret
        exact ⟨rfl, hw⟩
    · have d1 : decide ((1048576 : Int) < (len1 : Int)) = true := by simp; omega
      go_enter Try.func10, Try.ntmps10
      go_wp2
      go_ret
      exact ⟨rfl, Below.refl _ _⟩
  · have d0 : decide ((1048576 : Int) < (len0 : Int)) = true := by simp; omega
    go_enter Try.func10, Try.ntmps10
    go_wp2
    go_ret
    exact ⟨rfl, Below.refl _ _⟩
end Go.Proofs.Ytgmagocpacpafaa
