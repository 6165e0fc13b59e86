/- The walk of the law on the parity of sums. -/
import Derived.Test.YtmlmbinpkmdjjaaWDraw
namespace Go.Proofs.Ytmlmbinpkmdjjaa
open Go.RowKit SS
theorem par_two (n : Nat) (h : n < 2 ^ 63) : par (2 * n) = par n := by
  rw [par_step (2 * n) (by omega)]
  have := par_lt n
  rw [show 2 * n % 2 = 0 by omega, show 2 * n / 2 = n by omega]
  omega
theorem par_two1 (n : Nat) (h : n < 2 ^ 63) : par (2 * n + 1) = 1 - par n := by
  rw [par_step (2 * n + 1) (by omega)]
  have := par_lt n
  rw [show (2 * n + 1) % 2 = 1 by omega, show (2 * n + 1) / 2 = n by omega]
  omega
theorem xor_bits (a b : Nat) (ha : a < 2) (hb : b < 2) : a ^^^ b = (a + b) % 2 := by
  rcases (show a = 0 ∨ a = 1 by omega) with rfl | rfl <;> rcases (show b = 0 ∨ b = 1 by omega) with rfl | rfl <;> rfl
set_option maxHeartbeats 2000000 in
theorem walk_FnParity (a0 : Option Addr) (len0 cap0 : Nat) (z0 : List Int) (a1 : Option Addr) (len1 cap1 : Nat) (z1 : List Int) (w : World) (h0 : IsRow .u8 w a0 len0 cap0 z0) (h1 : IsRow .u8 w a1 len1 cap1 z1) :
    Calls Try.prog 9 #[.slice a0 len0 cap0, .slice a1 len1 cap1] w fun e w' => e = .returned (.bool true) ∧ Below w.heap.size w w' := by
  obtain ⟨c0, l0, m0⟩ := h0.code
  obtain ⟨c1, l1, m1⟩ := h1.code
  clear h0 h1
  by_cases hs0 : len0 ≤ 1048576
  · have d0 : decide ((1048576 : Int) < (len0 : Int)) = false := by simp; omega
    by_cases hs1 : len1 ≤ 1048576
    · have d1 : decide ((1048576 : Int) < (len1 : Int)) = false := by simp; omega
      have D1 := Lib.hid (drawParity a0 len0 cap0 w c0 l0 m0)
      have D2 := Lib.hid fun w1 (hb : Below w.heap.size w w1) => drawParity a1 len1 cap1 w1 (c1.next hb) l1 m1
      clear c0 l0 m0 c1 l1 m1
      go_enter Try.func9, Try.ntmps9
      go_wp2_with fail
      refine D1.out.mono ?_
      rintro e w1 ⟨n, rfl, hn0, hn1, hb1⟩
      go_wp2_with fail
      refine (D2.out w1 hb1).mono ?_
      rintro e w2 ⟨m, rfl, hm0, hm1, hb2⟩
      have HB := Lib.hid (next hb1 hb2 (Nat.le_refl _))
      clear D1 D2 hb1 hb2
      by_cases hn : n < 0
      · have dn : decide (n < 0) = true := decide_eq_true hn
        have dn' : decide (0 ≤ n) = false := decide_eq_false (by omega)
        go_wp2_with fail
        refine (parity_impl_neg n _ hn).mono ?_
        rintro e w' ⟨rfl, rfl⟩
        go_wp2_with fail
        refine (Parity_spec_neg n _ hn).mono ?_
        rintro e w' ⟨rfl, rfl⟩
        go_wp2_with fail
        refine (Parity_spec_neg n _ hn).mono ?_
        rintro e w' ⟨rfl, rfl⟩
        go_wp2
        go_ret
        exact ⟨rfl, HB.out⟩
      · obtain ⟨n', rfl⟩ := Int.eq_ofNat_of_zero_le (show 0 ≤ n by omega)
        have dn : decide ((n' : Int) < 0) = false := by simp
        have hpn := par_lt n'
        by_cases hm : m < 0
        · have dm : decide (m < 0) = true := decide_eq_true hm
          go_wp2_with fail
          refine (parity_impl n' _ (by omega)).mono ?_
          rintro e w' ⟨rfl, rfl⟩
          go_wp2_with fail
          refine (Parity_spec n' _ (by omega)).mono ?_
          rintro e w' ⟨rfl, rfl⟩
          rcases (show par n' = 0 ∨ par n' = 1 by omega) with hp | hp
          · have hq : ((par n' : Nat) : Int) = 0 := by omega
            clear hp
            go_wp2
            go_ret
            exact ⟨rfl, HB.out⟩
          · have hq : ((par n' : Nat) : Int) = 1 := by omega
            clear hp
            go_wp2
            go_ret
            exact ⟨rfl, HB.out⟩
        · obtain ⟨m', rfl⟩ := Int.eq_ofNat_of_zero_le (show 0 ≤ m by omega)
          have dm : decide ((m' : Int) < 0) = false := by simp
          have hpm := par_lt m'
          have hx := xor_i64 n' m' (by omega) (by omega)
          have hy := xor_i64 (par n') (par m') (by omega) (by omega)
          have HX := Lib.hid (par_xor n' m')
          rw [xor_bits _ _ hpn hpm] at hy
          have hxl : n' ^^^ m' < 2 ^ 63 := Nat.xor_lt_two_pow (by omega) (by omega)
          have C3 := Lib.hid fun w => parity_impl (n' ^^^ m') w (by omega)
          rw [HX.out] at C3
          have hbig : 4611686018427387903 < (n' : Int) ∨ ¬ 4611686018427387903 < (n' : Int) := by omega
          clear HX
          generalize n' ^^^ m' = y at hx C3
          generalize (par n' + par m') % 2 = q at hy C3
          rcases hbig with hbig | hbig
          · have db : decide ((4611686018427387903 : Int) < (n' : Int)) = true := decide_eq_true hbig
            clear hbig hxl
            have C1 := Lib.hid fun w => parity_impl n' w (by omega)
            have C2 := Lib.hid fun w => Parity_spec n' w (by omega)
            have C4 := Lib.hid fun w => parity_impl m' w (by omega)
            go_wp2_with fail
            refine (C1.out _).mono ?_
            rintro e w' ⟨rfl, rfl⟩
            go_wp2_with fail
            refine (C2.out _).mono ?_
            rintro e w' ⟨rfl, rfl⟩
            go_wp2_with fail
            refine (C3.out _).mono ?_
            rintro e w' ⟨rfl, rfl⟩
            go_wp2_with fail
            refine (C4.out _).mono ?_
            rintro e w' ⟨rfl, rfl⟩
            go_wp2
            go_ret
            exact ⟨rfl, HB.out⟩
          · have db : decide ((4611686018427387903 : Int) < (n' : Int)) = false := decide_eq_false hbig
            clear hxl
            have C1 := Lib.hid fun w => parity_impl n' w (by omega)
            have C2 := Lib.hid fun w => Parity_spec n' w (by omega)
            have C4 := Lib.hid fun w => parity_impl m' w (by omega)
            have C5 : Hid (∀ w, Calls Try.prog 32 #[.int .i64 (2 * (n' : Int))] w fun e w' => e = .returned (.int .i64 (par n')) ∧ w = w') := fun w => by
              have := parity_impl (2 * n') w (by omega)
              rw [par_two n' (by omega)] at this
              simpa using this
            have C6 : Hid (∀ w, Calls Try.prog 32 #[.int .i64 (2 * (n' : Int) + 1)] w fun e w' => e = .returned (.int .i64 (1 - (par n' : Nat))) ∧ w = w') := fun w => by
              have := parity_impl (2 * n' + 1) w (by omega)
              rw [par_two1 n' (by omega), show ((1 - par n' : Nat) : Int) = 1 - ((par n' : Nat) : Int) by omega] at this
              simpa using this
            go_wp2_with fail
            refine (C1.out _).mono ?_
            rintro e w' ⟨rfl, rfl⟩
            go_wp2_with fail
            refine (C2.out _).mono ?_
            rintro e w' ⟨rfl, rfl⟩
            go_wp2_with fail
            refine (C3.out _).mono ?_
            rintro e w' ⟨rfl, rfl⟩
            go_wp2_with fail
            refine (C4.out _).mono ?_
            rintro e w' ⟨rfl, rfl⟩
            go_wp2_with fail
            refine (C5.out _).mono ?_
            rintro e w' ⟨rfl, rfl⟩
            go_wp2_with fail
            refine (C6.out _).mono ?_
            rintro e w' ⟨rfl, rfl⟩
            go_wp2
            go_ret
            exact ⟨rfl, HB.out⟩
    · have d1 : decide ((1048576 : Int) < (len1 : Int)) = true := by simp; omega
      go_enter Try.func9, Try.ntmps9
      go_wp2
      go_ret
      exact ⟨rfl, Below.refl _ _⟩
  · have d0 : decide ((1048576 : Int) < (len0 : Int)) = true := by simp; omega
    go_enter Try.func9, Try.ntmps9
    go_wp2
    go_ret
    exact ⟨rfl, Below.refl _ _⟩
end Go.Proofs.Ytmlmbinpkmdjjaa
