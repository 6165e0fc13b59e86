/- The walks of the laws that compare functions of sequences with the reference's. -/
import Derived.Test.YtlmnipjlngdmhaaWPair
import Derived.Test.YtlmnipjlngdmhaaLawG
namespace Go.Proofs.Ytlmnipjlngdmhaa
open Go.RowKit SS
set_option maxHeartbeats 1000000 in
theorem walk_FnExactBalanceOf_of (a0 : ByteArray) (r0 : Int) (r1 : Bool) (w : World)
    (C1 : Hid (a0.size ≤ 1048576 → ∀ w, Calls Try.prog 27 #[.string a0] w fun e w' => e = .returned (.tuple #[.int .i64 r0, .bool r1]) ∧ Below w.heap.size w w'))
    (C2 : Hid (a0.size ≤ 1048576 → ∀ w, Calls Try.prog 28 #[.string a0] w fun e w' => e = .returned (.tuple #[.int .i64 r0, .bool r1]) ∧ Below w.heap.size w w')) :
    Calls Try.prog 9 #[.string a0] w fun e w' => e = .returned (.bool true) ∧ Below w.heap.size w w' := by
  by_cases ha0 : a0.size ≤ 1048576
  · have da0 : decide ((1048576 : Int) < (a0.size : Int)) = false := by simp; omega
    have D1 := Lib.hid (C1.out ha0)
    have D2 := Lib.hid (C2.out ha0)
    go_enter Try.func9, Try.ntmps9
    go_wp2_with fail
    refine (D1.out _).mono ?_
    rintro e w1 ⟨rfl, h1⟩
    go_wp2_with fail
    refine (D2.out _).mono ?_
    rintro e w2 ⟨rfl, h2⟩
    go_wp2
    go_ret
    exact ⟨rfl, nextB h1 h2 h1.size⟩
  · have da0 : decide ((1048576 : Int) < (a0.size : Int)) = true := by simp; omega
    go_enter Try.func9, Try.ntmps9
    go_wp2
    go_ret
    exact ⟨rfl, Below.refl _ _⟩
theorem walk_FnExactBalanceOf (s : ByteArray) (w : World) (hs : s.size ≤ maxLen) :
    Calls Try.prog 9 #[.string s] w fun e w' => e = .returned (.bool true) ∧ Below w.heap.size w w' := by
  cases hv : sv s.data.toList with
  | false => exact walk_FnExactBalanceOf_of s _ _ w (Lib.hid fun _ w => same_below (sbal_no s w hs hv)) (Lib.hid fun _ w => same_below (bal_impl_no s w hs hv))
  | true => exact walk_FnExactBalanceOf_of s _ _ w (Lib.hid fun _ w => same_below (sbal_yes s w hv)) (Lib.hid fun _ w => same_below (bal_impl s w hv))
set_option maxHeartbeats 1000000 in
theorem walk_FnExactDecimateBits_of (a0 : ByteArray) (a1 : Int) (r0 : ByteArray) (r1 : Bool) (w : World)
    (C1 : Hid (a0.size ≤ 1048576 → ∀ w, Calls Try.prog 17 #[.string a0, .int .i64 a1] w fun e w' => e = .returned (.tuple #[.string r0, .bool r1]) ∧ Below w.heap.size w w'))
    (C2 : Hid (a0.size ≤ 1048576 → ∀ w, Calls Try.prog 18 #[.string a0, .int .i64 a1] w fun e w' => e = .returned (.tuple #[.string r0, .bool r1]) ∧ Below w.heap.size w w')) :
    Calls Try.prog 4 #[.string a0, .int .i64 a1] w fun e w' => e = .returned (.bool true) ∧ Below w.heap.size w w' := by
  by_cases ha0 : a0.size ≤ 1048576
  · have da0 : decide ((1048576 : Int) < (a0.size : Int)) = false := by simp; omega
    have D1 := Lib.hid (C1.out ha0)
    have D2 := Lib.hid (C2.out ha0)
    go_enter Try.func4, Try.ntmps4
    go_wp2_with fail
    refine (D1.out _).mono ?_
    rintro e w1 ⟨rfl, h1⟩
    go_wp2_with fail
    refine (D2.out _).mono ?_
    rintro e w2 ⟨rfl, h2⟩
    go_wp2
    go_ret
    exact ⟨rfl, nextB h1 h2 h1.size⟩
  · have da0 : decide ((1048576 : Int) < (a0.size : Int)) = true := by simp; omega
    go_enter Try.func4, Try.ntmps4
    go_wp2
    go_ret
    exact ⟨rfl, Below.refl _ _⟩
theorem walk_FnExactDecimateBits (s : ByteArray) (k : Int) (w : World) (hs : s.size ≤ maxLen) (_ : (Lit.int .i64 k).wf = true) :
    Calls Try.prog 4 #[.string s, .int .i64 k] w fun e w' => e = .returned (.bool true) ∧ Below w.heap.size w w' := by
  by_cases hk : sv s.data.toList = false ∨ k < 0 ∨ 255 < k
  · exact walk_FnExactDecimateBits_of s k _ _ w (Lib.hid fun hz w => sdec_no s k w hz hk) (Lib.hid fun _ w => dec_impl_no s k w hs hk)
  · have hv : sv s.data.toList = true := by
      cases h : sv s.data.toList with
      | true => rfl
      | false => exact absurd (Or.inl h) hk
    obtain ⟨K, rfl⟩ := Int.eq_ofNat_of_zero_le (show 0 ≤ k by omega)
    exact walk_FnExactDecimateBits_of s _ _ _ w (Lib.hid fun _ w => sdec_yes s K w hv (by omega)) (Lib.hid fun _ w => dec_impl s K w hv (by omega))
set_option maxHeartbeats 1000000 in
theorem walk_FnExactAperiodicOf_of (a0 : ByteArray) (a1 : Int) (r0 : Int) (r1 : Bool) (w : World)
    (C1 : Hid (a0.size ≤ 1048576 → ∀ w, Calls Try.prog 29 #[.string a0, .int .i64 a1] w fun e w' => e = .returned (.tuple #[.int .i64 r0, .bool r1]) ∧ Below w.heap.size w w'))
    (C2 : Hid (a0.size ≤ 1048576 → ∀ w, Calls Try.prog 30 #[.string a0, .int .i64 a1] w fun e w' => e = .returned (.tuple #[.int .i64 r0, .bool r1]) ∧ Below w.heap.size w w')) :
    Calls Try.prog 10 #[.string a0, .int .i64 a1] w fun e w' => e = .returned (.bool true) ∧ Below w.heap.size w w' := by
  by_cases ha0 : a0.size ≤ 1048576
  · have da0 : decide ((1048576 : Int) < (a0.size : Int)) = false := by simp; omega
    have D1 := Lib.hid (C1.out ha0)
    have D2 := Lib.hid (C2.out ha0)
    go_enter Try.func10, Try.ntmps10
    go_wp2_with fail
    refine (D1.out _).mono ?_
    rintro e w1 ⟨rfl, h1⟩
    go_wp2_with fail
    refine (D2.out _).mono ?_
    rintro e w2 ⟨rfl, h2⟩
    go_wp2
    go_ret
    exact ⟨rfl, nextB h1 h2 h1.size⟩
  · have da0 : decide ((1048576 : Int) < (a0.size : Int)) = true := by simp; omega
    go_enter Try.func10, Try.ntmps10
    go_wp2
    go_ret
    exact ⟨rfl, Below.refl _ _⟩
theorem walk_FnExactAperiodicOf (s : ByteArray) (k : Int) (w : World) (hs : s.size ≤ maxLen) (_ : (Lit.int .i64 k).wf = true) :
    Calls Try.prog 10 #[.string s, .int .i64 k] w fun e w' => e = .returned (.bool true) ∧ Below w.heap.size w w' := by
  by_cases hk : sv s.data.toList = false ∨ k < 0 ∨ (s.size : Int) ≤ k
  · exact walk_FnExactAperiodicOf_of s k _ _ w (Lib.hid fun _ w => quiet_below (sapr_no s k w hs hk)) (Lib.hid fun _ w => quiet_below (apr_impl_no s k w hs hk))
  · have hv : sv s.data.toList = true := by
      cases h : sv s.data.toList with
      | true => rfl
      | false => exact absurd (Or.inl h) hk
    obtain ⟨K, rfl⟩ := Int.eq_ofNat_of_zero_le (show 0 ≤ k by omega)
    exact walk_FnExactAperiodicOf_of s _ _ _ w (Lib.hid fun _ w => quiet_below (sapr_yes s K w hv (by omega))) (Lib.hid fun _ w => quiet_below (apr_impl s K w hv (by omega)))
set_option maxHeartbeats 1000000 in
theorem walk_FnExactAddBits_of (a0 : ByteArray) (a1 : ByteArray) (r0 : ByteArray) (r1 : Bool) (w : World)
    (C1 : Hid (a0.size ≤ 1048576 → a1.size ≤ 1048576 → ∀ w, Calls Try.prog 35 #[.string a0, .string a1] w fun e w' => e = .returned (.tuple #[.string r0, .bool r1]) ∧ Below w.heap.size w w'))
    (C2 : Hid (a0.size ≤ 1048576 → a1.size ≤ 1048576 → ∀ w, Calls Try.prog 36 #[.string a0, .string a1] w fun e w' => e = .returned (.tuple #[.string r0, .bool r1]) ∧ Below w.heap.size w w')) :
    Calls Try.prog 13 #[.string a0, .string a1] w fun e w' => e = .returned (.bool true) ∧ Below w.heap.size w w' := by
  by_cases ha0 : a0.size ≤ 1048576
  · have da0 : decide ((1048576 : Int) < (a0.size : Int)) = false := by simp; omega
    by_cases ha1 : a1.size ≤ 1048576
    · have da1 : decide ((1048576 : Int) < (a1.size : Int)) = false := by simp; omega
      have D1 := Lib.hid (C1.out ha0 ha1)
      have D2 := Lib.hid (C2.out ha0 ha1)
      go_enter Try.func13, Try.ntmps13
      go_wp2_with fail
      refine (D1.out _).mono ?_
      rintro e w1 ⟨rfl, h1⟩
      go_wp2_with fail
      refine (D2.out _).mono ?_
      rintro e w2 ⟨rfl, h2⟩
      go_wp2
      go_ret
      exact ⟨rfl, nextB h1 h2 h1.size⟩
    · have da1 : decide ((1048576 : Int) < (a1.size : Int)) = true := by simp; omega
      go_enter Try.func13, Try.ntmps13
      go_wp2
      go_ret
      exact ⟨rfl, Below.refl _ _⟩
  · have da0 : decide ((1048576 : Int) < (a0.size : Int)) = true := by simp; omega
    go_enter Try.func13, Try.ntmps13
    go_wp2
    go_ret
    exact ⟨rfl, Below.refl _ _⟩
theorem walk_FnExactAddBits (a b : ByteArray) (w : World) (ha : a.size ≤ maxLen) (hb : b.size ≤ maxLen) :
    Calls Try.prog 13 #[.string a, .string b] w fun e w' => e = .returned (.bool true) ∧ Below w.heap.size w w' := by
  cases hv : pv a b with
  | false => exact walk_FnExactAddBits_of a b _ _ w (Lib.hid fun _ _ w => saddb_no a b w ha hb hv) (Lib.hid fun _ _ w => addb_impl_no a b w ha hb hv)
  | true => exact walk_FnExactAddBits_of a b _ _ w (Lib.hid fun _ _ w => saddb_yes a b w hv) (Lib.hid fun _ _ w => addb_impl a b w hv)
set_option maxHeartbeats 1000000 in
theorem walk_FnExactCrossOf_of (a0 : ByteArray) (a1 : ByteArray) (a2 : Int) (r0 : Int) (r1 : Bool) (w : World)
    (C1 : Hid (a0.size ≤ 1048576 → a1.size ≤ 1048576 → ∀ w, Calls Try.prog 37 #[.string a0, .string a1, .int .i64 a2] w fun e w' => e = .returned (.tuple #[.int .i64 r0, .bool r1]) ∧ Below w.heap.size w w'))
    (C2 : Hid (a0.size ≤ 1048576 → a1.size ≤ 1048576 → ∀ w, Calls Try.prog 38 #[.string a0, .string a1, .int .i64 a2] w fun e w' => e = .returned (.tuple #[.int .i64 r0, .bool r1]) ∧ Below w.heap.size w w')) :
    Calls Try.prog 14 #[.string a0, .string a1, .int .i64 a2] w fun e w' => e = .returned (.bool true) ∧ Below w.heap.size w w' := by
  by_cases ha0 : a0.size ≤ 1048576
  · have da0 : decide ((1048576 : Int) < (a0.size : Int)) = false := by simp; omega
    by_cases ha1 : a1.size ≤ 1048576
    · have da1 : decide ((1048576 : Int) < (a1.size : Int)) = false := by simp; omega
      have D1 := Lib.hid (C1.out ha0 ha1)
      have D2 := Lib.hid (C2.out ha0 ha1)
      go_enter Try.func14, Try.ntmps14
      go_wp2_with fail
      refine (D1.out _).mono ?_
      rintro e w1 ⟨rfl, h1⟩
      go_wp2_with fail
      refine (D2.out _).mono ?_
      rintro e w2 ⟨rfl, h2⟩
      go_wp2
      go_ret
      exact ⟨rfl, nextB h1 h2 h1.size⟩
    · have da1 : decide ((1048576 : Int) < (a1.size : Int)) = true := by simp; omega
      go_enter Try.func14, Try.ntmps14
      go_wp2
      go_ret
      exact ⟨rfl, Below.refl _ _⟩
  · have da0 : decide ((1048576 : Int) < (a0.size : Int)) = true := by simp; omega
    go_enter Try.func14, Try.ntmps14
    go_wp2
    go_ret
    exact ⟨rfl, Below.refl _ _⟩
theorem walk_FnExactCrossOf (a b : ByteArray) (k : Int) (w : World) (ha : a.size ≤ maxLen) (hb : b.size ≤ maxLen) (_ : (Lit.int .i64 k).wf = true) :
    Calls Try.prog 14 #[.string a, .string b, .int .i64 k] w fun e w' => e = .returned (.bool true) ∧ Below w.heap.size w w' := by
  cases hv : pv a b with
  | false => exact walk_FnExactCrossOf_of a b k _ _ w (Lib.hid fun _ _ w => scross_no a b k w ha hb hv) (Lib.hid fun _ _ w => quiet_below (cross_impl_no a b k w ha hb hv))
  | true => exact walk_FnExactCrossOf_of a b k _ _ w (Lib.hid fun _ _ w => scross_yes a b k w hv) (Lib.hid fun _ _ w => quiet_below (cross_impl a b k w hv))
end Go.Proofs.Ytlmnipjlngdmhaa
