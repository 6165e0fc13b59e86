/- The walks of the laws that compare functions of sequences with the reference's. -/
import Derived.Test.YtlmnipjlngdmhaaWMany
import Derived.Test.YtlmnipjlngdmhaaWRevb
import Derived.Test.YtlmnipjlngdmhaaLawG
namespace Go.Proofs.Ytlmnipjlngdmhaa
open Go.RowKit SS
set_option maxHeartbeats 1000000 in
theorem walk_FnExactInvertBits_of (a0 : ByteArray) (r0 : ByteArray) (r1 : Bool) (w : World)
    (C1 : Hid (a0.size ≤ 1048576 → ∀ w, Calls Try.prog 33 #[.string a0] w fun e w' => e = .returned (.tuple #[.string r0, .bool r1]) ∧ Below w.heap.size w w'))
    (C2 : Hid (a0.size ≤ 1048576 → ∀ w, Calls Try.prog 34 #[.string a0] w fun e w' => e = .returned (.tuple #[.string r0, .bool r1]) ∧ Below w.heap.size w w')) :
    Calls Try.prog 12 #[.string a0] w fun e w' => e = .returned (.bool true) ∧ Below w.heap.size w w' := by
  by_cases ha0 : a0.size ≤ 1048576
  · have da0 : decide ((1048576 : Int) < (a0.size : Int)) = false := by simp; omega
    have D1 := Lib.hid (C1.out ha0)
    have D2 := Lib.hid (C2.out ha0)
    go_enter Try.func12, Try.ntmps12
    go_wp2_with fail
    refine (D1.out _).mono ?_
    rintro e w1 ⟨rfl, h1⟩
    go_wp2_with fail
    refine (D2.out _).mono ?_
    rintro e w2 ⟨rfl, h2⟩
    go_wp2
    go_ret
    exact ⟨rfl, nextB h1 h2 h1.size⟩
  · have da0 : decide ((1048576 : Int) < (a0.size : Int)) = true := by simp; omega
    go_enter Try.func12, Try.ntmps12
    go_wp2
    go_ret
    exact ⟨rfl, Below.refl _ _⟩
theorem walk_FnExactInvertBits (s : ByteArray) (w : World) (hs : s.size ≤ maxLen) :
    Calls Try.prog 12 #[.string s] w fun e w' => e = .returned (.bool true) ∧ Below w.heap.size w w' := by
  cases hv : sv s.data.toList with
  | false => exact walk_FnExactInvertBits_of s _ _ w (Lib.hid fun _ w => sinv_no s w hs hv) (Lib.hid fun _ w => inv_impl_no s w hs hv)
  | true => exact walk_FnExactInvertBits_of s _ _ w (Lib.hid fun _ w => sinv_yes s w hv) (Lib.hid fun _ w => inv_impl s w hv)
set_option maxHeartbeats 1000000 in
theorem walk_FnExactReverseBits_of (a0 : ByteArray) (r0 : ByteArray) (r1 : Bool) (w : World)
    (C1 : Hid (a0.size ≤ 1048576 → ∀ w, Calls Try.prog 19 #[.string a0] w fun e w' => e = .returned (.tuple #[.string r0, .bool r1]) ∧ Below w.heap.size w w'))
    (C2 : Hid (a0.size ≤ 1048576 → ∀ w, Calls Try.prog 20 #[.string a0] w fun e w' => e = .returned (.tuple #[.string r0, .bool r1]) ∧ Below w.heap.size w w')) :
    Calls Try.prog 5 #[.string a0] w fun e w' => e = .returned (.bool true) ∧ Below w.heap.size w w' := by
  by_cases ha0 : a0.size ≤ 1048576
  · have da0 : decide ((1048576 : Int) < (a0.size : Int)) = false := by simp; omega
    have D1 := Lib.hid (C1.out ha0)
    have D2 := Lib.hid (C2.out ha0)
    go_enter Try.func5, Try.ntmps5
    go_wp2_with fail
    refine (D1.out _).mono ?_
    rintro e w1 ⟨rfl, h1⟩
    go_wp2_with fail
    refine (D2.out _).mono ?_
    rintro e w2 ⟨rfl, h2⟩
    go_wp2
    go_ret
    exact ⟨rfl, nextB h1 h2 h1.size⟩
  · have da0 : decide ((1048576 : Int) < (a0.size : Int)) = true := by simp; omega
    go_enter Try.func5, Try.ntmps5
    go_wp2
    go_ret
    exact ⟨rfl, Below.refl _ _⟩
theorem walk_FnExactReverseBits (s : ByteArray) (w : World) (hs : s.size ≤ maxLen) :
    Calls Try.prog 5 #[.string s] w fun e w' => e = .returned (.bool true) ∧ Below w.heap.size w w' := by
  cases hv : sv s.data.toList with
  | false => exact walk_FnExactReverseBits_of s _ _ w (Lib.hid fun hz w => srev_no s w hz hv) (Lib.hid fun _ w => rev_impl_no s w hs hv)
  | true => exact walk_FnExactReverseBits_of s _ _ w (Lib.hid fun _ w => srev_yes s w hv) (Lib.hid fun _ w => rev_impl s w hv)
set_option maxHeartbeats 1000000 in
theorem walk_FnExactShiftBetween_of (a0 : ByteArray) (a1 : ByteArray) (r0 : Int) (r1 : Bool) (w : World)
    (C1 : Hid (a0.size ≤ 1048576 → a1.size ≤ 1048576 → ∀ w, Calls Try.prog 31 #[.string a0, .string a1] w fun e w' => e = .returned (.tuple #[.int .i64 r0, .bool r1]) ∧ Below w.heap.size w w'))
    (C2 : Hid (a0.size ≤ 1048576 → a1.size ≤ 1048576 → ∀ w, Calls Try.prog 32 #[.string a0, .string a1] w fun e w' => e = .returned (.tuple #[.int .i64 r0, .bool r1]) ∧ Below w.heap.size w w')) :
    Calls Try.prog 11 #[.string a0, .string a1] w fun e w' => e = .returned (.bool true) ∧ Below w.heap.size w w' := by
  by_cases ha0 : a0.size ≤ 1048576
  · have da0 : decide ((1048576 : Int) < (a0.size : Int)) = false := by simp; omega
    by_cases ha1 : a1.size ≤ 1048576
    · have da1 : decide ((1048576 : Int) < (a1.size : Int)) = false := by simp; omega
      have D1 := Lib.hid (C1.out ha0 ha1)
      have D2 := Lib.hid (C2.out ha0 ha1)
      go_enter Try.func11, Try.ntmps11
      go_wp2_with fail
      refine (D1.out _).mono ?_
      rintro e w1 ⟨rfl, h1⟩
      go_wp2_with fail
      refine (D2.out _).mono ?_
      rintro e w2 ⟨rfl, h2⟩
      go_wp2
      go_ret
      exact ⟨rfl, nextB h1 h2 h1.size⟩
    · have da1 : decide ((1048576 : Int) < (a1.size : Int)) = true := by simp; omega
      go_enter Try.func11, Try.ntmps11
      go_wp2
      go_ret
      exact ⟨rfl, Below.refl _ _⟩
  · have da0 : decide ((1048576 : Int) < (a0.size : Int)) = true := by simp; omega
    go_enter Try.func11, Try.ntmps11
    go_wp2
    go_ret
    exact ⟨rfl, Below.refl _ _⟩
theorem walk_FnExactShiftBetween (a b : ByteArray) (w : World) (ha : a.size ≤ maxLen) (hb : b.size ≤ maxLen) :
    Calls Try.prog 11 #[.string a, .string b] w fun e w' => e = .returned (.bool true) ∧ Below w.heap.size w w' := by
  cases hv : pv a b with
  | false => exact walk_FnExactShiftBetween_of a b _ _ w (Lib.hid fun _ _ w => quiet_below (ssb_no a b w ha hb hv)) (Lib.hid fun _ _ w => quiet_below (sb_impl_no a b w ha hb hv))
  | true =>
    obtain ⟨K, v, r, h1, h2, h3⟩ := sb_ex a b
    exact walk_FnExactShiftBetween_of a b _ _ w (Lib.hid fun _ _ w => quiet_below (ssb_yes a b K v r w hv h1 h2 h3)) (Lib.hid fun _ _ w => quiet_below (sb_impl a b K v r w hv h1 h2 h3))
end Go.Proofs.Ytlmnipjlngdmhaa
