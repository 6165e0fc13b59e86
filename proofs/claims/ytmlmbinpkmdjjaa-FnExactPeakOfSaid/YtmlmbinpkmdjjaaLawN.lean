/- The walk of the law that compares the shift with the greatest correlation with the reference's. -/
import Derived.Test.YtmlmbinpkmdjjaaWPeak
import Derived.Test.YtmlmbinpkmdjjaaLawG
namespace Go.Proofs.Ytmlmbinpkmdjjaa
open Go.RowKit SS
set_option maxHeartbeats 1000000 in
theorem walk_FnExactPeakOf_of (a0 : ByteArray) (a1 : ByteArray) (r0 : Int) (w : World)
    (C1 : Hid (a0.size ≤ 1048576 → a1.size ≤ 1048576 → ∀ w, Calls Try.prog 17 #[.string a0, .string a1] w fun e w' => e = .returned (.int .i64 r0) ∧ Below w.heap.size w w'))
    (C2 : Hid (a0.size ≤ 1048576 → a1.size ≤ 1048576 → ∀ w, Calls Try.prog 18 #[.string a0, .string a1] w fun e w' => e = .returned (.int .i64 r0) ∧ Below w.heap.size w w')) :
    Calls Try.prog 4 #[.string a0, .string a1] w fun e w' => e = .returned (.bool true) ∧ Below w.heap.size w w' := by
  by_cases ha0 : a0.size ≤ 1048576
  · have da0 : decide ((1048576 : Int) < (a0.size : Int)) = false := by simp; omega
    by_cases ha1 : a1.size ≤ 1048576
    · have da1 : decide ((1048576 : Int) < (a1.size : Int)) = false := by simp; omega
      have D1 := Lib.hid (C1.out ha0 ha1)
      have D2 := Lib.hid (C2.out ha0 ha1)
      go_enter Try.func4, Try.ntmps4
      go_wp2_with fail
      refine (D1.out _).mono ?_
      rintro e w1 ⟨rfl, h1⟩
      go_wp2_with fail
      refine (D2.out _).mono ?_
      rintro e w2 ⟨rfl, h2⟩
      go_wp2
      go_ret
      exact ⟨rfl, nextB h1 h2 h1.size⟩
    · have da1 : decide ((1048576 : Int) < (a1.size : Int)) = true := by simp; omega
      go_enter Try.func4, Try.ntmps4
      go_wp2
      go_ret
      exact ⟨rfl, Below.refl _ _⟩
  · have da0 : decide ((1048576 : Int) < (a0.size : Int)) = true := by simp; omega
    go_enter Try.func4, Try.ntmps4
    go_wp2
    go_ret
    exact ⟨rfl, Below.refl _ _⟩
theorem walk_FnExactPeakOf (a b : ByteArray) (w : World) (ha : a.size ≤ maxLen) (hb : b.size ≤ maxLen) :
    Calls Try.prog 4 #[.string a, .string b] w fun e w' => e = .returned (.bool true) ∧ Below w.heap.size w w' := by
  cases hv : pv a b with
  | false => exact walk_FnExactPeakOf_of a b _ w (Lib.hid fun _ _ w => peak_spec_no a b w ha hb hv) (Lib.hid fun _ _ w => peak_impl_no a b w ha hb hv)
  | true => exact walk_FnExactPeakOf_of a b _ w (Lib.hid fun _ _ w => peak_spec a b w hv) (Lib.hid fun _ _ w => peak_impl a b w hv)
end Go.Proofs.Ytmlmbinpkmdjjaa
