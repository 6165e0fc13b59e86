/- The walk of the law that compares the correlation of a sequence with itself with the reference's. -/
import Derived.Test.YtmlmbinpkmdjjaaWAuto
import Derived.Test.YtmlmbinpkmdjjaaLawG
namespace Go.Proofs.Ytmlmbinpkmdjjaa
open Go.RowKit SS
set_option maxHeartbeats 1000000 in
theorem walk_FnExactAutoOf_of (a0 : ByteArray) (a1 : Int) (r0 : Int) (r1 : Bool) (w : World)
    (C1 : Hid (a0.size ≤ 1048576 → ∀ w, Calls Try.prog 15 #[.string a0, .int .i64 a1] w fun e w' => e = .returned (.tuple #[.int .i64 r0, .bool r1]) ∧ Below w.heap.size w w'))
    (C2 : Hid (a0.size ≤ 1048576 → ∀ w, Calls Try.prog 16 #[.string a0, .int .i64 a1] w fun e w' => e = .returned (.tuple #[.int .i64 r0, .bool r1]) ∧ Below w.heap.size w w')) :
    Calls Try.prog 3 #[.string a0, .int .i64 a1] w fun e w' => e = .returned (.bool true) ∧ Below w.heap.size w w' := by
  by_cases ha0 : a0.size ≤ 1048576
  · have da0 : decide ((1048576 : Int) < (a0.size : Int)) = false := by simp; omega
    have D1 := Lib.hid (C1.out ha0)
    have D2 := Lib.hid (C2.out ha0)
    go_enter Try.func3, Try.ntmps3
    go_wp2_with fail
    refine (D1.out _).mono ?_
    rintro e w1 ⟨rfl, h1⟩
    go_wp2_with fail
    refine (D2.out _).mono ?_
    rintro e w2 ⟨rfl, h2⟩
    go_wp2
    go_ret
    exact ⟨rfl, nextB h1 h2 h1.size⟩
  · have da0 : decide ((1048576 : Int) < (a0.size : Int)) = true := by simp; omega
    go_enter Try.func3, Try.ntmps3
    go_wp2
    go_ret
    exact ⟨rfl, Below.refl _ _⟩
theorem walk_FnExactAutoOf (s : ByteArray) (k : Int) (w : World) (hs : s.size ≤ maxLen) (_ : (Lit.int .i64 k).wf = true) :
    Calls Try.prog 3 #[.string s, .int .i64 k] w fun e w' => e = .returned (.bool true) ∧ Below w.heap.size w w' := by
  cases hv : sv s.data.toList with
  | false => exact walk_FnExactAutoOf_of s k _ _ w (Lib.hid fun _ w => sauto_no s k w hs hv) (Lib.hid fun _ w => quiet_below (auto_impl_no s k w hs hv))
  | true => exact walk_FnExactAutoOf_of s k _ _ w (Lib.hid fun _ w => sauto_yes s k w hv) (Lib.hid fun _ w => quiet_below (auto_impl s k w hv))
end Go.Proofs.Ytmlmbinpkmdjjaa
