/- Contracts of the functions that correlate a sequence with itself. -/
import Derived.Test.YtibnlaphkmnhfaaWPair
namespace Go.Proofs.Ytibnlaphkmnhfaa
open Go.RowKit SS
set_option maxRecDepth 100000
theorem pv_self (s : ByteArray) : pv s s = sv s.data.toList := by unfold pv; simp
theorem auto_impl (s : ByteArray) (k : Int) (w : World) (h : sv s.data.toList = true) :
    Calls Try.prog 54 #[.string s, .int .i64 k] w fun e w' => e = .returned (.tuple #[.int .i64 (cor s.data.toList s.data.toList (md k s.size)), .bool true]) ∧ ∃ n, w' = w.drewN n := by
  have C := Lib.hid fun w => cross_impl s s k w (by rw [pv_self]; exact h)
  clear h
  go_enter Try.func54, Try.ntmps54
  go_wp2_with fail
  refine (C.out _).mono ?_
  rintro e w1 ⟨rfl, n, rfl⟩
  go_wp2
  go_ret2
  exact ⟨rfl, n, rfl⟩
theorem auto_impl_no (s : ByteArray) (k : Int) (w : World) (hs : s.size ≤ maxLen) (h : sv s.data.toList = false) :
    Calls Try.prog 54 #[.string s, .int .i64 k] w fun e w' => e = .returned (.tuple #[.int .i64 0, .bool false]) ∧ ∃ n, w' = w.drewN n := by
  have C := Lib.hid fun w => cross_impl_no s s k w hs hs (by rw [pv_self]; exact h)
  clear h
  go_enter Try.func54, Try.ntmps54
  go_wp2_with fail
  refine (C.out _).mono ?_
  rintro e w1 ⟨rfl, n, rfl⟩
  go_wp2
  go_ret2
  exact ⟨rfl, n, rfl⟩
end Go.Proofs.Ytibnlaphkmnhfaa
