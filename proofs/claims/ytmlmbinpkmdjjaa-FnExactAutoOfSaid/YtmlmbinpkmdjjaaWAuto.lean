/- Contracts of the functions that correlate a sequence with itself. -/
import Derived.Test.YtmlmbinpkmdjjaaWPair
namespace Go.Proofs.Ytmlmbinpkmdjjaa
open Go.RowKit SS
theorem pv_self (s : ByteArray) : pv s s = sv s.data.toList := by unfold pv; simp
theorem auto_impl (s : ByteArray) (k : Int) (w : World) (h : sv s.data.toList = true) :
    Calls Try.prog 16 #[.string s, .int .i64 k] w fun e w' => e = .returned (.tuple #[.int .i64 (cor s.data.toList s.data.toList (md k s.size)), .bool true]) ∧ ∃ n, w' = w.drewN n := by
  have C := Lib.hid fun w => cross_impl s s k w (by rw [pv_self]; exact h)
  clear h
  go_enter Try.func16, Try.ntmps16
  go_wp2_with fail
  refine (C.out _).mono ?_
  rintro e w1 ⟨rfl, n, rfl⟩
  go_wp2
  go_ret2
  exact ⟨rfl, n, rfl⟩
theorem auto_impl_no (s : ByteArray) (k : Int) (w : World) (hs : s.size ≤ maxLen) (h : sv s.data.toList = false) :
    Calls Try.prog 16 #[.string s, .int .i64 k] w fun e w' => e = .returned (.tuple #[.int .i64 0, .bool false]) ∧ ∃ n, w' = w.drewN n := by
  have C := Lib.hid fun w => cross_impl_no s s k w hs hs (by rw [pv_self]; exact h)
  clear h
  go_enter Try.func16, Try.ntmps16
  go_wp2_with fail
  refine (C.out _).mono ?_
  rintro e w1 ⟨rfl, n, rfl⟩
  go_wp2
  go_ret2
  exact ⟨rfl, n, rfl⟩
theorem sauto_yes (s : ByteArray) (k : Int) (w : World) (h : sv s.data.toList = true) :
    Calls Try.prog 15 #[.string s, .int .i64 k] w fun e w' => e = .returned (.tuple #[.int .i64 (cor s.data.toList s.data.toList (md k s.size)), .bool true]) ∧ Below w.heap.size w w' := by
  have C := Lib.hid fun w => scross_yes s s k w (by rw [pv_self]; exact h)
  clear h
  go_enter Try.func15, Try.ntmps15
  go_wp2_with fail
  refine (C.out _).mono ?_
  rintro e w1 ⟨rfl, hb⟩
  go_wp2
  go_ret2
  exact ⟨rfl, hb⟩
theorem sauto_no (s : ByteArray) (k : Int) (w : World) (hs : s.size ≤ maxLen) (h : sv s.data.toList = false) :
    Calls Try.prog 15 #[.string s, .int .i64 k] w fun e w' => e = .returned (.tuple #[.int .i64 0, .bool false]) ∧ Below w.heap.size w w' := by
  have C := Lib.hid fun w => scross_no s s k w hs hs (by rw [pv_self]; exact h)
  clear h
  go_enter Try.func15, Try.ntmps15
  go_wp2_with fail
  refine (C.out _).mono ?_
  rintro e w1 ⟨rfl, hb⟩
  go_wp2
  go_ret2
  exact ⟨rfl, hb⟩
end Go.Proofs.Ytmlmbinpkmdjjaa
