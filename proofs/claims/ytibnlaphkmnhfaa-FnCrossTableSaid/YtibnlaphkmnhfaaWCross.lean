/- The contract of the law's own function that correlates. -/
import Derived.Test.YtibnlaphkmnhfaaWPair
import Derived.Test.YtibnlaphkmnhfaaWShift
namespace Go.Proofs.Ytibnlaphkmnhfaa
open Go.RowKit SS
set_option maxRecDepth 100000
theorem ssCross_yes (a b : ByteArray) (k : Int) (w : World) (h : pv a b = true) :
    Calls Try.prog 24 #[.string a, .string b, .int .i64 k] w fun e w' => e = .returned (.int .i64 (cor a.data.toList b.data.toList (md k b.size))) ∧ Below w.heap.size w w' := by
  have C := Lib.hid fun w => quiet_below (cross_impl a b k w h)
  clear h
  go_enter Try.func24, Try.ntmps24
  go_wp2_with fail
  refine (C.out _).mono ?_
  rintro e w1 ⟨rfl, hb⟩
  go_wp2
  go_ret
  exact ⟨rfl, hb⟩
theorem ssCross_quiet (a b : ByteArray) (k : Int) (w : World) (h : pv a b = true) :
    Calls Try.prog 24 #[.string a, .string b, .int .i64 k] w fun e w' => e = .returned (.int .i64 (cor a.data.toList b.data.toList (md k b.size))) ∧ ∃ n, w' = w.drewN n := by
  have C := Lib.hid fun w => cross_impl a b k w h
  clear h
  go_enter Try.func24, Try.ntmps24
  go_wp2_with fail
  refine (C.out _).mono ?_
  rintro e w1 ⟨rfl, n, rfl⟩
  go_wp2
  go_ret
  exact ⟨rfl, n, rfl⟩
end Go.Proofs.Ytibnlaphkmnhfaa
