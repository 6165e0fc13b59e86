/- Quiet contracts inside regions that draw their order. -/
import Derived.Test.YtibnlaphkmnhfaaWShift
import Derived.Test.YtibnlaphkmnhfaaWNext
namespace Go.Proofs.Ytibnlaphkmnhfaa
open Go.RowKit SS
set_option maxRecDepth 100000
theorem quiet_ex {P : Program} {f : FuncId} {args : Array Value} {w : World} {n : Nat} {v : Value}
    (h : Calls P f args (w.drewN n) fun e w' => e = .returned v ∧ ∃ m, w' = (w.drewN n).drewN m) : Calls P f args (w.drewN n) fun e w'' => e = .returned v ∧ ∃ m, w'' = w.drewN m :=
  h.mono fun _ _ ⟨he, m, hm⟩ => ⟨he, n + m, by rw [hm, World.drewN_drewN]⟩
theorem quiet_exN {P : Program} {f : FuncId} {args : Array Value} {w : World} {m n : Nat} {v : Value}
    (h : Calls P f args ((w.drewN m).drewN n) fun e w' => e = .returned v ∧ ∃ k, w' = ((w.drewN m).drewN n).drewN k) : Calls P f args (w.drewN (m + n)) fun e w'' => e = .returned v ∧ ∃ k, w'' = w.drewN (m + k) := by
  rw [World.drewN_drewN] at h
  exact h.mono fun _ _ ⟨he, k, hm⟩ => ⟨he, n + k, by rw [hm, World.drewN_drewN, Nat.add_assoc]⟩
theorem ssShift_quiet (s : ByteArray) (k : Int) (w : World) (hs : sv s.data.toList = true) :
    Calls Try.prog 18 #[.string s, .int .i64 k] w fun e w' => e = .returned (.string (shf k s)) ∧ ∃ n, w' = w.drewN n := by
  have C := Lib.hid fun w => shift_impl s k w hs
  clear hs
  go_enter Try.func18, Try.ntmps18
  go_wp2_with fail
  refine (C.out _).mono ?_
  rintro e w1 ⟨rfl, n, rfl⟩
  go_wp2
  go_ret
  exact ⟨rfl, n, rfl⟩
end Go.Proofs.Ytibnlaphkmnhfaa
