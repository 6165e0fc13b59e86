/- The walk of the law that compares whether taps are maximal with the reference's. -/
import Derived.Test.YtmlmbinpkmdjjaaWMax
namespace Go.Proofs.Ytmlmbinpkmdjjaa
open Go.RowKit SS
set_option maxHeartbeats 1000000 in
theorem walk_FnExactIsMaximal_of (s t : Int) (v : Bool) (w : World)
    (C1 : Hid (∀ w, Calls Try.prog 24 #[.int .i64 s, .int .i64 t] w fun e w' => e = .returned (.bool v) ∧ Below w.heap.size w w'))
    (C2 : Hid (∀ w, Calls Try.prog 25 #[.int .i64 s, .int .i64 t] w fun e w' => e = .returned (.bool v) ∧ Below w.heap.size w w')) :
    Calls Try.prog 6 #[.int .i64 s, .int .i64 t] w fun e w' => e = .returned (.bool true) ∧ Below w.heap.size w w' := by
  cases v
  all_goals
    go_enter Try.func6, Try.ntmps6
    go_wp2_with fail
    refine (C1.out _).mono ?_
    rintro e w1 ⟨rfl, h1⟩
    go_wp2_with fail
    refine (C2.out _).mono ?_
    rintro e w2 ⟨rfl, h2⟩
    go_wp2
    go_ret
    exact ⟨rfl, next h1 h2 (Nat.le_refl _)⟩
theorem walk_FnExactIsMaximal (s t : Int) (w : World) (_ : (Lit.int .i64 s).wf = true) (_ : (Lit.int .i64 t).wf = true) :
    Calls Try.prog 6 #[.int .i64 s, .int .i64 t] w fun e w' => e = .returned (.bool true) ∧ Below w.heap.size w w' := by
  cases hv : tv s t with
  | false => exact walk_FnExactIsMaximal_of s t _ w (Lib.hid fun w => sismax_no s t w hv) (Lib.hid fun w => ismax_no s t w hv)
  | true =>
    obtain ⟨s', t', rfl, rfl, hr⟩ := tv_nat' hv
    exact walk_FnExactIsMaximal_of _ _ _ w (Lib.hid fun w => sismax_yes s' t' w hr) (Lib.hid fun w => ismax_yes s' t' w hr)
end Go.Proofs.Ytmlmbinpkmdjjaa
