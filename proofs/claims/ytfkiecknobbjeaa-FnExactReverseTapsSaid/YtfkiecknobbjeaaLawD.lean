/- The walk of the law that compares reversed taps with the reference's. -/
import Derived.Test.YtfkiecknobbjeaaWRev
import Derived.OpenShut
namespace Go.Proofs.Ytfkiecknobbjeaa
open Go.RowKit SS
theorem walk_FnExactReverseTaps (z t : Int) (w : World) (_ : (Lit.int .i64 z).wf = true) (_ : (Lit.int .i64 t).wf = true) :
    Calls Try.prog 6 #[.int .i64 z, .int .i64 t] w fun e w' => e = .returned (.bool true) ∧ Below w.heap.size w w' := by
  cases hr : (tv z t && decide (t % 2 = 1)) with
  | false =>
    go_enter Try.func6, Try.ntmps6
    go_wp2_with fail
    refine (srev_no z t _ hr).mono ?_
    rintro e w1 ⟨rfl, rfl⟩
    go_wp2_with fail
    refine (rev_no z t _ hr).mono ?_
    rintro e w1 ⟨rfl, rfl⟩
    go_wp2
    go_ret
    exact ⟨rfl, Below.refl _ _⟩
  | true =>
    rw [Bool.and_eq_true, decide_eq_true_eq] at hr
    obtain ⟨g1, g2, g3, _⟩ := tv_yes hr.1
    obtain ⟨z', rfl⟩ := Int.eq_ofNat_of_zero_le (show 0 ≤ z by omega)
    obtain ⟨t', rfl⟩ := Int.eq_ofNat_of_zero_le (show 0 ≤ t by omega)
    have C1 := Lib.hid fun w => srev z' t' w hr.1 (by omega)
    have C2 := Lib.hid fun w => rev_impl z' t' w hr.1 (by omega)
    clear hr g1 g2 g3
    go_enter Try.func6, Try.ntmps6
    go_wp2_with fail
    refine (C1.out _).mono ?_
    rintro e w1 ⟨rfl, n, rfl⟩
    go_wp2_with fail
    refine (C2.out _).mono ?_
    rintro e w1 ⟨rfl, rfl⟩
    go_wp2
    go_ret
    exact ⟨rfl, below_drewN (Below.refl _ _) _⟩
end Go.Proofs.Ytfkiecknobbjeaa
