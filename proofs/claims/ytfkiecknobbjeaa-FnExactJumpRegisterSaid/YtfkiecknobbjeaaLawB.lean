/- The walks of the laws that compare steps of registers with the reference's. -/
import Derived.Test.YtfkiecknobbjeaaWStep
import Derived.Test.YtfkiecknobbjeaaWLaw
namespace Go.Proofs.Ytfkiecknobbjeaa
open Go.RowKit SS
set_option maxHeartbeats 1000000 in
theorem walk_FnExactStepRegister_of (s t x a b c : Int) (v : Bool) (w : World)
    (hS : Hid (∀ w, Calls Try.prog 29 #[.agg #[.int .i64 s, .int .i64 t, .int .i64 x]] w fun e w' => e = .returned (.tuple #[.agg #[.int .i64 a, .int .i64 b, .int .i64 c], .bool v]) ∧ Below w.heap.size w w'))
    (hI : Hid (∀ w, Calls Try.prog 30 #[.agg #[.int .i64 s, .int .i64 t, .int .i64 x]] w fun e w' => e = .returned (.tuple #[.agg #[.int .i64 a, .int .i64 b, .int .i64 c], .bool v]) ∧ Below w.heap.size w w')) :
    Calls Try.prog 10 #[.agg #[.int .i64 s, .int .i64 t, .int .i64 x]] w fun e w' => e = .returned (.bool true) ∧ Below w.heap.size w w' := by
  go_enter Try.func10, Try.ntmps10
  go_wp2_with fail
  refine (toReg _ _ _ _).mono ?_
  rintro e w1 ⟨rfl, hb1⟩
  go_wp2_with fail
  refine (hS.out _).mono ?_
  rintro e w2 ⟨rfl, hb2⟩
  have hb := next hb1 hb2
  have b1 := (B3.new w 24 (.int .i64 s) (.int .i64 t) (.int .i64 x)).below hb (by simp)
  have hw2 := shutBox hb
  clear hb1 hb2 hb
  have b1 := b1.alloc (.cells #[.int .i64 a, .int .i64 b, .int .i64 c] 26)
  have b2 := B3.new w2 26 (.int .i64 a) (.int .i64 b) (.int .i64 c)
  have hw3 := hw2.alloc hw2.size (.cells #[.int .i64 a, .int .i64 b, .int .i64 c] 26)
  obtain ⟨c0, c1, c2, _, _, _, hz⟩ := b1.facts
  go_wp2_with fail
  refine (toReg _ _ _ _).mono ?_
  rintro e w3 ⟨rfl, hb3⟩
  go_wp2_with fail
  refine (hI.out _).mono ?_
  rintro e w4 ⟨rfl, hb4⟩
  have hb := next hb3 hb4 (Nat.le_refl _)
  have hw4 := next hw3 hb (Nat.le_refl _)
  have b2 := b2.below hb (by simp)
  clear hb3 hb4 hb c0 c1 c2 hz b1 hw3
  have b3 := B3.new w4 26 (.int .i64 a) (.int .i64 b) (.int .i64 c)
  have b2 := b2.alloc (.cells #[.int .i64 a, .int .i64 b, .int .i64 c] 26)
  have hw5 := hw4.alloc hw4.size (.cells #[.int .i64 a, .int .i64 b, .int .i64 c] 26)
  obtain ⟨c0, c1, c2, _, _, _, hz⟩ := b2.facts
  obtain ⟨c3, c4, c5, _, _, _, hz3⟩ := b3.facts
  go_wp2_with fail
  refine (eqReg_same _ _ _ _).mono ?_
  rintro e w6 ⟨rfl, hb6⟩
  have hw6 := next hw5 hb6 (Nat.le_refl _)
  clear c0 c1 c2 c3 c4 c5 hz hz3 hb6 hw5
  go_wp2
  go_ret
  exact ⟨rfl, hw6⟩
theorem walk_FnExactStepRegister (s t x : Int) (w : World) (_ : (Lit.int .i64 s).wf = true) (_ : (Lit.int .i64 t).wf = true) (_ : (Lit.int .i64 x).wf = true) :
    Calls Try.prog 10 #[.agg #[.int .i64 s, .int .i64 t, .int .i64 x]] w fun e w' => e = .returned (.bool true) ∧ Below w.heap.size w w' := by
  cases hr : rv s t x with
  | false => exact walk_FnExactStepRegister_of s t x _ _ _ _ w (Lib.hid fun w => sstep_no s t x w hr) (Lib.hid fun w => step_no s t x w hr)
  | true =>
    obtain ⟨s', t', x', rfl, rfl, rfl, hv⟩ := rv_nat hr
    exact walk_FnExactStepRegister_of _ _ _ _ _ _ _ w (Lib.hid fun w => sstep_yes s' t' x' w hv) (Lib.hid fun w => step_yes s' t' x' w hv)
set_option maxHeartbeats 1000000 in
theorem walk_FnExactBackRegister_of (s t x a b c : Int) (v : Bool) (w : World)
    (hS : Hid (∀ w, Calls Try.prog 31 #[.agg #[.int .i64 s, .int .i64 t, .int .i64 x]] w fun e w' => e = .returned (.tuple #[.agg #[.int .i64 a, .int .i64 b, .int .i64 c], .bool v]) ∧ Below w.heap.size w w'))
    (hI : Hid (∀ w, Calls Try.prog 32 #[.agg #[.int .i64 s, .int .i64 t, .int .i64 x]] w fun e w' => e = .returned (.tuple #[.agg #[.int .i64 a, .int .i64 b, .int .i64 c], .bool v]) ∧ Below w.heap.size w w')) :
    Calls Try.prog 11 #[.agg #[.int .i64 s, .int .i64 t, .int .i64 x]] w fun e w' => e = .returned (.bool true) ∧ Below w.heap.size w w' := by
  go_enter Try.func11, Try.ntmps11
  go_wp2_with fail
  refine (toReg _ _ _ _).mono ?_
  rintro e w1 ⟨rfl, hb1⟩
  go_wp2_with fail
  refine (hS.out _).mono ?_
  rintro e w2 ⟨rfl, hb2⟩
  have hb := next hb1 hb2
  have b1 := (B3.new w 24 (.int .i64 s) (.int .i64 t) (.int .i64 x)).below hb (by simp)
  have hw2 := shutBox hb
  clear hb1 hb2 hb
  have b1 := b1.alloc (.cells #[.int .i64 a, .int .i64 b, .int .i64 c] 26)
  have b2 := B3.new w2 26 (.int .i64 a) (.int .i64 b) (.int .i64 c)
  have hw3 := hw2.alloc hw2.size (.cells #[.int .i64 a, .int .i64 b, .int .i64 c] 26)
  obtain ⟨c0, c1, c2, _, _, _, hz⟩ := b1.facts
  go_wp2_with fail
  refine (toReg _ _ _ _).mono ?_
  rintro e w3 ⟨rfl, hb3⟩
  go_wp2_with fail
  refine (hI.out _).mono ?_
  rintro e w4 ⟨rfl, hb4⟩
  have hb := next hb3 hb4 (Nat.le_refl _)
  have hw4 := next hw3 hb (Nat.le_refl _)
  have b2 := b2.below hb (by simp)
  clear hb3 hb4 hb c0 c1 c2 hz b1 hw3
  have b3 := B3.new w4 26 (.int .i64 a) (.int .i64 b) (.int .i64 c)
  have b2 := b2.alloc (.cells #[.int .i64 a, .int .i64 b, .int .i64 c] 26)
  have hw5 := hw4.alloc hw4.size (.cells #[.int .i64 a, .int .i64 b, .int .i64 c] 26)
  obtain ⟨c0, c1, c2, _, _, _, hz⟩ := b2.facts
  obtain ⟨c3, c4, c5, _, _, _, hz3⟩ := b3.facts
  go_wp2_with fail
  refine (eqReg_same _ _ _ _).mono ?_
  rintro e w6 ⟨rfl, hb6⟩
  have hw6 := next hw5 hb6 (Nat.le_refl _)
  clear c0 c1 c2 c3 c4 c5 hz hz3 hb6 hw5
  go_wp2
  go_ret
  exact ⟨rfl, hw6⟩
theorem walk_FnExactBackRegister (s t x : Int) (w : World) (_ : (Lit.int .i64 s).wf = true) (_ : (Lit.int .i64 t).wf = true) (_ : (Lit.int .i64 x).wf = true) :
    Calls Try.prog 11 #[.agg #[.int .i64 s, .int .i64 t, .int .i64 x]] w fun e w' => e = .returned (.bool true) ∧ Below w.heap.size w w' := by
  cases hr : (rv s t x && decide (t % 2 = 1)) with
  | false => exact walk_FnExactBackRegister_of s t x _ _ _ _ w (Lib.hid fun w => sback_no s t x w hr) (Lib.hid fun w => back_no s t x w hr)
  | true =>
    rw [Bool.and_eq_true, decide_eq_true_eq] at hr
    obtain ⟨s', t', x', rfl, rfl, rfl, hv⟩ := rv_nat hr.1
    exact walk_FnExactBackRegister_of _ _ _ _ _ _ _ w (Lib.hid fun w => sback_yes s' t' x' w hv (by omega)) (Lib.hid fun w => back_yes s' t' x' w hv (by omega))
set_option maxHeartbeats 1000000 in
theorem walk_FnExactJumpRegister_of (s t x k a b c : Int) (v : Bool) (w : World)
    (hS : Hid (∀ w, Calls Try.prog 33 #[.agg #[.int .i64 s, .int .i64 t, .int .i64 x], .int .i64 k] w fun e w' => e = .returned (.tuple #[.agg #[.int .i64 a, .int .i64 b, .int .i64 c], .bool v]) ∧ Below w.heap.size w w'))
    (hI : Hid (∀ w, Calls Try.prog 34 #[.agg #[.int .i64 s, .int .i64 t, .int .i64 x], .int .i64 k] w fun e w' => e = .returned (.tuple #[.agg #[.int .i64 a, .int .i64 b, .int .i64 c], .bool v]) ∧ Below w.heap.size w w')) :
    Calls Try.prog 12 #[.agg #[.int .i64 s, .int .i64 t, .int .i64 x], .int .i64 k] w fun e w' => e = .returned (.bool true) ∧ Below w.heap.size w w' := by
  go_enter Try.func12, Try.ntmps12
  go_wp2_with fail
  refine (toReg _ _ _ _).mono ?_
  rintro e w1 ⟨rfl, hb1⟩
  go_wp2_with fail
  refine (hS.out _).mono ?_
  rintro e w2 ⟨rfl, hb2⟩
  have hb := next hb1 hb2
  have b1 := (B3.new w 24 (.int .i64 s) (.int .i64 t) (.int .i64 x)).below hb (by simp)
  have hw2 := shutBox hb
  clear hb1 hb2 hb
  have b1 := b1.alloc (.cells #[.int .i64 a, .int .i64 b, .int .i64 c] 26)
  have b2 := B3.new w2 26 (.int .i64 a) (.int .i64 b) (.int .i64 c)
  have hw3 := hw2.alloc hw2.size (.cells #[.int .i64 a, .int .i64 b, .int .i64 c] 26)
  obtain ⟨c0, c1, c2, _, _, _, hz⟩ := b1.facts
  go_wp2_with fail
  refine (toReg _ _ _ _).mono ?_
  rintro e w3 ⟨rfl, hb3⟩
  go_wp2_with fail
  refine (hI.out _).mono ?_
  rintro e w4 ⟨rfl, hb4⟩
  have hb := next hb3 hb4 (Nat.le_refl _)
  have hw4 := next hw3 hb (Nat.le_refl _)
  have b2 := b2.below hb (by simp)
  clear hb3 hb4 hb c0 c1 c2 hz b1 hw3
  have b3 := B3.new w4 26 (.int .i64 a) (.int .i64 b) (.int .i64 c)
  have b2 := b2.alloc (.cells #[.int .i64 a, .int .i64 b, .int .i64 c] 26)
  have hw5 := hw4.alloc hw4.size (.cells #[.int .i64 a, .int .i64 b, .int .i64 c] 26)
  obtain ⟨c0, c1, c2, _, _, _, hz⟩ := b2.facts
  obtain ⟨c3, c4, c5, _, _, _, hz3⟩ := b3.facts
  go_wp2_with fail
  refine (eqReg_same _ _ _ _).mono ?_
  rintro e w6 ⟨rfl, hb6⟩
  have hw6 := next hw5 hb6 (Nat.le_refl _)
  clear c0 c1 c2 c3 c4 c5 hz hz3 hb6 hw5
  go_wp2
  go_ret
  exact ⟨rfl, hw6⟩
theorem walk_FnExactJumpRegister (s t x k : Int) (w : World) (_ : (Lit.int .i64 s).wf = true) (_ : (Lit.int .i64 t).wf = true) (_ : (Lit.int .i64 x).wf = true) (_ : (Lit.int .i64 k).wf = true) :
    Calls Try.prog 12 #[.agg #[.int .i64 s, .int .i64 t, .int .i64 x], .int .i64 k] w fun e w' => e = .returned (.bool true) ∧ Below w.heap.size w w' := by
  cases hr : jv s t x k with
  | false => exact walk_FnExactJumpRegister_of s t x k _ _ _ _ w (Lib.hid fun w => sjump_no s t x k w hr) (Lib.hid fun w => jump_no s t x k w hr)
  | true =>
    unfold jv at hr
    rw [Bool.and_eq_true, decide_eq_true_eq] at hr
    obtain ⟨hr, h1, h2, h3⟩ := hr
    obtain ⟨s', t', x', rfl, rfl, rfl, hv⟩ := rv_nat hr
    by_cases h0 : 0 ≤ k
    · obtain ⟨K, rfl⟩ := Int.eq_ofNat_of_zero_le h0
      exact walk_FnExactJumpRegister_of _ _ _ _ _ _ _ _ w (Lib.hid fun w => sjump_pos s' t' x' K w hv (by omega)) (Lib.hid fun w => jump_pos s' t' x' K w hv (by omega))
    · obtain ⟨K, hK⟩ := Int.eq_ofNat_of_zero_le (show 0 ≤ -k by omega)
      obtain rfl : k = -(K : Int) := by omega
      exact walk_FnExactJumpRegister_of _ _ _ _ _ _ _ _ w (Lib.hid fun w => sjump_neg s' t' x' K w hv (by omega) (by omega) (by omega)) (Lib.hid fun w => jump_neg s' t' x' K w hv (by omega) (by omega) (by omega))
end Go.Proofs.Ytfkiecknobbjeaa
