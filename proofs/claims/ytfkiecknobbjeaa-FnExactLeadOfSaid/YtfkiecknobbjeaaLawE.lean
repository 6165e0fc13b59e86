/- The walks of the laws that compare periods and leads with the reference's. -/
import Derived.Test.YtfkiecknobbjeaaWOrb
import Derived.Test.YtfkiecknobbjeaaWLaw
namespace Go.Proofs.Ytfkiecknobbjeaa
open Go.RowKit SS
set_option maxHeartbeats 1000000 in
theorem walk_FnExactPeriodOf_of (s t x v : Int) (w : World)
    (hS : Hid (∀ w, Calls Try.prog 37 #[.agg #[.int .i64 s, .int .i64 t, .int .i64 x]] w fun e w' => e = .returned (.int .i64 v) ∧ Below w.heap.size w w'))
    (hI : Hid (∀ w, Calls Try.prog 38 #[.agg #[.int .i64 s, .int .i64 t, .int .i64 x]] w fun e w' => e = .returned (.int .i64 v) ∧ Below w.heap.size w w')) :
    Calls Try.prog 14 #[.agg #[.int .i64 s, .int .i64 t, .int .i64 x]] w fun e w' => e = .returned (.bool true) ∧ Below w.heap.size w w' := by
  go_enter Try.func14, Try.ntmps14
  go_wp2_with fail
  refine (toReg _ _ _ _).mono ?_
  rintro e w1 ⟨rfl, hb1⟩
  go_wp2_with fail
  refine (hS.out _).mono ?_
  rintro e w2 ⟨rfl, hb2⟩
  have hb := next hb1 hb2
  clear hb1 hb2
  obtain ⟨c0, c1, c2, hz⟩ := box3 hb
  go_wp2_with fail
  refine (toReg _ _ _ _).mono ?_
  rintro e w3 ⟨rfl, hb3⟩
  go_wp2_with fail
  refine (hI.out _).mono ?_
  rintro e w4 ⟨rfl, hb4⟩
  have hb' := next (next hb hb3) hb4
  go_wp2
  go_ret
  exact ⟨rfl, shutBox hb'⟩
theorem walk_FnExactPeriodOf (s t x : Int) (w : World) (_ : (Lit.int .i64 s).wf = true) (_ : (Lit.int .i64 t).wf = true) (_ : (Lit.int .i64 x).wf = true) :
    Calls Try.prog 14 #[.agg #[.int .i64 s, .int .i64 t, .int .i64 x]] w fun e w' => e = .returned (.bool true) ∧ Below w.heap.size w w' := by
  cases hr : rv s t x with
  | false => exact walk_FnExactPeriodOf_of s t x _ w (Lib.hid fun w => speriod_no s t x w hr) (Lib.hid fun w => period_no s t x w hr)
  | true =>
    obtain ⟨s', t', x', rfl, rfl, rfl, hv⟩ := rv_nat hr
    exact walk_FnExactPeriodOf_of _ _ _ _ w (Lib.hid fun w => speriod_yes s' t' x' w hv) (Lib.hid fun w => period_yes s' t' x' w hv)
set_option maxHeartbeats 1000000 in
theorem walk_FnExactLeadOf_of (s t x v : Int) (w : World)
    (hS : Hid (∀ w, Calls Try.prog 35 #[.agg #[.int .i64 s, .int .i64 t, .int .i64 x]] w fun e w' => e = .returned (.int .i64 v) ∧ Below w.heap.size w w'))
    (hI : Hid (∀ w, Calls Try.prog 36 #[.agg #[.int .i64 s, .int .i64 t, .int .i64 x]] w fun e w' => e = .returned (.int .i64 v) ∧ Below w.heap.size w w')) :
    Calls Try.prog 13 #[.agg #[.int .i64 s, .int .i64 t, .int .i64 x]] w fun e w' => e = .returned (.bool true) ∧ Below w.heap.size w w' := by
  go_enter Try.func13, Try.ntmps13
  go_wp2_with fail
  refine (toReg _ _ _ _).mono ?_
  rintro e w1 ⟨rfl, hb1⟩
  go_wp2_with fail
  refine (hS.out _).mono ?_
  rintro e w2 ⟨rfl, hb2⟩
  have hb := next hb1 hb2
  clear hb1 hb2
  obtain ⟨c0, c1, c2, hz⟩ := box3 hb
  go_wp2_with fail
  refine (toReg _ _ _ _).mono ?_
  rintro e w3 ⟨rfl, hb3⟩
  go_wp2_with fail
  refine (hI.out _).mono ?_
  rintro e w4 ⟨rfl, hb4⟩
  have hb' := next (next hb hb3) hb4
  go_wp2
  go_ret
  exact ⟨rfl, shutBox hb'⟩
theorem walk_FnExactLeadOf (s t x : Int) (w : World) (_ : (Lit.int .i64 s).wf = true) (_ : (Lit.int .i64 t).wf = true) (_ : (Lit.int .i64 x).wf = true) :
    Calls Try.prog 13 #[.agg #[.int .i64 s, .int .i64 t, .int .i64 x]] w fun e w' => e = .returned (.bool true) ∧ Below w.heap.size w w' := by
  cases hr : rv s t x with
  | false => exact walk_FnExactLeadOf_of s t x _ w (Lib.hid fun w => slead_no s t x w hr) (Lib.hid fun w => lead_no s t x w hr)
  | true =>
    obtain ⟨s', t', x', rfl, rfl, rfl, hv⟩ := rv_nat hr
    exact walk_FnExactLeadOf_of _ _ _ _ w (Lib.hid fun w => slead_yes s' t' x' w hv) (Lib.hid fun w => lead_yes s' t' x' w hv)
end Go.Proofs.Ytfkiecknobbjeaa
