/- The walks of the laws that compare shifts of sequences with the reference's. -/
import Derived.Test.YtlmnipjlngdmhaaWRot
namespace Go.Proofs.Ytlmnipjlngdmhaa
open Go.RowKit SS
theorem calls_below {P : Program} {f : FuncId} {args : Array Value} {w : World} {v : Value} (h : Calls P f args w fun e w' => e = .returned v ∧ ∃ n, w' = w.drewN n) :
    Calls P f args w fun e w' => e = .returned v ∧ Below w.heap.size w w' :=
  h.mono fun _ _ ⟨he, n, hn⟩ => ⟨he, by rw [hn]; exact below_drews (Below.refl _ _) n⟩
theorem nextB {B : Nat} {w w1 w2 : World} (h1 : Below B w w1) (h2 : Below w1.heap.size w1 w2) (hB : B ≤ w1.heap.size) : Below B w w2 := h1.trans (h2.mono hB)
set_option maxHeartbeats 1000000 in
theorem walk_FnExactSequenceValid (s : ByteArray) (w : World) (hs : s.size ≤ maxLen) :
    Calls Try.prog 3 #[.string s] w fun e w' => e = .returned (.bool true) ∧ Below w.heap.size w w' := by
  have C1 := Lib.hid fun w => seq_spec s w hs
  have C2 := Lib.hid fun w => seq_impl s w hs
  generalize sv s.data.toList = b at C1 C2
  by_cases hl : s.size ≤ 1048576
  · have hd : decide ((1048576 : Int) < (s.size : Int)) = false := by simp; omega
    cases b
    all_goals
      go_enter Try.func3, Try.ntmps3
      go_wp2_with fail
      refine (C1.out _).mono ?_
      rintro e w1 ⟨rfl, rfl⟩
      go_wp2_with fail
      refine (C2.out _).mono ?_
      rintro e w1 ⟨rfl, rfl⟩
      go_wp2
      go_ret
      exact ⟨rfl, Below.refl _ _⟩
  · have hd : decide ((1048576 : Int) < (s.size : Int)) = true := by simp; omega
    go_enter Try.func3, Try.ntmps3
    go_wp2
    go_ret
    exact ⟨rfl, Below.refl _ _⟩
set_option maxHeartbeats 1000000 in
theorem walk_FnExactShiftBits_of (s : ByteArray) (k : Int) (r : ByteArray) (v : Bool) (w : World)
    (C1 : Hid (∀ w, Calls Try.prog 25 #[.string s, .int .i64 k] w fun e w' => e = .returned (.tuple #[.string r, .bool v]) ∧ Below w.heap.size w w'))
    (C2 : Hid (∀ w, Calls Try.prog 26 #[.string s, .int .i64 k] w fun e w' => e = .returned (.tuple #[.string r, .bool v]) ∧ Below w.heap.size w w')) :
    Calls Try.prog 8 #[.string s, .int .i64 k] w fun e w' => e = .returned (.bool true) ∧ Below w.heap.size w w' := by
  by_cases hl : s.size ≤ 1048576
  · have hd : decide ((1048576 : Int) < (s.size : Int)) = false := by simp; omega
    go_enter Try.func8, Try.ntmps8
    go_wp2_with fail
    refine (C1.out _).mono ?_
    rintro e w1 ⟨rfl, h1⟩
    go_wp2_with fail
    refine (C2.out _).mono ?_
    rintro e w2 ⟨rfl, h2⟩
    go_wp2
    go_ret
    exact ⟨rfl, nextB h1 h2 h1.size⟩
  · have hd : decide ((1048576 : Int) < (s.size : Int)) = true := by simp; omega
    go_enter Try.func8, Try.ntmps8
    go_wp2
    go_ret
    exact ⟨rfl, Below.refl _ _⟩
theorem walk_FnExactShiftBits (s : ByteArray) (k : Int) (w : World) (hs : s.size ≤ maxLen) (_ : (Lit.int .i64 k).wf = true) :
    Calls Try.prog 8 #[.string s, .int .i64 k] w fun e w' => e = .returned (.bool true) ∧ Below w.heap.size w w' := by
  cases hv : sv s.data.toList with
  | false => exact walk_FnExactShiftBits_of s k _ _ w (Lib.hid fun w => calls_below (sshift_no s k w hs hv)) (Lib.hid fun w => calls_below (shift_impl_no s k w hs hv))
  | true => exact walk_FnExactShiftBits_of s k _ _ w (Lib.hid fun w => calls_below (sshift_yes s k w hv)) (Lib.hid fun w => calls_below (shift_impl s k w hv))
set_option maxHeartbeats 1000000 in
theorem walk_FnExactLeastPeriod_of (s : ByteArray) (r : Int) (w : World)
    (C1 : Hid (∀ w, Calls Try.prog 23 #[.string s] w fun e w' => e = .returned (.int .i64 r) ∧ Below w.heap.size w w'))
    (C2 : Hid (∀ w, Calls Try.prog 24 #[.string s] w fun e w' => e = .returned (.int .i64 r) ∧ Below w.heap.size w w')) :
    Calls Try.prog 7 #[.string s] w fun e w' => e = .returned (.bool true) ∧ Below w.heap.size w w' := by
  by_cases hl : s.size ≤ 1048576
  · have hd : decide ((1048576 : Int) < (s.size : Int)) = false := by simp; omega
    go_enter Try.func7, Try.ntmps7
    go_wp2_with fail
    refine (C1.out _).mono ?_
    rintro e w1 ⟨rfl, h1⟩
    go_wp2_with fail
    refine (C2.out _).mono ?_
    rintro e w2 ⟨rfl, h2⟩
    go_wp2
    go_ret
    exact ⟨rfl, nextB h1 h2 h1.size⟩
  · have hd : decide ((1048576 : Int) < (s.size : Int)) = true := by simp; omega
    go_enter Try.func7, Try.ntmps7
    go_wp2
    go_ret
    exact ⟨rfl, Below.refl _ _⟩
theorem walk_FnExactLeastPeriod (s : ByteArray) (w : World) (hs : s.size ≤ maxLen) :
    Calls Try.prog 7 #[.string s] w fun e w' => e = .returned (.bool true) ∧ Below w.heap.size w w' := by
  cases hv : sv s.data.toList with
  | false => exact walk_FnExactLeastPeriod_of s _ w (Lib.hid fun w => calls_below (slp_no s w hs hv)) (Lib.hid fun w => calls_below (lp_impl_no s w hs hv))
  | true =>
    obtain ⟨K, hK⟩ := LP.ex s (by have := (sv_yes hv).1; rwa [size_list] at this)
    exact walk_FnExactLeastPeriod_of s _ w (Lib.hid fun w => calls_below (slp_yes s K w hv hK)) (Lib.hid fun w => calls_below (lp_impl s K w hv hK))
set_option maxHeartbeats 1000000 in
theorem walk_FnExactFirstRotation_of (s : ByteArray) (r : ByteArray) (w : World)
    (C1 : Hid (∀ w, Calls Try.prog 21 #[.string s] w fun e w' => e = .returned (.string r) ∧ Below w.heap.size w w'))
    (C2 : Hid (∀ w, Calls Try.prog 22 #[.string s] w fun e w' => e = .returned (.string r) ∧ Below w.heap.size w w')) :
    Calls Try.prog 6 #[.string s] w fun e w' => e = .returned (.bool true) ∧ Below w.heap.size w w' := by
  by_cases hl : s.size ≤ 1048576
  · have hd : decide ((1048576 : Int) < (s.size : Int)) = false := by simp; omega
    go_enter Try.func6, Try.ntmps6
    go_wp2_with fail
    refine (C1.out _).mono ?_
    rintro e w1 ⟨rfl, h1⟩
    go_wp2_with fail
    refine (C2.out _).mono ?_
    rintro e w2 ⟨rfl, h2⟩
    go_wp2
    go_ret
    exact ⟨rfl, nextB h1 h2 h1.size⟩
  · have hd : decide ((1048576 : Int) < (s.size : Int)) = true := by simp; omega
    go_enter Try.func6, Try.ntmps6
    go_wp2
    go_ret
    exact ⟨rfl, Below.refl _ _⟩
theorem walk_FnExactFirstRotation (s : ByteArray) (w : World) (hs : s.size ≤ maxLen) :
    Calls Try.prog 6 #[.string s] w fun e w' => e = .returned (.bool true) ∧ Below w.heap.size w w' := by
  cases hv : sv s.data.toList with
  | false => exact walk_FnExactFirstRotation_of s _ w (Lib.hid fun w => calls_below (sfr_no s w hs hv)) (Lib.hid fun w => calls_below (fr_impl_no s w hs hv))
  | true => exact walk_FnExactFirstRotation_of s _ w (Lib.hid fun w => calls_below (sfr_yes s w hv)) (Lib.hid fun w => calls_below (fr_impl s w hv))
end Go.Proofs.Ytlmnipjlngdmhaa
