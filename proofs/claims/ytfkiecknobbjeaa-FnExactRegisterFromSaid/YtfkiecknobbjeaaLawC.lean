/- The walks of the laws that compare bits of registers, registers made of bits and sums of registers with the reference's. -/
import Derived.Test.YtfkiecknobbjeaaWStep
import Derived.Test.YtfkiecknobbjeaaWRun
import Derived.Test.YtfkiecknobbjeaaWFrom
import Derived.Test.YtfkiecknobbjeaaWLaw
import Derived.Deep.RegionWith
import Derived.Deep.DeepCutAuto
namespace Go.Proofs.Ytfkiecknobbjeaa
open Go.RowKit SS
set_option maxHeartbeats 1000000 in
theorem walk_FnExactRunRegister_of (s t x k : Int) (r : ByteArray) (v : Bool) (w : World)
    (hS : Hid (∀ w, Calls Try.prog 27 #[.agg #[.int .i64 s, .int .i64 t, .int .i64 x], .int .i64 k] w fun e w' => e = .returned (.tuple #[.string r, .bool v]) ∧ Below w.heap.size w w'))
    (hI : Hid (∀ w, Calls Try.prog 28 #[.agg #[.int .i64 s, .int .i64 t, .int .i64 x], .int .i64 k] w fun e w' => e = .returned (.tuple #[.string r, .bool v]) ∧ Below w.heap.size w w')) :
    Calls Try.prog 9 #[.agg #[.int .i64 s, .int .i64 t, .int .i64 x], .int .i64 k] w fun e w' => e = .returned (.bool true) ∧ Below w.heap.size w w' := by
  go_enter Try.func9, Try.ntmps9
  go_wp2_with fail
  refine (toReg _ _ _ _).mono ?_
  rintro e w1 ⟨rfl, hb1⟩
  go_wp2_with fail
  refine (hS.out _).mono ?_
  rintro e w2 ⟨rfl, hb2⟩
  have hb := next hb1 hb2
  have b1 := (B3.new w 24 (.int .i64 s) (.int .i64 t) (.int .i64 x)).below hb (by simp)
  have hw2 := shutBox hb
  clear hb1 hb2 hb
  obtain ⟨c0, c1, c2, _, _, _, hz⟩ := b1.facts
  go_wp2_with fail
  refine (toReg _ _ _ _).mono ?_
  rintro e w3 ⟨rfl, hb3⟩
  go_wp2_with fail
  refine (hI.out _).mono ?_
  rintro e w4 ⟨rfl, hb4⟩
  have hb := next hb3 hb4 (Nat.le_refl _)
  have hw4 := next hw2 hb (Nat.le_refl _)
  clear hb3 hb4 hb c0 c1 c2 hz b1 hw2
  go_wp2
  go_ret
  exact ⟨rfl, hw4⟩
theorem walk_FnExactRunRegister (s t x k : Int) (w : World) (_ : (Lit.int .i64 s).wf = true) (_ : (Lit.int .i64 t).wf = true) (_ : (Lit.int .i64 x).wf = true) (_ : (Lit.int .i64 k).wf = true) :
    Calls Try.prog 9 #[.agg #[.int .i64 s, .int .i64 t, .int .i64 x], .int .i64 k] w fun e w' => e = .returned (.bool true) ∧ Below w.heap.size w w' := by
  cases hr : nv s t x k with
  | false => exact walk_FnExactRunRegister_of s t x k _ _ w (Lib.hid fun w => srun_no s t x k w hr) (Lib.hid fun w => run_no s t x k w hr)
  | true =>
    unfold nv at hr
    rw [Bool.and_eq_true, decide_eq_true_eq] at hr
    obtain ⟨hr, h1, h2⟩ := hr
    obtain ⟨s', t', x', rfl, rfl, rfl, hv⟩ := rv_nat hr
    obtain ⟨K, rfl⟩ := Int.eq_ofNat_of_zero_le h1
    exact walk_FnExactRunRegister_of _ _ _ _ _ _ w (Lib.hid fun w => srun_yes s' t' x' K w hv (by omega)) (Lib.hid fun w => run_yes s' t' x' K w hv (by omega))
set_option maxHeartbeats 1000000 in
theorem walk_FnExactRegisterFrom_of (z t : Int) (s : ByteArray) (a b c : Int) (v : Bool) (w : World) (hs : s.size ≤ 1048576)
    (hS : Hid (∀ w, Calls Try.prog 25 #[.int .i64 z, .int .i64 t, .string s] w fun e w' => e = .returned (.tuple #[.agg #[.int .i64 a, .int .i64 b, .int .i64 c], .bool v]) ∧ Below w.heap.size w w'))
    (hI : Hid (∀ w, Calls Try.prog 26 #[.int .i64 z, .int .i64 t, .string s] w fun e w' => e = .returned (.tuple #[.agg #[.int .i64 a, .int .i64 b, .int .i64 c], .bool v]) ∧ Below w.heap.size w w')) :
    Calls Try.prog 8 #[.int .i64 z, .int .i64 t, .string s] w fun e w' => e = .returned (.bool true) ∧ Below w.heap.size w w' := by
  have hd : decide ((1048576 : Int) < (s.size : Int)) = false := by simp; omega
  go_enter Try.func8, Try.ntmps8
  go_wp2_with fail
  refine (hS.out _).mono ?_
  rintro e w2 ⟨rfl, hw2⟩
  have b2 := B3.new w2 26 (.int .i64 a) (.int .i64 b) (.int .i64 c)
  have hw3 := hw2.alloc hw2.size (.cells #[.int .i64 a, .int .i64 b, .int .i64 c] 26)
  go_wp2_with fail
  refine (hI.out _).mono ?_
  rintro e w4 ⟨rfl, hb⟩
  have hw4 := next hw3 hb (Nat.le_refl _)
  have b2 := b2.below hb (by simp)
  clear hb hw3 hw2
  have b3 := B3.new w4 26 (.int .i64 a) (.int .i64 b) (.int .i64 c)
  have b2 := b2.alloc (.cells #[.int .i64 a, .int .i64 b, .int .i64 c] 26)
  have hw5 := hw4.alloc hw4.size (.cells #[.int .i64 a, .int .i64 b, .int .i64 c] 26)
  obtain ⟨c0, c1, c2, _, _, _, hz⟩ := b2.facts
  obtain ⟨c3, c4, c5, _, _, _, hz3⟩ := b3.facts
  go_wp2_with fail
  refine (eqReg_same _ _ _ _).mono ?_
  rintro e w6 ⟨rfl, hb6⟩
  have hw6 := next hw5 hb6 (Nat.le_refl _)
  clear c0 c1 c2 c3 c4 c5 hz hz3 hb6 hw5
  go_wp2
  go_ret
  exact ⟨rfl, hw6⟩
theorem walk_FnExactRegisterFrom (z t : Int) (s : ByteArray) (w : World) (_ : (Lit.int .i64 z).wf = true) (_ : (Lit.int .i64 t).wf = true) (hs : s.size ≤ maxLen) :
    Calls Try.prog 8 #[.int .i64 z, .int .i64 t, .string s] w fun e w' => e = .returned (.bool true) ∧ Below w.heap.size w w' := by
  by_cases hl : s.size ≤ 1048576
  · by_cases hc : tv z t = true ∧ bitsB s.data.toList = true ∧ (s.size : Int) = z
    · obtain ⟨h1, h2, h3⟩ := hc
      obtain ⟨g1, g2, g3, _⟩ := tv_yes h1
      obtain ⟨z', rfl⟩ := Int.eq_ofNat_of_zero_le (show 0 ≤ z by omega)
      obtain ⟨t', rfl⟩ := Int.eq_ofNat_of_zero_le (show 0 ≤ t by omega)
      exact walk_FnExactRegisterFrom_of _ _ s _ _ _ _ w hl (Lib.hid fun w => srfrom_yes z' t' s w hs h1 h2 (by omega)) (Lib.hid fun w => rfrom_yes z' t' s w hs h1 h2 (by omega))
    · exact walk_FnExactRegisterFrom_of z t s _ _ _ _ w hl (Lib.hid fun w => srfrom_no z t s w hs hc) (Lib.hid fun w => rfrom_no z t s w hs hc)
  · have hd : decide ((1048576 : Int) < (s.size : Int)) = true := by simp; omega
    go_enter Try.func8, Try.ntmps8
    go_wp2
    go_ret
    exact ⟨rfl, Below.refl _ _⟩
end Go.Proofs.Ytfkiecknobbjeaa
