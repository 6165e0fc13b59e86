/- The walk of the law that compares the different correlations with the reference's. -/
import Derived.Test.YtibnlaphkmnhfaaWVals
import Derived.Test.YtibnlaphkmnhfaaWLaw
namespace Go.Proofs.Ytibnlaphkmnhfaa
open Go.RowKit SS
set_option maxHeartbeats 1000000 in
theorem walk_FnExactCrossValues_of (a0 : ByteArray) (a1 : ByteArray) (l : List Int) (w : World) (hl : l.length ≤ 100000)
    (C1 : Hid (a0.size ≤ 1048576 → a1.size ≤ 1048576 → ∀ w, Calls Try.prog 40 #[.string a0, .string a1] w (RetI w l)))
    (C2 : Hid (a0.size ≤ 1048576 → a1.size ≤ 1048576 → ∀ w, Calls Try.prog 41 #[.string a0, .string a1] w (RetI w l))) :
    Calls Try.prog 9 #[.string a0, .string a1] w fun e w' => e = .returned (.bool true) ∧ Below w.heap.size w w' := by
  by_cases ha0 : a0.size ≤ 1048576
  · have da0 : decide ((1048576 : Int) < (a0.size : Int)) = false := by simp; omega
    by_cases ha1 : a1.size ≤ 1048576
    · have da1 : decide ((1048576 : Int) < (a1.size : Int)) = false := by simp; omega
      have D1 := Lib.hid (C1.out ha0 ha1)
      have D2 := Lib.hid (C2.out ha0 ha1)
      clear C1 C2
      go_enter Try.func9, Try.ntmps9
      go_wp2_with fail
      refine (D1.out _).mono ?_
      rintro e w1 ⟨v0, rfl, o0, h1⟩
      have r0 := Lib.hid o0.row
      clear o0
      go_wp2_with fail
      refine (D2.out _).mono ?_
      rintro e w2 ⟨v1, rfl, o1, h2⟩
      have r0 := Lib.hid (r0.out.below h2)
      have hz2 := h2.size
      have O1 := Lib.hid o1
      clear o1
      go_wp2_with fail
      refine (eqInts v1 v0 l _ w2.heap.size O1.out.row (r0.out.mono hz2) hl).mono ?_
      rintro e w3 ⟨rfl, n3, rfl⟩
      go_wp2_with fail
      refine (markInts v1 l _ _ 1 (O1.out.drewN _) hl (by omega)).mono ?_
      rintro e w4 ⟨rfl, o1, h4⟩
      have r0 := Lib.hid ((r0.out.drewN n3).below h4)
      have hz4 := h4.size
      have h24 : Below w1.heap.size w1 w4 := (below_drewN h2 n3).trans h4
      have O1 := Lib.hid o1
      clear o1 h2 h4
      go_wp2_with fail
      refine (heldInts v1 l.length _ w4.heap.size 1 O1.out.row hl (by omega)).mono ?_
      rintro e w5 ⟨rfl, rfl⟩
      go_wp2_with fail
      refine (D2.out _).mono ?_
      rintro e w5 ⟨v2, rfl, o2, h5⟩
      have hz5 := h5.size
      have R1 := Lib.hid (O1.out.row.below h5)
      have r0 := Lib.hid ((r0.out.mono (by have := h24.size; omega : w1.heap.size ≤ w4.heap.size)).below h5)
      have O2 := Lib.hid o2
      clear o2
      go_wp2_with fail
      refine (eqInts v2 v0 l _ w5.heap.size O2.out.row (r0.out.mono hz5) hl).mono ?_
      rintro e w6 ⟨rfl, n6, rfl⟩
      go_wp2_with fail
      refine (heldInts v1 l.length _ w4.heap.size 1 (R1.out.drewN _) hl (by omega)).mono ?_
      rintro e w7 ⟨rfl, rfl⟩
      go_wp2
      go_ret
      exact ⟨rfl, below_drewN (next (next h1 h24 (Nat.le_refl _)) h5 (Nat.le_refl _)) n6⟩
    · have da1 : decide ((1048576 : Int) < (a1.size : Int)) = true := by simp; omega
      go_enter Try.func9, Try.ntmps9
      go_wp2
      go_ret
      exact ⟨rfl, Below.refl _ _⟩
  · have da0 : decide ((1048576 : Int) < (a0.size : Int)) = true := by simp; omega
    go_enter Try.func9, Try.ntmps9
    go_wp2
    go_ret
    exact ⟨rfl, Below.refl _ _⟩
theorem walk_FnExactCrossValues (a b : ByteArray) (w : World) (ha : a.size ≤ maxLen) (hb : b.size ≤ maxLen) :
    Calls Try.prog 9 #[.string a, .string b] w fun e w' => e = .returned (.bool true) ∧ Below w.heap.size w w' := by
  cases hv : pv a b with
  | false => exact walk_FnExactCrossValues_of a b [] w (by simp) (Lib.hid fun _ _ w => vals_spec a b [] w (by simp) (Lib.hid fun w => ctab_spec_no a b w ha hb hv)) (Lib.hid fun _ _ w => vals_impl a b [] w (by simp) (Lib.hid fun w => ctab_impl_no a b w ha hb hv))
  | true =>
    have hs := (pv_PV hv).le
    have hl := ctab_length a.data.toList b.data.toList a.size
    have := hvals_length (ctab a.data.toList b.data.toList a.size)
    exact walk_FnExactCrossValues_of a b _ w (by omega) (Lib.hid fun _ _ w => vals_spec a b _ w (by omega) (Lib.hid fun w => ctab_spec a b w hv)) (Lib.hid fun _ _ w => vals_impl a b _ w (by omega) (Lib.hid fun w => ctab_impl a b w hv))
end Go.Proofs.Ytibnlaphkmnhfaa
