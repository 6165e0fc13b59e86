/- The walk of the law that compares the list of maximal taps with the reference's. -/
import Derived.Test.YtmlmbinpkmdjjaaWMaxT
namespace Go.Proofs.Ytmlmbinpkmdjjaa
open Go.RowKit SS
set_option maxHeartbeats 1000000 in
theorem walk_FnExactMaximalTaps_of (a0 : Int) (l : List Int) (w : World) (hl : l.length ≤ 100000)
    (C1 : Hid (∀ w, Calls Try.prog 26 #[.int .i64 a0] w (RetI w l)))
    (C2 : Hid (∀ w, Calls Try.prog 27 #[.int .i64 a0] w (RetI w l))) :
    Calls Try.prog 7 #[.int .i64 a0] w fun e w' => e = .returned (.bool true) ∧ Below w.heap.size w w' := by
  have D1 := Lib.hid (C1.out )
  have D2 := Lib.hid (C2.out )
  clear C1 C2
  go_enter Try.func7, Try.ntmps7
  go_wp2_with fail
  refine (D1.out _).mono ?_
  rintro e w1 ⟨v0, rfl, o0, h1⟩
  have r0 := Lib.hid o0.row
  clear o0
  go_wp2_with fail
  refine (D2.out _).mono ?_
  rintro e w2 ⟨v1, rfl, o1, h2⟩
  have r0 := Lib.hid (r0.out.below h2)
  have hz2 := h2.size
  have O1 := Lib.hid o1
  clear o1
  go_wp2_with fail
  refine (eqInts v1 v0 l _ w2.heap.size O1.out.row (r0.out.mono hz2) hl).mono ?_
  rintro e w3 ⟨rfl, n3, rfl⟩
  go_wp2_with fail
  refine (markInts v1 l _ _ 1 (O1.out.drewN _) hl (by omega)).mono ?_
  rintro e w4 ⟨rfl, o1, h4⟩
  have r0 := Lib.hid ((r0.out.drewN n3).below h4)
  have hz4 := h4.size
  have h24 : Below w1.heap.size w1 w4 := (below_drewN h2 n3).trans h4
  have O1 := Lib.hid o1
  clear o1 h2 h4
  go_wp2_with fail
  refine (heldInts v1 l.length _ w4.heap.size 1 O1.out.row hl (by omega)).mono ?_
  rintro e w5 ⟨rfl, rfl⟩
  go_wp2_with fail
  refine (D2.out _).mono ?_
  rintro e w5 ⟨v2, rfl, o2, h5⟩
  have hz5 := h5.size
  have R1 := Lib.hid (O1.out.row.below h5)
  have r0 := Lib.hid ((r0.out.mono (by have := h24.size; omega : w1.heap.size ≤ w4.heap.size)).below h5)
  have O2 := Lib.hid o2
  clear o2
  go_wp2_with fail
  refine (eqInts v2 v0 l _ w5.heap.size O2.out.row (r0.out.mono hz5) hl).mono ?_
  rintro e w6 ⟨rfl, n6, rfl⟩
  go_wp2_with fail
  refine (heldInts v1 l.length _ w4.heap.size 1 (R1.out.drewN _) hl (by omega)).mono ?_
  rintro e w7 ⟨rfl, rfl⟩
  go_wp2
  go_ret
  exact ⟨rfl, below_drewN (next (next h1 h24 (Nat.le_refl _)) h5 (Nat.le_refl _)) n6⟩
theorem walk_FnExactMaximalTaps (s : Int) (w : World) (_ : (Lit.int .i64 s).wf = true) :
    Calls Try.prog 7 #[.int .i64 s] w fun e w' => e = .returned (.bool true) ∧ Below w.heap.size w w' := by
  by_cases h : s < 2 ∨ 8 < s
  · exact walk_FnExactMaximalTaps_of s [] w (by simp) (Lib.hid fun w => mtaps_spec_no s w h) (Lib.hid fun w => mtaps_impl_no s w h)
  · obtain ⟨s', rfl⟩ := Int.eq_ofNat_of_zero_le (show 0 ≤ s by omega)
    have hp : 2 ^ s' ≤ 256 := Nat.pow_le_pow_right (n := 2) (by decide) (show s' ≤ 8 by omega)
    have := mtaps_length s' (2 ^ s')
    exact walk_FnExactMaximalTaps_of _ _ w (by omega) (Lib.hid fun w => mtaps_spec s' w (by omega) (by omega)) (Lib.hid fun w => mtaps_impl s' w (by omega) (by omega))
end Go.Proofs.Ytmlmbinpkmdjjaa
