/- The walk of the law that compares the lengths of cycles with the reference's. -/
import Derived.Test.YtibnlaphkmnhfaaWCyc
namespace Go.Proofs.Ytibnlaphkmnhfaa
open Go.RowKit SS
set_option maxHeartbeats 1000000 in
theorem walk_FnExactCycleLengths_of (a0 : Int) (a1 : Int) (l : List Int) (w : World) (hl : l.length ≤ 100000)
    (C1 : Hid (∀ w, Calls Try.prog 42 #[.int .i64 a0, .int .i64 a1] w (RetI w l)))
    (C2 : Hid (∀ w, Calls Try.prog 43 #[.int .i64 a0, .int .i64 a1] w (RetI w l))) :
    Calls Try.prog 10 #[.int .i64 a0, .int .i64 a1] w fun e w' => e = .returned (.bool true) ∧ Below w.heap.size w w' := by
  have D1 := Lib.hid (C1.out )
  have D2 := Lib.hid (C2.out )
  clear C1 C2
  go_enter Try.func10, Try.ntmps10
  go_wp2_with fail
  refine (D1.out _).mono ?_
  rintro e w1 ⟨v0, rfl, o0, h1⟩
  have r0 := Lib.hid o0.row
  clear o0
  go_wp2_with fail
  refine (D2.out _).mono ?_
  rintro e w2 ⟨v1, rfl, o1, h2⟩
  have r0 := Lib.hid (r0.out.below h2)
  have hz2 := h2.size
  have O1 := Lib.hid o1
  clear o1
  go_wp2_with fail
  refine (eqInts v1 v0 l _ w2.heap.size O1.out.row (r0.out.mono hz2) hl).mono ?_
  rintro e w3 ⟨rfl, n3, rfl⟩
  go_wp2_with fail
  refine (markInts v1 l _ _ 1 (O1.out.drewN _) hl (by omega)).mono ?_
  rintro e w4 ⟨rfl, o1, h4⟩
  have r0 := Lib.hid ((r0.out.drewN n3).below h4)
  have hz4 := h4.size
  have h24 : Below w1.heap.size w1 w4 := (below_drewN h2 n3).trans h4
  have O1 := Lib.hid o1
  clear o1 h2 h4
  go_wp2_with fail
  refine (heldInts v1 l.length _ w4.heap.size 1 O1.out.row hl (by omega)).mono ?_
  rintro e w5 ⟨rfl, rfl⟩
  go_wp2_with fail
  refine (D2.out _).mono ?_
  rintro e w5 ⟨v2, rfl, o2, h5⟩
  have hz5 := h5.size
  have R1 := Lib.hid (O1.out.row.below h5)
  have r0 := Lib.hid ((r0.out.mono (by have := h24.size; omega : w1.heap.size ≤ w4.heap.size)).below h5)
  have O2 := Lib.hid o2
  clear o2
  go_wp2_with fail
  refine (eqInts v2 v0 l _ w5.heap.size O2.out.row (r0.out.mono hz5) hl).mono ?_
  rintro e w6 ⟨rfl, n6, rfl⟩
  go_wp2_with fail
  refine (heldInts v1 l.length _ w4.heap.size 1 (R1.out.drewN _) hl (by omega)).mono ?_
  rintro e w7 ⟨rfl, rfl⟩
  go_wp2
  go_ret
  exact ⟨rfl, below_drewN (next (next h1 h24 (Nat.le_refl _)) h5 (Nat.le_refl _)) n6⟩
theorem walk_FnExactCycleLengths (s t : Int) (w : World) (_ : (Lit.int .i64 s).wf = true) (_ : (Lit.int .i64 t).wf = true) :
    Calls Try.prog 10 #[.int .i64 s, .int .i64 t] w fun e w' => e = .returned (.bool true) ∧ Below w.heap.size w w' := by
  cases h : tv s t with
  | false => exact walk_FnExactCycleLengths_of s t [] w (by simp) (Lib.hid fun w => scyc_no s t w h) (Lib.hid fun w => cyc_impl_no s t w h)
  | true =>
    obtain ⟨s', t', rfl, rfl, hv⟩ := tv_nat' h
    have hl := clist_length s' t' (2 ^ s')
    have hp : 2 ^ s' ≤ 256 := Nat.pow_le_pow_right (n := 2) (by decide) hv.2.1
    exact walk_FnExactCycleLengths_of _ _ _ w (by rw [srt_length]; omega) (Lib.hid fun w => scyc_yes s' t' w hv) (Lib.hid fun w => cyc_impl s' t' w hv)
end Go.Proofs.Ytibnlaphkmnhfaa
