/- The walk of the law that compares the lengths of runs with the reference's. -/
import Derived.Test.YtibnlaphkmnhfaaWRuns
import Derived.Test.YtibnlaphkmnhfaaWLaw
namespace Go.Proofs.Ytibnlaphkmnhfaa
open Go.RowKit SS
theorem runs_some (l : List UInt8) : ∃ R, Runs l R := by
  rcases brk_or l with ⟨a, h⟩ | h
  · exact ⟨_, .inl ⟨a, h, rfl⟩⟩
  · exact ⟨_, .inr ⟨h, rfl⟩⟩
theorem runs_len {l : List UInt8} {R : List Int} (h : Runs l R) : R.length ≤ l.length + 1 := by
  rcases h with ⟨a, ha, rfl⟩ | ⟨_, rfl⟩
  · rw [srt_length]
    have := rle_len (rot a l)
    have := rot_length a l (Nat.le_of_lt ha.lt)
    omega
  · simp
set_option maxHeartbeats 1000000 in
theorem walk_FnExactRunLengths_of (a0 : ByteArray) (l : List Int) (w : World) (hl : l.length ≤ 100000)
    (C1 : Hid (a0.size ≤ 1048576 → ∀ w, Calls Try.prog 35 #[.string a0] w (RetI w l)))
    (C2 : Hid (a0.size ≤ 1048576 → ∀ w, Calls Try.prog 36 #[.string a0] w (RetI w l))) :
    Calls Try.prog 8 #[.string a0] w fun e w' => e = .returned (.bool true) ∧ Below w.heap.size w w' := by
  by_cases ha0 : a0.size ≤ 1048576
  · have da0 : decide ((1048576 : Int) < (a0.size : Int)) = false := by simp; omega
    have D1 := Lib.hid (C1.out ha0)
    have D2 := Lib.hid (C2.out ha0)
    clear C1 C2
    go_enter Try.func8, Try.ntmps8
    go_wp2_with fail
    refine (D1.out _).mono ?_
    rintro e w1 ⟨v0, rfl, o0, h1⟩
    have r0 := Lib.hid o0.row
    clear o0
    go_wp2_with fail
    refine (D2.out _).mono ?_
    rintro e w2 ⟨v1, rfl, o1, h2⟩
    have r0 := Lib.hid (r0.out.below h2)
    have hz2 := h2.size
    have O1 := Lib.hid o1
    clear o1
    go_wp2_with fail
    refine (eqInts v1 v0 l _ w2.heap.size O1.out.row (r0.out.mono hz2) hl).mono ?_
    rintro e w3 ⟨rfl, n3, rfl⟩
    go_wp2_with fail
    refine (markInts v1 l _ _ 1 (O1.out.drewN _) hl (by omega)).mono ?_
    rintro e w4 ⟨rfl, o1, h4⟩
    have r0 := Lib.hid ((r0.out.drewN n3).below h4)
    have hz4 := h4.size
    have h24 : Below w1.heap.size w1 w4 := (below_drewN h2 n3).trans h4
    have O1 := Lib.hid o1
    clear o1 h2 h4
    go_wp2_with fail
    refine (heldInts v1 l.length _ w4.heap.size 1 O1.out.row hl (by omega)).mono ?_
    rintro e w5 ⟨rfl, rfl⟩
    go_wp2_with fail
    refine (D2.out _).mono ?_
    rintro e w5 ⟨v2, rfl, o2, h5⟩
    have hz5 := h5.size
    have R1 := Lib.hid (O1.out.row.below h5)
    have r0 := Lib.hid ((r0.out.mono (by have := h24.size; omega : w1.heap.size ≤ w4.heap.size)).below h5)
    have O2 := Lib.hid o2
    clear o2
    go_wp2_with fail
    refine (eqInts v2 v0 l _ w5.heap.size O2.out.row (r0.out.mono hz5) hl).mono ?_
    rintro e w6 ⟨rfl, n6, rfl⟩
    go_wp2_with fail
    refine (heldInts v1 l.length _ w4.heap.size 1 (R1.out.drewN _) hl (by omega)).mono ?_
    rintro e w7 ⟨rfl, rfl⟩
    go_wp2
    go_ret
    exact ⟨rfl, below_drewN (next (next h1 h24 (Nat.le_refl _)) h5 (Nat.le_refl _)) n6⟩
  · have da0 : decide ((1048576 : Int) < (a0.size : Int)) = true := by simp; omega
    go_enter Try.func8, Try.ntmps8
    go_wp2
    go_ret
    exact ⟨rfl, Below.refl _ _⟩
theorem walk_FnExactRunLengths (s : ByteArray) (w : World) (hs : s.size ≤ maxLen) :
    Calls Try.prog 8 #[.string s] w fun e w' => e = .returned (.bool true) ∧ Below w.heap.size w w' := by
  cases hv : sv s.data.toList with
  | false => exact walk_FnExactRunLengths_of s [] w (by simp) (Lib.hid fun _ w => runs_spec_no s w hs hv) (Lib.hid fun _ w => runs_impl_no s w hs hv)
  | true =>
    obtain ⟨h1, h2⟩ := sv_size hv
    obtain ⟨R, hR⟩ := runs_some s.data.toList
    have hl := runs_len hR
    rw [size_list] at hl
    exact walk_FnExactRunLengths_of s R w (by omega) (Lib.hid fun _ w => runs_spec s R w hv hR) (Lib.hid fun _ w => runs_impl s R w hv hR)
end Go.Proofs.Ytibnlaphkmnhfaa
