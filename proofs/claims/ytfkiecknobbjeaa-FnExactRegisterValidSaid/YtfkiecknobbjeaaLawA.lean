/- The walks of the laws that compare simple functions with the reference. -/
import Derived.Test.YtfkiecknobbjeaaWReg
import Derived.OpenShut
namespace Go.Proofs.Ytfkiecknobbjeaa
open Go.RowKit SS
theorem walk_FnExactConstants (w : World) : Calls Try.prog 3 #[] w fun e w' => e = .returned (.bool true) ∧ Below w.heap.size w w' := by
  go_enter Try.func3, Try.ntmps3
  go_wp2
  go_ret
  exact ⟨rfl, Below.refl _ _⟩
theorem walk_FnExactParity (n : Int) (w : World) (hn : (Lit.int .i64 n).wf = true) : Calls Try.prog 5 #[.int .i64 n] w fun e w' => e = .returned (.bool true) ∧ Below w.heap.size w w' := by
  by_cases h : n < 0
  · go_enter Try.func5, Try.ntmps5
    go_wp2_with (first | (go_at_call 18; refine (Parity_spec_neg _ _ h).mono ?_; rintro e w' ⟨rfl, rfl⟩) | (go_at_call 19; refine (parity_impl_neg _ _ h).mono ?_; rintro e w' ⟨rfl, rfl⟩))
    go_ret
    exact ⟨rfl, Below.refl _ _⟩
  · have hb := bounds_i64 hn
    obtain ⟨m, rfl⟩ := Int.eq_ofNat_of_zero_le (show 0 ≤ n by omega)
    go_enter Try.func5, Try.ntmps5
    go_wp2_with (first | (go_at_call 18; refine (Parity_spec _ _ (by omega)).mono ?_; rintro e w' ⟨rfl, rfl⟩) | (go_at_call 19; refine (parity_impl _ _ (by omega)).mono ?_; rintro e w' ⟨rfl, rfl⟩))
    go_ret
    exact ⟨rfl, Below.refl _ _⟩
/-- one call behind the other -/
theorem next {W w1 w2 : World} {B : Nat} (h1 : Below B W w1) (h2 : Below w1.heap.size w1 w2) (hB : B ≤ W.heap.size := by simp) : Below B W w2 :=
  h1.trans (h2.mono (Nat.le_trans hB h1.size))
theorem box3 {w w2 : World} {a b c : Value} {T : TypeId} (hb : Below (w.alloc (.cells #[a, b, c] T)).heap.size (w.alloc (.cells #[a, b, c] T)) w2) :
    w2.cell? ⟨w.heap.size, 0, none⟩ = some a ∧ w2.cell? ⟨w.heap.size, 1, none⟩ = some b ∧ w2.cell? ⟨w.heap.size, 2, none⟩ = some c ∧ w.heap.size < w2.heap.size := by
  have hs := hb.size
  simp at hs
  refine ⟨(hb.cell (by simp)).trans ?_, (hb.cell (by simp)).trans ?_, (hb.cell (by simp)).trans ?_, by omega⟩ <;> simp
theorem shutBox {w w2 : World} {o : Obj} (hb : Below (w.alloc o).heap.size (w.alloc o) w2) : Below w.heap.size w w2 :=
  ((Below.refl _ _).alloc (Nat.le_refl _) o).trans (hb.mono (by simp))
theorem toReg (s t x : Int) (w : World) : Calls Try.prog 16 #[.agg #[.int .i64 s, .int .i64 t, .int .i64 x]] w fun e w' => e = .returned (.agg #[.int .i64 s, .int .i64 t, .int .i64 x]) ∧ Below w.heap.size w w' := by
  go_enter Try.func16, Try.ntmps16
  go_wp2
  refine bodyPost_ret (v := .agg #[.int .i64 s, .int .i64 t, .int .i64 x]) (by simp [results, Try.results16, go_sem]) rfl ⟨rfl, ?_⟩
  exact (((Below.refl _ _).alloc (Nat.le_refl _) _).alloc (by simp) _).alloc (by simp; omega) _
theorem walk_FnExactRegisterValid (s t x : Int) (w : World) (_ : (Lit.int .i64 s).wf = true) (_ : (Lit.int .i64 t).wf = true) (_ : (Lit.int .i64 x).wf = true) :
    Calls Try.prog 4 #[.agg #[.int .i64 s, .int .i64 t, .int .i64 x]] w fun e w' => e = .returned (.bool true) ∧ Below w.heap.size w w' := by
  go_enter Try.func4, Try.ntmps4
  go_wp2_with fail
  refine (toReg _ _ _ _).mono ?_
  rintro e w1 ⟨rfl, hb1⟩
  go_wp2_with fail
  refine (valid_spec _ _ _ _).mono ?_
  rintro e w2 ⟨rfl, hb2⟩
  have hb := next hb1 hb2
  clear hb1 hb2
  obtain ⟨c0, c1, c2, hz⟩ := box3 hb
  go_wp2_with fail
  refine (toReg _ _ _ _).mono ?_
  rintro e w3 ⟨rfl, hb3⟩
  go_wp2_with fail
  refine (valid_impl _ _ _ _).mono ?_
  rintro e w4 ⟨rfl, hb4⟩
  have hb' := next (next hb hb3) hb4
  go_wp2
  go_ret
  exact ⟨rfl, shutBox hb'⟩
end Go.Proofs.Ytfkiecknobbjeaa
