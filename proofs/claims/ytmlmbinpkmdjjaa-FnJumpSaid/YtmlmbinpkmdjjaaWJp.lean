/- The contracts of jumps in one form. -/
import Derived.Test.YtmlmbinpkmdjjaaWJump
import Derived.Test.YtmlmbinpkmdjjaaPlainJump
namespace Go.Proofs.Ytmlmbinpkmdjjaa
open Go.RowKit SS
theorem jv_mk {s t x : Nat} {k : Int} (hv : VR s t x) (h1 : -5000 ≤ k) (h2 : k ≤ 5000) (h3 : 0 ≤ k ∨ t % 2 = 1) : jv s t x k = true := by
  unfold jv
  rw [rv_mk hv, Bool.true_and, decide_eq_true_eq]
  exact ⟨h1, h2, h3.imp id fun h => by omega⟩
theorem jv_nat {s t x k : Int} (h : jv s t x k = true) : ∃ s' t' x' : Nat, s = s' ∧ t = t' ∧ x = x' ∧ VR s' t' x' ∧ -5000 ≤ k ∧ k ≤ 5000 ∧ (0 ≤ k ∨ t' % 2 = 1) := by
  unfold jv at h
  rw [Bool.and_eq_true, decide_eq_true_eq] at h
  obtain ⟨hr, h1, h2, h3⟩ := h
  obtain ⟨s', t', x', rfl, rfl, rfl, hv⟩ := rv_nat hr
  exact ⟨s', t', x', rfl, rfl, rfl, hv, h1, h2, h3.imp id fun h => by omega⟩
theorem jump_jp (s t x : Nat) (k : Int) (w : World) (hv : VR s t x) (h1 : -5000 ≤ k) (h2 : k ≤ 5000) (h3 : 0 ≤ k ∨ t % 2 = 1) :
    Calls Try.prog 43 #[.agg #[.int .i64 s, .int .i64 t, .int .i64 x], .int .i64 k] w fun e w' => e = .returned (.tuple #[.agg #[.int .i64 s, .int .i64 t, .int .i64 (jp s t k x)], .bool true]) ∧ Below w.heap.size w w' := by
  by_cases h0 : 0 ≤ k
  · obtain ⟨K, rfl⟩ := Int.eq_ofNat_of_zero_le h0
    rw [jp_pos]
    exact jump_pos s t x K w hv (by omega)
  · obtain ⟨K, hK⟩ := Int.eq_ofNat_of_zero_le (show 0 ≤ -k by omega)
    obtain rfl : k = -(K : Int) := by omega
    rw [jp_neg _ _ _ _ (by omega)]
    exact jump_neg s t x K w hv (by omega) (by omega) (by omega)
theorem sjump_jp (s t x : Nat) (k : Int) (w : World) (hv : VR s t x) (h1 : -5000 ≤ k) (h2 : k ≤ 5000) (h3 : 0 ≤ k ∨ t % 2 = 1) :
    Calls Try.prog 44 #[.agg #[.int .i64 s, .int .i64 t, .int .i64 x], .int .i64 k] w fun e w' => e = .returned (.tuple #[.agg #[.int .i64 s, .int .i64 t, .int .i64 (jp s t k x)], .bool true]) ∧ Below w.heap.size w w' := by
  by_cases h0 : 0 ≤ k
  · obtain ⟨K, rfl⟩ := Int.eq_ofNat_of_zero_le h0
    rw [jp_pos]
    exact sjump_pos s t x K w hv (by omega)
  · obtain ⟨K, hK⟩ := Int.eq_ofNat_of_zero_le (show 0 ≤ -k by omega)
    obtain rfl : k = -(K : Int) := by omega
    rw [jp_neg _ _ _ _ (by omega)]
    exact sjump_neg s t x K w hv (by omega) (by omega) (by omega)
end Go.Proofs.Ytmlmbinpkmdjjaa
