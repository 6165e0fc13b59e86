/- Plain facts on reversed taps; no program is in sight. -/
import Derived.Test.YtgdnmhigjhfpkaaDoorPlainReg
namespace SS
/-- reversed taps, as far as the cell k -/
def rvs (s t : Nat) : Nat → Nat
  | 0 => 1
  | k + 1 => rvs s t k + t / 2 ^ (k + 1) % 2 * 2 ^ (s - (k + 1))
/-- reversed taps -/
def rvt (s t : Nat) : Nat := rvs s t (s - 1)
theorem or_mid (j m : Nat) (hj : 1 ≤ j) : (2 ^ (j + 1) * m + 1) ||| 2 ^ j = 2 ^ (j + 1) * m + 1 + 2 ^ j := by
  have h2 : 2 ≤ 2 ^ j := by have := Nat.pow_le_pow_right (n := 2) (by decide) hj; simpa using this
  have hp : 2 ^ (j + 1) = 2 * 2 ^ j := by rw [Nat.pow_succ, Nat.mul_comm]
  have e1 := Nat.two_pow_add_eq_or_of_lt (show 1 < 2 ^ (j + 1) by omega) m
  have e2 := Nat.two_pow_add_eq_or_of_lt (show 1 + 2 ^ j < 2 ^ (j + 1) by omega) m
  have e3 := add_eq_or j 1 1 (by omega)
  rw [Nat.one_mul] at e3
  rw [e1, Nat.or_assoc, ← e3, ← e2, ← e1, Nat.add_assoc]
theorem rvs_form (s t k : Nat) (hk : k < s) : ∃ m, rvs s t k = 2 ^ (s - k) * m + 1 := by
  induction k with
  | zero => exact ⟨0, by simp [rvs]⟩
  | succ k ih =>
    obtain ⟨m, hm⟩ := ih (by omega)
    refine ⟨2 * m + t / 2 ^ (k + 1) % 2, ?_⟩
    have hp : 2 ^ (s - k) = 2 ^ (s - (k + 1)) * 2 := by rw [← Nat.pow_succ]; congr 1; omega
    rw [rvs, hm, hp, Nat.mul_add, Nat.mul_assoc, Nat.mul_comm (t / 2 ^ (k + 1) % 2)]
    omega
theorem rvs_or (s t k : Nat) (hk : k + 1 < s) (hb : t / 2 ^ (k + 1) % 2 = 1) : rvs s t (k + 1) = rvs s t k ||| 2 ^ (s - (k + 1)) := by
  obtain ⟨m, hm⟩ := rvs_form s t k (by omega)
  have := or_mid (s - (k + 1)) m (by omega)
  rw [show s - (k + 1) + 1 = s - k by omega, ← hm] at this
  rw [this, rvs, hb, Nat.one_mul]
theorem rvs_same (s t k : Nat) (hb : t / 2 ^ (k + 1) % 2 = 0) : rvs s t (k + 1) = rvs s t k := by rw [rvs, hb, Nat.zero_mul, Nat.add_zero]
theorem rvs_lt (s t k : Nat) (hk : k < s) : rvs s t k < 2 ^ s ∧ 1 ≤ rvs s t k := by
  have h : rvs s t k ≤ 2 ^ s - 2 ^ (s - k) + 1 := by
    induction k with
    | zero => simp [rvs]
    | succ k ih =>
      have := ih (by omega)
      have hp : 2 ^ (s - k) = 2 ^ (s - (k + 1)) * 2 := by rw [← Nat.pow_succ]; congr 1; omega
      have hle : 2 ^ (s - k) ≤ 2 ^ s := Nat.pow_le_pow_right (by decide) (by omega)
      have hm := Nat.mod_lt (t / 2 ^ (k + 1)) (show 0 < 2 by decide)
      rw [rvs]
      rcases (show t / 2 ^ (k + 1) % 2 = 0 ∨ t / 2 ^ (k + 1) % 2 = 1 by omega) with e | e <;> rw [e] <;> omega
  have h2 : 2 ≤ 2 ^ (s - k) := by have := Nat.pow_le_pow_right (n := 2) (by decide) (show 1 ≤ s - k by omega); simpa using this
  have hle : 2 ^ (s - k) ≤ 2 ^ s := Nat.pow_le_pow_right (by decide) (by omega)
  obtain ⟨m, hm⟩ := rvs_form s t k hk
  exact ⟨by omega, by omega⟩
end SS
