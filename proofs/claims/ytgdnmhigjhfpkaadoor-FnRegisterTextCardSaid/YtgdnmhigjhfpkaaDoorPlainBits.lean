/- Plain facts on the bits of a register as sums of earlier ones; no program is in sight. -/
import Derived.Test.YtgdnmhigjhfpkaaDoorPlainRun
namespace SS
theorem nx_div (s t x j : Nat) (h : j + 1 ≤ s) (hx : x < 2 ^ s) : nx s t x / 2 ^ j % 2 ^ (s - 1 - j) = x / 2 ^ (j + 1) := by
  have hp := pow_pred s (by omega)
  unfold nx
  have e : 2 ^ (s - 1) = 2 ^ (s - 1 - j) * 2 ^ j := by rw [← Nat.pow_add]; congr 1; omega
  rw [e, ← Nat.mul_assoc, Nat.add_mul_div_right _ _ (Nat.two_pow_pos _), Nat.add_mul_mod_self_right, Nat.div_div_eq_div_mul, Nat.mul_comm 2, ← Nat.pow_succ]
  apply Nat.mod_eq_of_lt
  rw [Nat.div_lt_iff_lt_mul (Nat.two_pow_pos _), ← Nat.pow_add]
  exact Nat.lt_of_lt_of_le hx (Nat.pow_le_pow_right (by decide) (by omega))
/-- what j steps leave of the state's lower cells -/
theorem it_low (s t x j : Nat) (h1 : 1 ≤ s) (hj : j ≤ s) (hx : x < 2 ^ s) : it (nx s t) j x % 2 ^ (s - j) = x / 2 ^ j := by
  induction j generalizing x with
  | zero => simp [it, Nat.mod_eq_of_lt hx]
  | succ j ih =>
    show it (nx s t) j (nx s t x) % 2 ^ (s - (j + 1)) = _
    have h := ih (nx s t x) (by omega) (nx_lt s t x h1 hx)
    have e : it (nx s t) j (nx s t x) % 2 ^ (s - (j + 1)) = it (nx s t) j (nx s t x) % 2 ^ (s - j) % 2 ^ (s - (j + 1)) := by
      rw [Nat.mod_mod_of_dvd _ (Nat.pow_dvd_pow 2 (by omega))]
    rw [e, h, show s - (j + 1) = s - 1 - j by omega]
    exact nx_div s t x j (by omega) hx
theorem bit_low (s t x j : Nat) (h1 : 1 ≤ s) (hj : j < s) (hx : x < 2 ^ s) : it (nx s t) j x % 2 = x / 2 ^ j % 2 := by
  rw [← it_low s t x j h1 (by omega) hx, Nat.mod_mod_of_dvd]
  exact Nat.dvd_trans (by simp) (Nat.pow_dvd_pow 2 (show 1 ≤ s - j by omega))
theorem bit_next (s t y : Nat) (h1 : 1 ≤ s) (hy : y < 2 ^ s) : it (nx s t) s y % 2 = par (y &&& t) := by
  obtain ⟨k, rfl⟩ : ∃ k, s = k + 1 := ⟨s - 1, by omega⟩
  show it (nx (k + 1) t) k (nx (k + 1) t y) % 2 = _
  rw [bit_low (k + 1) t _ k (by omega) (by omega) (nx_lt _ _ _ (by omega) hy)]
  unfold nx
  rw [show k + 1 - 1 = k by omega, Nat.add_mul_div_right _ _ (Nat.two_pow_pos _), Nat.div_eq_of_lt (by rw [Nat.pow_succ] at hy; omega)]
  have := par_lt (y &&& t)
  omega
/-- the sum of the bits that taps name -/
def psum (y t : Nat) : Nat → Nat
  | 0 => 0
  | k + 1 => psum y t k + if t / 2 ^ k % 2 = 1 then y / 2 ^ k % 2 else 0
theorem psum_le (y t k : Nat) : psum y t k ≤ k := by
  induction k with
  | zero => exact Nat.le_refl _
  | succ k ih =>
    unfold psum
    split <;> omega
theorem psum_par (y t k : Nat) (hk : k ≤ 60) : (psum y t k) % 2 = par ((y &&& t) % 2 ^ k) := by
  induction k with
  | zero => simp [psum, Nat.mod_one, par_zero]
  | succ k ih =>
    have ih := ih (by omega)
    have e : (y &&& t) % 2 ^ (k + 1) = (y &&& t) % 2 ^ k ^^^ ((y &&& t) / 2 ^ k % 2) * 2 ^ k := by
      rw [← add_eq_xor k _ _ (Nat.mod_lt _ (Nat.two_pow_pos _)) (Nat.mod_lt _ (by decide)), Nat.mod_pow_succ, Nat.mul_comm (2 ^ k)]
    have hp : par (((y &&& t) / 2 ^ k % 2) * 2 ^ k) = (y &&& t) / 2 ^ k % 2 := by
      rcases Nat.mod_two_eq_zero_or_one ((y &&& t) / 2 ^ k) with e' | e'
      · rw [e', Nat.zero_mul, par_zero]
      · rw [e', Nat.one_mul]
        have : ∀ n, n ≤ 60 → par (2 ^ n) = 1 := by
          intro n hn
          induction n with
          | zero => decide
          | succ n ihn =>
            have hl : 2 ^ (n + 1) < 2 ^ 64 := Nat.pow_lt_pow_right (by decide) (by omega)
            rw [par_step _ hl, Nat.pow_succ, show 2 ^ n * 2 % 2 = 0 by omega, show 2 ^ n * 2 / 2 = 2 ^ n by omega, ihn (by omega)]
        exact this k (by omega)
    have hb : (y &&& t) / 2 ^ k % 2 = (y / 2 ^ k % 2) * (t / 2 ^ k % 2) := by rw [Nat.and_div_two_pow, and_mod2]
    rw [e, par_xor, hp, hb, ← ih]
    rw [show psum y t (k + 1) = psum y t k + if t / 2 ^ k % 2 = 1 then y / 2 ^ k % 2 else 0 from rfl]
    rcases Nat.mod_two_eq_zero_or_one (t / 2 ^ k) with e' | e' <;> rw [e'] <;> simp
theorem psum_all (s t y : Nat) (h8 : s ≤ 8) (hy : y < 2 ^ s) : psum y t s % 2 = par (y &&& t) := by
  rw [psum_par y t s (by omega), Nat.mod_eq_of_lt]
  exact Nat.lt_of_le_of_lt Nat.and_le_left hy
end SS
