/- Plain facts on many steps forth and back; no program is in sight. -/
import Derived.Test.YtibnlaphkmnhfaaPlainReg
namespace SS
theorem it_bk_nx {s t : Nat} (ho : t % 2 = 1) (n x : Nat) (hv : VR s t x) : it (bk s t) n (it (nx s t) n x) = x := by
  induction n generalizing x with
  | zero => rfl
  | succ n ih =>
    rw [it_succ (bk s t), it, ih _ hv.nx]
    exact bk_nx s t x (by have := hv.1; omega) (by have := hv.2.1; omega) hv.2.2.2.2 ho
theorem it_nx_bk {s t : Nat} (ho : t % 2 = 1) (n x : Nat) (hv : VR s t x) : it (nx s t) n (it (bk s t) n x) = x := by
  induction n generalizing x with
  | zero => rfl
  | succ n ih =>
    rw [it_succ (nx s t), it, ih _ hv.bk]
    exact nx_bk s t x (by have := hv.1; omega) (by have := hv.2.1; omega) hv.2.2.2.2 ho
theorem jp_pos (s t K x : Nat) : jp s t (K : Int) x = it (nx s t) K x := by simp [jp]
theorem jp_neg (s t K x : Nat) (h : 1 ≤ K) : jp s t (-(K : Int)) x = it (bk s t) K x := by
  unfold jp
  rw [if_neg (by omega), show (- -(K : Int)).toNat = K by omega]
/-- steps behind a jump are one jump -/
theorem jp_it (s t x m : Nat) (k : Int) (hv : VR s t x) (h : 0 ≤ k ∨ t % 2 = 1) : it (nx s t) m (jp s t k x) = jp s t (k + m) x := by
  by_cases h0 : 0 ≤ k
  · obtain ⟨K, rfl⟩ := Int.eq_ofNat_of_zero_le h0
    rw [jp_pos, show (K : Int) + (m : Int) = ((K + m : Nat) : Int) by omega, jp_pos, it_add]
  · have ho : t % 2 = 1 := by omega
    obtain ⟨K, hK⟩ := Int.eq_ofNat_of_zero_le (show 0 ≤ -k by omega)
    obtain rfl : k = -(K : Int) := by omega
    rw [jp_neg s t K x (by omega)]
    by_cases hm : K ≤ m
    · rw [show -(K : Int) + (m : Int) = ((m - K : Nat) : Int) by omega, jp_pos]
      conv => lhs; rw [show m = K + (m - K) by omega, it_add]
      rw [it_nx_bk ho K x hv]
    · rw [show -(K : Int) + (m : Int) = -((K - m : Nat) : Int) by omega, jp_neg _ _ _ _ (by omega)]
      conv => lhs; rw [show K = (K - m) + m by omega, it_add]
      exact it_nx_bk ho m _ (hv.itbk _)
theorem jp_back (s t x : Nat) (k : Int) (hv : VR s t x) (h : k = 0 ∨ t % 2 = 1) : jp s t (-k) (jp s t k x) = x := by
  rcases Int.lt_trichotomy k 0 with hk | hk | hk
  · have ho : t % 2 = 1 := by omega
    obtain ⟨K, hK⟩ := Int.eq_ofNat_of_zero_le (show 0 ≤ -k by omega)
    obtain rfl : k = -(K : Int) := by omega
    rw [jp_neg s t K x (by omega), Int.neg_neg, jp_pos]
    exact it_nx_bk ho K x hv
  · subst hk
    rfl
  · have ho : t % 2 = 1 := by omega
    obtain ⟨K, rfl⟩ := Int.eq_ofNat_of_zero_le (show 0 ≤ k by omega)
    rw [jp_pos, jp_neg s t K _ (by omega)]
    exact it_bk_nx ho K x hv
end SS
