/- Plain facts on sums of registers; no program is in sight. -/
import Derived.Test.YtgdnmhigjhfpkaaDoorPlainReg
import Derived.Test.YtgdnmhigjhfpkaaDoorPlainSum
namespace SS
theorem it_xor (s t : Nat) (h : 1 ≤ s) (n x y : Nat) (hx : x < 2 ^ s) (hy : y < 2 ^ s) : it (nx s t) n (x ^^^ y) = it (nx s t) n x ^^^ it (nx s t) n y := by
  induction n generalizing x y with
  | zero => rfl
  | succ n ih =>
    show it (nx s t) n (nx s t (x ^^^ y)) = _
    rw [nx_xor s t x y h hx hy]
    exact ih _ _ (nx_lt s t x h hx) (nx_lt s t y h hy)
theorem bt_xor (a b : Nat) (ha : a < 2) (hb : b < 2) : bx (bt a) (bt b) = bt ((a + b) % 2) := by
  rcases (show a = 0 ∨ a = 1 by omega) with rfl | rfl <;> rcases (show b = 0 ∨ b = 1 by omega) with rfl | rfl <;> rfl
theorem run_tab (s t n x : Nat) : run s t n x = tab n fun j => bt (it (nx s t) j x % 2) := rfl
theorem at_run (s t n x j : Nat) (h : j < n) : at_ (run s t n x) j = bt (it (nx s t) j x % 2) := by rw [run_tab, at_tab _ _ _ h]
theorem okB_run (s t n x : Nat) : okB (run s t n x) = true := by
  refine okB_of _ fun i hi => ?_
  rw [run_length] at hi
  rw [at_run s t n x i hi]
  unfold bt
  split <;> simp
theorem run_add (s t n x y : Nat) (hv : VR s t x) (hv2 : VR s t y) : addL (run s t n x) (run s t n y) = run s t n (x ^^^ y) := by
  apply list_ext
  · rw [addL_length, run_length, run_length]
  · intro i hi
    rw [addL_length, run_length] at hi
    rw [at_addL _ _ _ (by rw [run_length]; exact hi), at_run _ _ _ _ _ hi, at_run _ _ _ _ _ hi, at_run _ _ _ _ _ hi]
    rw [bt_xor _ _ (Nat.mod_lt _ (by decide)) (Nat.mod_lt _ (by decide)), it_xor s t (by have := hv.1; omega) i x y hv.2.2.2.2 hv2.2.2.2.2, xor_mod2]
    congr 1
    omega
theorem VR.xor {s t x y : Nat} (h : VR s t x) (k : VR s t y) : VR s t (x ^^^ y) := ⟨h.1, h.2.1, h.2.2.1, h.2.2.2.1, Nat.xor_lt_two_pow h.2.2.2.2 k.2.2.2.2⟩
theorem xor_twice (x y : Nat) : (x ^^^ y) ^^^ y = x := by rw [Nat.xor_assoc, Nat.xor_self, Nat.xor_zero]
end SS
