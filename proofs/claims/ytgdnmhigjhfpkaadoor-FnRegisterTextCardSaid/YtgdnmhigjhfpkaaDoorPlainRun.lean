/- Plain facts on the bits of a register; no program is in sight. -/
import Derived.Test.YtgdnmhigjhfpkaaDoorPlainAdd
namespace SS
theorem run_drop (s t n k x : Nat) (h : k ≤ n) : (run s t n x).drop k = run s t (n - k) (it (nx s t) k x) := by
  apply list_ext
  · rw [List.length_drop, run_length, run_length]
  · intro i hi
    rw [List.length_drop, run_length] at hi
    rw [at_run _ _ _ _ _ hi, ← it_add]
    have : at_ ((run s t n x).drop k) i = at_ (run s t n x) (k + i) := by simp [at_]
    rw [this, at_run _ _ _ _ _ (by omega)]
end SS
