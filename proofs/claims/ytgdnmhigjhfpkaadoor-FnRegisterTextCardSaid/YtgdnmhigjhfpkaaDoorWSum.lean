/- Contracts of the functions that count in sequences. -/
import Derived.Test.YtgdnmhigjhfpkaaDoorWFill
import Derived.Test.YtgdnmhigjhfpkaaDoorPlainSum
namespace Go.Proofs.YtgdnmhigjhfpkaaDoor
open Go.RowKit SS
set_option maxRecDepth 100000

theorem sg_val (c : UInt8) (p : Nat) (hc : c.toNat = p) : sg c = if p = 49 then 1 else -1 := by
  unfold sg
  by_cases h : c = 49
  · rw [if_pos h, if_pos (by rw [← hc, h]; rfl)]
  · rw [if_neg h, if_neg (fun e => h (u8_inj (by rw [hc, e]; rfl)))]
theorem eqv_val (c d : UInt8) (p q : Nat) (hc : c.toNat = p) (hd : d.toNat = q) : eqv c d = if p = q then 1 else -1 := by
  unfold eqv
  by_cases h : c = d
  · rw [if_pos h, if_pos (by rw [← hc, ← hd, h])]
  · rw [if_neg h, if_neg (fun e => h (u8_inj (by omega)))]
theorem sum_step (n : Nat) (f : Nat → Int) (v : Int) (h : f n = v) : sumTo (n + 1) f = sumTo n f + v := by rw [sumTo, h]
theorem in_of (n l h : Int) (v : Bool) (hv : decide (l ≤ n ∧ n ≤ h) = v) (w : World) :
    Calls Tryd.prog 29 #[.int .i64 n, .int .i64 l, .int .i64 h] w fun e w' => e = .returned (.bool v) ∧ w = w' := by
  rw [← hv]
  exact in_spec n l h w
end Go.Proofs.YtgdnmhigjhfpkaaDoor
