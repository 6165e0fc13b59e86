/- The bits of a register in reverse order; no program is in sight. -/
import Derived.Test.YtgmagocpacpafaaPlainTurn
namespace SS
theorem Rec.congr {s t n : Nat} {b c : Nat → Nat} (hb : Rec s t n b) (h : ∀ i, i < n → b i = c i) : Rec s t n c := by
  intro j hj
  rw [← h (j + s) hj, hb j hj]
  exact lin_mod _ _ _ _ fun i hi => by rw [h (j + i) (by omega)]
theorem turned_run {s t x : Nat} (hv : VR s t x) (ho : t % 2 = 1) (n : Nat) (hn : s ≤ n) : run s (rvt s t) n (frm ((revL (run s t n x)).take s)) = revL (run s t n x) := by
  obtain ⟨_, _, hlt, hm, _⟩ := turn_at s t hv.1 hv.2.1 hv.2.2.2.1 ho
  have hl : (revL (run s t n x)).length = n := by rw [revL_length, run_length]
  have := run_of_rec s (rvt s t) (revL (run s t n x)) hv.1 hv.2.1 (by omega) hlt (by omega) (okB_revL _ (okB_run _ _ _ _)) (by
    rw [hl]
    refine Rec.congr (rec_turn s t n (bit s t x) hv.1 hv.2.1 hv.2.2.2.1 ho (hv.rec n)) fun k hk => ?_
    rw [at_revL _ _ (by rw [run_length]; exact hk), run_length, at_run _ _ _ _ _ (by omega), bt_toNat _ (Nat.mod_lt _ (by decide))]
    unfold bit
    omega)
  rwa [hl] at this
end SS
