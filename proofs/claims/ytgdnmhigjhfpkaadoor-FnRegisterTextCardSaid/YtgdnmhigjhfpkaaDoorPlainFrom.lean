/- Plain facts on the state that bits make; no program is in sight. -/
import Derived.Test.YtgdnmhigjhfpkaaDoorPlainStr
namespace SS
/-- the number whose binary digits are bits, the first one the least -/
def frm : List UInt8 → Nat
  | [] => 0
  | c :: r => (c.toNat - 48) + 2 * frm r
theorem frm_lt (l : List UInt8) (h : okB l = true) : frm l < 2 ^ l.length := by
  induction l with
  | nil => simp [frm]
  | cons c r ih =>
    have h0 := okB_at (c :: r) h 0 (by simp)
    have hr : okB r = true := by unfold okB at h ⊢; rw [List.all_cons, Bool.and_eq_true] at h; exact h.2
    have := ih hr
    simp only [frm, List.length_cons, Nat.pow_succ]
    simp only [List.getElem_cons_zero] at h0
    omega
theorem frm_snoc (l : List UInt8) (c : UInt8) : frm (l ++ [c]) = frm l + (c.toNat - 48) * 2 ^ l.length := by
  induction l with
  | nil => simp [frm]
  | cons d r ih =>
    simp only [List.cons_append, frm, List.length_cons, ih, Nat.pow_succ]
    rw [Nat.mul_add, ← Nat.add_assoc, Nat.mul_comm 2 ((c.toNat - 48) * 2 ^ r.length), Nat.mul_assoc]
theorem okB_take (l : List UInt8) (k : Nat) (h : okB l = true) : okB (l.take k) = true := by
  unfold okB at h ⊢
  rw [List.all_eq_true] at h ⊢
  exact fun c hc => h c (List.mem_of_mem_take hc)
theorem okB_drop (l : List UInt8) (k : Nat) (h : okB l = true) : okB (l.drop k) = true := by
  unfold okB at h ⊢
  rw [List.all_eq_true] at h ⊢
  exact fun c hc => h c (List.mem_of_mem_drop hc)
theorem frm_take_lt (l : List UInt8) (k : Nat) (h : okB l = true) (hk : k ≤ l.length) : frm (l.take k) < 2 ^ k := by
  have := frm_lt (l.take k) (okB_take l k h)
  rwa [List.length_take, Nat.min_eq_left hk] at this
theorem frm_one (l : List UInt8) (k : Nat) (h : okB l = true) (hk : k < l.length) (hc : l[k].toNat = 49) : frm (l.take (k + 1)) = frm (l.take k) ||| 2 ^ k := by
  rw [List.take_succ_eq_append_getElem hk, frm_snoc, List.length_take, Nat.min_eq_left (by omega), hc]
  have := add_eq_or k (frm (l.take k)) 1 (frm_take_lt l k h (by omega))
  simpa using this
theorem frm_zero (l : List UInt8) (k : Nat) (hk : k < l.length) (hc : l[k].toNat = 48) : frm (l.take (k + 1)) = frm (l.take k) := by
  rw [List.take_succ_eq_append_getElem hk, frm_snoc, hc]
  simp
theorem frm_drop (l : List UInt8) (k : Nat) (hk : k < l.length) : frm (l.drop k) = (l[k].toNat - 48) + 2 * frm (l.drop (k + 1)) := by
  rw [List.drop_eq_getElem_cons hk, frm]
end SS
