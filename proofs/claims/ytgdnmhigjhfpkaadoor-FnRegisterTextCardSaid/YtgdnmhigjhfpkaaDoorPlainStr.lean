/- Plain facts on strings of bits; no program is in sight. -/
import Derived.Test.YtgdnmhigjhfpkaaDoorPlainReg
namespace SS
/-- a letter of a bit -/
def isBit (c : UInt8) : Bool := c == 48 || c == 49
/-- letters of bits alone -/
def okB (l : List UInt8) : Bool := l.all isBit
/-- bits -/
def bitsB (l : List UInt8) : Bool := decide (l.length ≤ 600) && okB l
theorem okB_nil : okB [] = true := rfl
theorem okB_take_succ (l : List UInt8) (k : Nat) (h : k < l.length) : okB (l.take (k + 1)) = (okB (l.take k) && isBit l[k]) := by
  unfold okB
  rw [List.take_succ_eq_append_getElem h, List.all_append]
  simp
theorem okB_false (l : List UInt8) (k : Nat) (h : k < l.length) (hb : isBit l[k] = false) : okB l = false := by
  unfold okB
  rw [List.all_eq_false]
  exact ⟨l[k], List.getElem_mem h, by simp [hb]⟩
theorem isBit_yes (c : UInt8) (h : c.toNat = 48 ∨ c.toNat = 49) : isBit c = true := by
  unfold isBit
  rcases h with h | h
  · have : c = 48 := UInt8.toNat_inj.1 h
    simp [this]
  · have : c = 49 := UInt8.toNat_inj.1 h
    simp [this]
theorem isBit_no (c : UInt8) (h : c.toNat ≠ 48) (h' : c.toNat ≠ 49) : isBit c = false := by
  unfold isBit
  have h1 : c ≠ 48 := fun e => h (by rw [e]; rfl)
  have h2 : c ≠ 49 := fun e => h' (by rw [e]; rfl)
  simp [h1, h2]
theorem okB_at (l : List UInt8) (h : okB l = true) (k : Nat) (hk : k < l.length) : l[k].toNat = 48 ∨ l[k].toNat = 49 := by
  unfold okB at h
  rw [List.all_eq_true] at h
  have := h l[k] (List.getElem_mem hk)
  unfold isBit at this
  rw [Bool.or_eq_true, beq_iff_eq, beq_iff_eq] at this
  rcases this with e | e
  · left; rw [e]; rfl
  · right; rw [e]; rfl
end SS
