/- Contracts of the functions that repeat letters, and that invert. -/
import Derived.Test.YtgdnmhigjhfpkaaDoorWPair
namespace Go.Proofs.YtgdnmhigjhfpkaaDoor
open Go.RowKit SS
set_option maxRecDepth 100000

/-- a string repeated -/
def repS (n : Nat) (s : ByteArray) : ByteArray := bs (rep n s.data.toList)
theorem repS_list (n : Nat) (s : ByteArray) : (repS n s).data.toList = rep n s.data.toList := rfl
theorem repS_add (p q : Nat) (s : ByteArray) : repS p s ++ repS q s = repS (p + q) s := by
  apply ba_ext
  rw [repS_list, ← rep_add, ← repS_list, ← repS_list]
  simp [ByteArray.data_append]
theorem repS_zero (s : ByteArray) : repS 0 s = ⟨#[]⟩ := rfl
theorem repS_one (s : ByteArray) : repS 1 s = s := by unfold repS; rw [rep_one]; rfl
theorem repS_size (n : Nat) (s : ByteArray) : (repS n s).size = n * s.size := by unfold repS; rw [bs_size, rep_length, size_list]
/-- the least shift, or none -/
theorem sb_ex (a b : ByteArray) : ∃ (K : Nat) (v : Bool) (r : Int), K ≤ a.size ∧ (∀ k, k < K → rotS k a ≠ b) ∧ ((K < a.size ∧ rotS K a = b ∧ r = K ∧ v = true) ∨ (K = a.size ∧ r = 0 ∧ v = false)) := by
  by_cases h : ∃ k, k < a.size ∧ rotS k a = b
  · obtain ⟨k, hk, he⟩ := h
    obtain ⟨m, hm, h1, h2⟩ := least (fun k => rotS k a = b) k he
    exact ⟨m, true, m, by omega, h2, .inl ⟨by omega, h1, rfl, rfl⟩⟩
  · exact ⟨a.size, false, 0, Nat.le_refl _, fun k hk he => h ⟨k, hk, he⟩, .inr ⟨rfl, rfl, rfl⟩⟩
end Go.Proofs.YtgdnmhigjhfpkaaDoor
