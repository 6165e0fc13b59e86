/- Contracts of the functions that look at all shifts of a sequence. -/
import Derived.Test.YtgdnmhigjhfpkaaDoorWSeq
import Derived.Lib.MinMaxS
import Derived.StillTailTactics
namespace Go.Proofs.YtgdnmhigjhfpkaaDoor
open Go.RowKit SS
set_option maxRecDepth 100000

/-- a sequence that begins later, as a string -/
def rotS (k : Nat) (s : ByteArray) : ByteArray := ⟨(rot k s.data.toList).toArray⟩
theorem cut_rotS (s : ByteArray) (k : Nat) (h : k ≤ s.size) : (s.extract k s.size ++ s.extract 0 k) = rotS k s := cut_list s k h
theorem rotS_zero (s : ByteArray) : rotS 0 s = s := by simp [rotS, rot_zero]
theorem rotS_all (s : ByteArray) : rotS s.size s = s := by
  unfold rotS
  rw [← size_list, rot_all]
theorem rotS_list (k : Nat) (s : ByteArray) : (rotS k s).data.toList = rot k s.data.toList := rfl
theorem rotS_size (k : Nat) (s : ByteArray) (h : k ≤ s.size) : (rotS k s).size = s.size := by
  rw [← size_list, ← size_list s, rotS_list, rot_length _ _ (by rw [size_list]; exact h)]
theorem ba_list (s : ByteArray) : s.toList = s.data.toList := Lib.toList_data s
theorem ba_ext {a b : ByteArray} (h : a.data.toList = b.data.toList) : a = b := ByteArray.ext (Array.ext' h)
theorem ba_yes {a b : ByteArray} (h : a = b) : (a.toList == b.toList) = true := by rw [h]; exact BEq.rfl
theorem ba_no {a b : ByteArray} (h : a ≠ b) : (a.toList == b.toList) = false := by
  rw [beq_eq_false_iff_ne]
  intro e
  rw [ba_list, ba_list] at e
  exact h (ba_ext e)
/-- the least period -/
structure LP (s : ByteArray) (K : Nat) : Prop where
  pos : 1 ≤ K
  le : K ≤ s.size
  eq : rotS K s = s
  ne : ∀ k, 1 ≤ k → k < K → rotS k s ≠ s
theorem least (P : Nat → Prop) (n : Nat) (h : P n) : ∃ m, m ≤ n ∧ P m ∧ ∀ j, j < m → ¬ P j := by
  induction n using Nat.strongRecOn with
  | ind n ih =>
    by_cases hx : ∃ j, j < n ∧ P j
    · obtain ⟨j, hj, hp⟩ := hx
      obtain ⟨m, hm, h1, h2⟩ := ih j hj hp
      exact ⟨m, by omega, h1, h2⟩
    · exact ⟨n, Nat.le_refl _, h, fun j hj hp => hx ⟨j, hj, hp⟩⟩
theorem LP.ex (s : ByteArray) (h : 1 ≤ s.size) : ∃ K, LP s K := by
  obtain ⟨m, hm, ⟨h1, h2⟩, h3⟩ := least (fun k => 1 ≤ k ∧ rotS k s = s) s.size ⟨h, rotS_all s⟩
  exact ⟨m, h1, hm, h2, fun k hk hl he => h3 k hl ⟨hk, he⟩⟩
/-- the first one of the first shifts -/
def frs (s : ByteArray) : Nat → ByteArray
  | 0 => s
  | k + 1 => Lib.minS (frs s k) (rotS k s)
theorem frs_one (s : ByteArray) : frs s 1 = s := by simp [frs, rotS_zero, Lib.minS]
end Go.Proofs.YtgdnmhigjhfpkaaDoor
