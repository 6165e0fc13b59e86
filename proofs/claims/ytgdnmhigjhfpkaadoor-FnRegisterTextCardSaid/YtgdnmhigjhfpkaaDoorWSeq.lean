/- Contracts of the functions that ask for sequences, reckon modulo and shift. -/
import Derived.Test.YtgdnmhigjhfpkaaDoorWBits
import Derived.Test.YtgdnmhigjhfpkaaDoorPlainSeq
import Derived.Deep.QuietTactic
import Derived.BigQuiet
import Derived.WalkLawsBesides
import Derived.WalkSpells
namespace Go.Proofs.YtgdnmhigjhfpkaaDoor
open Go.RowKit SS
set_option maxRecDepth 100000

theorem quiet_same {P : Program} {f : FuncId} {args : Array Value} {w : World} {n : Nat} {v : Value}
    (h : Calls P f args (w.drewN n) fun e w' => e = .returned v ∧ w.drewN n = w') : Calls P f args (w.drewN n) fun e w'' => e = .returned v ∧ ∃ m, w'' = w.drewN m :=
  h.mono fun _ _ ⟨he, hm⟩ => ⟨he, n, hm.symm⟩
theorem below_drews {B : Nat} {a w : World} (h : Below B a w) (n : Nat) : Below B a (w.drewN n) := by
  induction n generalizing w with
  | zero => exact h
  | succ n ih => rw [Nat.add_comm, ← World.drewN_drewN]; exact ih h.drew

theorem tmod_cases (k : Int) (n : Nat) (h : 1 ≤ n) : (0 ≤ k.tmod n ∧ k.tmod n = k % (n : Int)) ∨ (k.tmod n < 0 ∧ k.tmod n + n = k % (n : Int)) := by
  have h1 := Int.emod_nonneg k (show (n : Int) ≠ 0 by omega)
  have h2 := Int.emod_lt_of_pos k (show (0 : Int) < n by omega)
  rw [Int.tmod_eq_emod]
  split
  · left; omega
  · rename_i hc
    right
    rw [Int.natAbs_natCast] at *
    omega
theorem cut_list (s : ByteArray) (k : Nat) (_h : k ≤ s.size) : (s.extract k s.size ++ s.extract 0 k) = ⟨(rot k s.data.toList).toArray⟩ := by
  apply ByteArray.ext
  apply Array.ext'
  simp [rot, ByteArray.data_extract, ByteArray.data_append]
  exact List.take_of_length_le (by simp)
end Go.Proofs.YtgdnmhigjhfpkaaDoor
