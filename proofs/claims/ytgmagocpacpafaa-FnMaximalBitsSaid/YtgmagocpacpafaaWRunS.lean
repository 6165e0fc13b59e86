/- The bits of a register as a string. -/
import Derived.Test.YtgmagocpacpafaaWRun
import Derived.Test.YtgmagocpacpafaaWRot
import Derived.Test.YtgmagocpacpafaaPlainRun
namespace Go.Proofs.Ytgmagocpacpafaa
open Go.RowKit SS
set_option maxRecDepth 100000
/-- a string that is the bits of a register -/
def IsRun (q : ByteArray) (s t n x : Nat) : Prop := q = ⟨(run s t n x).toArray⟩
theorem IsRun.size {q : ByteArray} {s t n x : Nat} (h : IsRun q s t n x) : q.size = n := by
  rw [h, ← size_list]
  simp [run_length]
theorem IsRun.list {q : ByteArray} {s t n x : Nat} (h : IsRun q s t n x) : q.data.toList = run s t n x := by rw [h]
theorem IsRun.look {q : ByteArray} {s t n x : Nat} (h : IsRun q s t n x) (j : Nat) (hj : j < q.size) : q[j].toNat = 48 + it (nx s t) j x % 2 := by
  have e : at_ q.data.toList j = q[j] := by rw [at_eq _ _ (by rw [size_list]; exact hj), byte_at q j hj]
  rw [← e, h.list, at_run _ _ _ _ _ (by rw [← h.size]; exact hj), bt_toNat _ (Nat.mod_lt _ (by decide))]
theorem IsRun.rest {q p : ByteArray} {s t n m x k : Nat} (h : IsRun q s t n x) (hk : k ≤ n) (hm : m = n - k) (hp : IsRun p s t m (it (nx s t) k x)) : (p.toList == (q.extract k q.size).toList) = true := by
  apply ba_yes
  apply ByteArray.ext
  apply Array.ext'
  have e1 : p.data.toList = run s t m (it (nx s t) k x) := hp.list
  have e2 : (q.extract k q.size).data.toList = q.data.toList.drop k := by
    rw [ByteArray.data_extract, Array.toList_extract]
    rw [List.extract_eq_take_drop, List.take_of_length_le (by rw [List.length_drop, size_list]; exact Nat.le_refl _)]
  rw [e1, e2, h.list, run_drop _ _ _ _ _ hk, hm]
end Go.Proofs.Ytgmagocpacpafaa
