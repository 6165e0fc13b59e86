/- Blocks of truth values, and which states a walk has visited. -/
import Derived.Test.YtibnlaphkmnhfaaChecked
import Derived.Test.YtibnlaphkmnhfaaWBaseI
import Derived.Test.YtibnlaphkmnhfaaPlainOrb
import Derived.Deep.OwnRows
namespace Go.Proofs.Ytibnlaphkmnhfaa
open Go.RowKit SS
set_option maxRecDepth 100000
def BO (w : World) (b : Nat) (T : TypeId) (l : List Bool) : Prop := w.heap[b]? = some (.cells (l.map Value.bool).toArray T (0, 0))
section
variable {w : World} {b : Nat} {T : TypeId} {l : List Bool}
theorem BO.lt (h : BO w b T l) : b < w.heap.size := (Array.getElem?_eq_some_iff.1 h).1
theorem BO.cell (h : BO w b T l) (i : Nat) (v : Bool) (hi : l[i]? = some v) : w.cell? ⟨b, i, none⟩ = some (.bool v) := by
  rw [cell_of_row w b i _ T _ h]
  simp [hi]
theorem BO.frozen (h : BO w b T l) (i : Nat) : w.frozen? ⟨b, i, none⟩ = false := frozen_of_row w b i _ T h
theorem BO.set (h : BO w b T l) (i : Nat) (c : Bool) : BO (w.setCell ⟨b, i, none⟩ (.bool c)) b T (l.set i c) := by
  have h' := heap_setCell_same w b i _ T (.bool c) h
  unfold BO
  rw [h']
  simp
theorem BO.alloc (h : BO w b T l) (o : Obj) : BO (w.alloc o) b T l := (Below.heap_alloc w o b h.lt).trans h
theorem BO.belowS {w' : World} (h : BO w b T l) (hb : Below w.heap.size w w') : BO w' b T l := (hb.block b h.lt).trans h
theorem BO.other (h : BO w b T l) {a : Addr} (hne : b ≠ a.block) (u : Value) : BO (w.setCell a u) b T l := (heap_setCell_other w a b u hne).trans h
theorem BO.new (w : World) (T : TypeId) (n : Nat) : BO (w.alloc (.cells (madeCells #[.bool false] n) T)) w.heap.size T (List.replicate n false) := by
  have h := heap_alloc_new w (.cells (madeCells #[.bool false] n) T)
  have e : madeCells #[.bool false] n = ((List.replicate n false).map Value.bool).toArray := by
    apply Array.ext'
    rw [toList_madeCells_one]
    simp
  unfold BO
  rw [← e]
  exact h
end
/-- the states that a walk has visited -/
def seenL (m : Nat) (f : Nat → Nat) (x : Nat) : Nat → List Bool
  | 0 => List.replicate m false
  | n + 1 => (seenL m f x n).set (it f n x) true
theorem seenL_length (m : Nat) (f : Nat → Nat) (x n : Nat) : (seenL m f x n).length = m := by
  induction n with
  | zero => simp [seenL]
  | succ n ih => simp [seenL, ih]
theorem seenL_no (m : Nat) (f : Nat → Nat) (x n y : Nat) (hy : y < m) (h : ∀ i, i < n → it f i x ≠ y) : (seenL m f x n)[y]? = some false := by
  induction n with
  | zero => simp [seenL, hy]
  | succ n ih =>
    rw [seenL, List.getElem?_set_ne (h n (by omega))]
    exact ih fun i hi => h i (by omega)
end Go.Proofs.Ytibnlaphkmnhfaa
