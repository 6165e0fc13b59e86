/- Facts on worlds, blocks and endings, for every walk. -/
import Derived.WalkKit
import Derived.Lib.Hide
import Derived.Deep.QuietTactic
namespace Go.Proofs.Ytfkiecknobbjeaa
open Go.RowKit

/-- a block of three cells, as a register's variable has it -/
def B3 (w : World) (b : Nat) (T : TypeId) (x y z : Value) : Prop := w.heap[b]? = some (.cells #[x, y, z] T (0, 0))
theorem B3.facts {w : World} {b : Nat} {T : TypeId} {x y z : Value} (h : B3 w b T x y z) :
    w.cell? ⟨b, 0, none⟩ = some x ∧ w.cell? ⟨b, 1, none⟩ = some y ∧ w.cell? ⟨b, 2, none⟩ = some z ∧
    w.frozen? ⟨b, 0, none⟩ = false ∧ w.frozen? ⟨b, 1, none⟩ = false ∧ w.frozen? ⟨b, 2, none⟩ = false ∧ b < w.heap.size :=
  ⟨cell_of_row w b 0 _ T _ h, cell_of_row w b 1 _ T _ h, cell_of_row w b 2 _ T _ h, frozen_of_row w b 0 _ T h, frozen_of_row w b 1 _ T h, frozen_of_row w b 2 _ T h, (Array.getElem?_eq_some_iff.1 h).1⟩
theorem B3.new (w : World) (T : TypeId) (x y z : Value) : B3 (w.alloc (.cells #[x, y, z] T)) w.heap.size T x y z := heap_alloc_new w _
theorem B3.alloc {w : World} {b : Nat} {T : TypeId} {x y z : Value} (h : B3 w b T x y z) (o : Obj) : B3 (w.alloc o) b T x y z :=
  (Below.heap_alloc w o b (Array.getElem?_eq_some_iff.1 h).1).trans h
theorem B3.below {w w' : World} {B b : Nat} {T : TypeId} {x y z : Value} (h : B3 w b T x y z) (hb : Below B w w') (hB : b < B) : B3 w' b T x y z := (hb.block b hB).trans h
theorem B3.set2 {w : World} {b : Nat} {T : TypeId} {x y z : Value} (h : B3 w b T x y z) (u : Value) : B3 (w.setCell ⟨b, 2, none⟩ u) b T x y u := by
  have := heap_setCell_same w b 2 _ T u h
  simpa [B3] using this
theorem B3.set012 {w : World} {b : Nat} {T : TypeId} {x y z : Value} (h : B3 w b T x y z) (p q r : Value) :
    B3 (((w.setCell ⟨b, 0, none⟩ p).setCell ⟨b, 1, none⟩ q).setCell ⟨b, 2, none⟩ r) b T p q r := by
  have h0 := heap_setCell_same w b 0 _ T p h
  have h1 := heap_setCell_same _ b 1 _ T q h0
  have h2 := heap_setCell_same _ b 2 _ T r h1
  simpa [B3] using h2
theorem B3.other {w : World} {b : Nat} {T : TypeId} {x y z : Value} (h : B3 w b T x y z) {a : Addr} (hne : b ≠ a.block) (u : Value) : B3 (w.setCell a u) b T x y z :=
  (heap_setCell_other w a b u hne).trans h
theorem B3.drewN {w : World} {b : Nat} {T : TypeId} {x y z : Value} (h : B3 w b T x y z) (n : Nat) : B3 (w.drewN n) b T x y z := by
  induction n generalizing w with
  | zero => exact h
  | succ n ih => rw [Nat.add_comm, ← World.drewN_drewN]; exact ih h

end Go.Proofs.Ytfkiecknobbjeaa
