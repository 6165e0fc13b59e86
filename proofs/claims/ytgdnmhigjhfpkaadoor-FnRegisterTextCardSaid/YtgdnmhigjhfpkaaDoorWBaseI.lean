/- Facts on blocks of integers, for every walk. -/
import Derived.Test.YtgdnmhigjhfpkaaDoorWBase
namespace Go.Proofs.YtgdnmhigjhfpkaaDoor
open Go.RowKit
set_option maxRecDepth 100000
/-- a block of integers -/
def BI (w : World) (b : Nat) (T : TypeId) (l : List Int) : Prop := w.heap[b]? = some (.cells (l.map (Value.int .i64)).toArray T (0, 0))
section
variable {w : World} {b : Nat} {T : TypeId} {l : List Int}
theorem BI.lt (h : BI w b T l) : b < w.heap.size := (Array.getElem?_eq_some_iff.1 h).1
theorem BI.cell (h : BI w b T l) (i : Nat) (v : Int) (hi : l[i]? = some v) : w.cell? ⟨b, i, none⟩ = some (.int .i64 v) := by
  rw [cell_of_row w b i _ T _ h]
  simp [hi]
theorem BI.frozen (h : BI w b T l) (i : Nat) : w.frozen? ⟨b, i, none⟩ = false := frozen_of_row w b i _ T h
theorem BI.set (h : BI w b T l) (i : Nat) (c : Int) : BI (w.setCell ⟨b, i, none⟩ (.int .i64 c)) b T (l.set i c) := by
  have h' := heap_setCell_same w b i _ T (.int .i64 c) h
  unfold BI
  rw [h']
  simp
theorem BI.other (h : BI w b T l) {a : Addr} (hne : b ≠ a.block) (u : Value) : BI (w.setCell a u) b T l := (heap_setCell_other w a b u hne).trans h
theorem BI.alloc (h : BI w b T l) (o : Obj) : BI (w.alloc o) b T l := (Below.heap_alloc w o b h.lt).trans h
theorem BI.below {w' : World} {B : Nat} (h : BI w b T l) (hb : Below B w w') (hB : b < B) : BI w' b T l := (hb.block b hB).trans h
theorem BI.new (w : World) (T : TypeId) (n : Nat) : BI (w.alloc (.cells (madeCells #[.int .i64 0] n) T)) w.heap.size T (List.replicate n 0) := by
  have h := heap_alloc_new w (.cells (madeCells #[.int .i64 0] n) T)
  have e : madeCells #[.int .i64 0] n = ((List.replicate n (0 : Int)).map (Value.int .i64)).toArray := by
    apply Array.ext'
    rw [toList_madeCells_one]
    simp
  unfold BI
  rw [← e]
  exact h
end
/-- what a loop that fills a new row of integers has come to -/
def filI (f : Nat → Int) (n j : Nat) : List Int := (List.range j).map f ++ List.replicate (n - j) 0
theorem filI_zero (f : Nat → Int) (n : Nat) : filI f n 0 = List.replicate n 0 := by simp [filI]
theorem filI_all (f : Nat → Int) (n : Nat) : filI f n n = (List.range n).map f := by simp [filI]
theorem filI_length (f : Nat → Int) (n j : Nat) (h : j ≤ n) : (filI f n j).length = n := by simp [filI]; omega
theorem filI_at (f : Nat → Int) (n j : Nat) (h : j < n) : (filI f n j)[j]? = some 0 := by
  unfold filI
  rw [List.getElem?_append_right (by simp), List.length_map, List.length_range, Nat.sub_self, List.getElem?_replicate, if_pos (by omega)]
theorem filI_step (f : Nat → Int) (n j : Nat) (h : j < n) : (filI f n j).set j (f j) = filI f n (j + 1) := by
  unfold filI
  rw [List.set_append_right _ _ (by simp), List.range_succ, List.map_append, List.append_assoc]
  congr 1
  obtain ⟨k, hk⟩ : ∃ k, n - j = k + 1 := ⟨n - j - 1, by omega⟩
  rw [hk, show n - (j + 1) = k by omega]
  simp [List.replicate_succ]
end Go.Proofs.YtgdnmhigjhfpkaaDoor
