/- Facts on worlds, blocks and endings, for every walk. -/
import Derived.WalkKit
import Derived.Lib.Hide
import Derived.Deep.QuietTactic
namespace Go.Proofs.YtgdnmhigjhfpkaaDoor
open Go.RowKit
set_option maxRecDepth 100000

/-- a block of three cells, as a register's variable has it -/
def B3 (w : World) (b : Nat) (T : TypeId) (x y z : Value) : Prop := w.heap[b]? = some (.cells #[x, y, z] T (0, 0))
theorem B3.facts {w : World} {b : Nat} {T : TypeId} {x y z : Value} (h : B3 w b T x y z) :
    w.cell? ⟨b, 0, none⟩ = some x ∧ w.cell? ⟨b, 1, none⟩ = some y ∧ w.cell? ⟨b, 2, none⟩ = some z ∧
    w.frozen? ⟨b, 0, none⟩ = false ∧ w.frozen? ⟨b, 1, none⟩ = false ∧ w.frozen? ⟨b, 2, none⟩ = false ∧ b < w.heap.size :=
  ⟨cell_of_row w b 0 _ T _ h, cell_of_row w b 1 _ T _ h, cell_of_row w b 2 _ T _ h, frozen_of_row w b 0 _ T h, frozen_of_row w b 1 _ T h, frozen_of_row w b 2 _ T h, (Array.getElem?_eq_some_iff.1 h).1⟩
theorem B3.new (w : World) (T : TypeId) (x y z : Value) : B3 (w.alloc (.cells #[x, y, z] T)) w.heap.size T x y z := heap_alloc_new w _
theorem B3.alloc {w : World} {b : Nat} {T : TypeId} {x y z : Value} (h : B3 w b T x y z) (o : Obj) : B3 (w.alloc o) b T x y z :=
  (Below.heap_alloc w o b (Array.getElem?_eq_some_iff.1 h).1).trans h
theorem B3.below {w w' : World} {B b : Nat} {T : TypeId} {x y z : Value} (h : B3 w b T x y z) (hb : Below B w w') (hB : b < B) : B3 w' b T x y z := (hb.block b hB).trans h
theorem B3.set2 {w : World} {b : Nat} {T : TypeId} {x y z : Value} (h : B3 w b T x y z) (u : Value) : B3 (w.setCell ⟨b, 2, none⟩ u) b T x y u := by
  have := heap_setCell_same w b 2 _ T u h
  simpa [B3] using this
theorem B3.set012 {w : World} {b : Nat} {T : TypeId} {x y z : Value} (h : B3 w b T x y z) (p q r : Value) :
    B3 (((w.setCell ⟨b, 0, none⟩ p).setCell ⟨b, 1, none⟩ q).setCell ⟨b, 2, none⟩ r) b T p q r := by
  have h0 := heap_setCell_same w b 0 _ T p h
  have h1 := heap_setCell_same _ b 1 _ T q h0
  have h2 := heap_setCell_same _ b 2 _ T r h1
  simpa [B3] using h2
theorem B3.other {w : World} {b : Nat} {T : TypeId} {x y z : Value} (h : B3 w b T x y z) {a : Addr} (hne : b ≠ a.block) (u : Value) : B3 (w.setCell a u) b T x y z :=
  (heap_setCell_other w a b u hne).trans h
theorem B3.drewN {w : World} {b : Nat} {T : TypeId} {x y z : Value} (h : B3 w b T x y z) (n : Nat) : B3 (w.drewN n) b T x y z := by
  induction n generalizing w with
  | zero => exact h
  | succ n ih => rw [Nat.add_comm, ← World.drewN_drewN]; exact ih h

/-- a byte as a value -/
def bv (c : UInt8) : Value := .int .u8 c.toNat
/-- a block of bytes -/
def BB (w : World) (b : Nat) (T : TypeId) (l : List UInt8) : Prop := w.heap[b]? = some (.cells (l.map bv).toArray T (0, 0))
section
variable {w : World} {b : Nat} {T : TypeId} {l : List UInt8}
theorem BB.lt (h : BB w b T l) : b < w.heap.size := (Array.getElem?_eq_some_iff.1 h).1
theorem BB.cell (h : BB w b T l) (i : Nat) (hi : i < l.length) : w.cell? ⟨b, i, none⟩ = some (.int .u8 l[i].toNat) := by
  rw [cell_of_row w b i _ T _ h]
  simp [hi, bv]
theorem BB.frozen (h : BB w b T l) (i : Nat) : w.frozen? ⟨b, i, none⟩ = false := frozen_of_row w b i _ T h
theorem BB.new (w : World) (T : TypeId) (n : Nat) : BB (w.alloc (.cells (madeCells #[.int .u8 0] n) T)) w.heap.size T (List.replicate n 0) := by
  have h := heap_alloc_new w (.cells (madeCells #[.int .u8 0] n) T)
  have e : madeCells #[.int .u8 0] n = ((List.replicate n (0 : UInt8)).map bv).toArray := by
    apply Array.ext'
    rw [toList_madeCells_one]
    simp [bv]
  unfold BB
  rw [← e]
  exact h
theorem BB.set (h : BB w b T l) (i : Nat) (c : UInt8) : BB (w.setCell ⟨b, i, none⟩ (.int .u8 c.toNat)) b T (l.set i c) := by
  have h' := heap_setCell_same w b i _ T (.int .u8 c.toNat) h
  unfold BB
  rw [h']
  simp [bv]
theorem BB.other (h : BB w b T l) {a : Addr} (hne : b ≠ a.block) (u : Value) : BB (w.setCell a u) b T l := (heap_setCell_other w a b u hne).trans h
theorem BB.alloc (h : BB w b T l) (o : Obj) : BB (w.alloc o) b T l := (Below.heap_alloc w o b h.lt).trans h
theorem BB.below {w' : World} {B : Nat} (h : BB w b T l) (hb : Below B w w') (hB : b < B) : BB w' b T l := (hb.block b hB).trans h
theorem push_all (l : List UInt8) (a : ByteArray) : (l.map fun c => (c.toNat : Int)).foldl (fun r n => r.push (UInt8.ofNat n.toNat)) a = ⟨a.data ++ l.toArray⟩ := by
  induction l generalizing a with
  | nil => simp
  | cons c l ih =>
    simp only [List.map_cons, List.foldl_cons]
    rw [ih]
    have e : (a.push (UInt8.ofNat ((c.toNat : Nat) : Int).toNat)).data = a.data.push c := by simp [ByteArray.push]
    rw [e]
    congr 1
    simp
theorem BB.conv {P : Program} (h : BB w b T l) (src dst : TypeId) (n c : Nat) (hs : P.underlying src = some (.slice T)) (he : P.underlying T = some (.int .u8)) (hd : P.underlying dst = some .string) (hn : l.length = n) :
    (convert src dst (.slice (some ⟨b, 0, none⟩) n c)).run P w = .ok (.string ⟨l.toArray⟩) w := by
  rw [run_convert_bytes_string w src dst T _ _ _ hs he hd]
  have hl := run_loadCells_list (P := P) (w := w) ⟨b, 0, none⟩ (l.map bv) (fun j v hj => by
    have e : (⟨b, 0, none⟩ : Addr).add j = ⟨b, j, none⟩ := by unfold Addr.add; split <;> simp_all
    rw [e, cell_of_row w b j _ T _ h]
    simpa using hj)
  rw [List.length_map, hn] at hl
  have e : l.map bv = (l.map fun c => (c.toNat : Int)).map (Value.int .u8) := by simp [bv, Function.comp_def]
  rw [run_bytesToString w ⟨b, 0, none⟩ n c (l.map fun c => (c.toNat : Int)) (by rw [hl, e])]
  rw [push_all, show ByteArray.empty.data = #[] from rfl, Array.empty_append]
end
/-- what a loop that fills a new row of bytes has come to -/
def fil (f : Nat → UInt8) (n j : Nat) : List UInt8 := (List.range j).map f ++ List.replicate (n - j) 0
theorem fil_zero (f : Nat → UInt8) (n : Nat) : fil f n 0 = List.replicate n 0 := by simp [fil]
theorem fil_all (f : Nat → UInt8) (n : Nat) : fil f n n = (List.range n).map f := by simp [fil]
theorem fil_length (f : Nat → UInt8) (n j : Nat) (h : j ≤ n) : (fil f n j).length = n := by simp [fil]; omega
theorem fil_step (f : Nat → UInt8) (n j : Nat) (h : j < n) : (fil f n j).set j (f j) = fil f n (j + 1) := by
  unfold fil
  rw [List.set_append_right _ _ (by simp), List.range_succ, List.map_append, List.append_assoc]
  congr 1
  obtain ⟨k, hk⟩ : ∃ k, n - j = k + 1 := ⟨n - j - 1, by omega⟩
  rw [hk, show n - (j + 1) = k by omega]
  simp [List.replicate_succ]

end Go.Proofs.YtgdnmhigjhfpkaaDoor
