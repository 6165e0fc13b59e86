/- Contracts of the functions that list the maximal taps of a size. -/
import Derived.Test.YtgdnmhigjhfpkaaDoorWMax
import Derived.Test.YtgdnmhigjhfpkaaDoorWInts
namespace Go.Proofs.YtgdnmhigjhfpkaaDoor
open Go.RowKit SS
set_option maxRecDepth 100000
/-- the maximal taps below k -/
def mtaps (s k : Nat) : List Int := ((List.range k).filter fun t => decide (1 ≤ t) && mx s t).map fun t : Nat => (t : Int)
theorem mtaps_one (s : Nat) : mtaps s 1 = [] := by simp [mtaps, List.range_succ]
theorem mtaps_yes (s k : Nat) (h1 : 1 ≤ k) (h : mx s k = true) : mtaps s (k + 1) = mtaps s k ++ [(k : Int)] := by
  simp [mtaps, List.range_succ, List.filter_append, h, h1]
theorem mtaps_no (s k : Nat) (h : mx s k = false) : mtaps s (k + 1) = mtaps s k := by
  simp [mtaps, List.range_succ, List.filter_append, h]
theorem mtaps_length (s k : Nat) : (mtaps s k).length ≤ k := by
  unfold mtaps
  rw [List.length_map]
  exact Nat.le_trans (List.length_filter_le _ _) (by simp)
theorem OwnI.lit (w : World) : OwnI (w.alloc (.cells #[] 3)) w.heap.size (.slice (some ⟨w.heap.size, 0, none⟩) 0 0) [] :=
  World.ownsRow_lit w #[] 0 (Nat.le_refl _) (by decide) rfl
theorem OwnI.nil (w : World) (base : Nat) : OwnI w base (.slice none 0 0) [] := World.ownsRow_nil w base _ _
theorem OwnI.grow {w' : World} {base : Nat} {v : Value} {l : List Int} {x : Int} (h : w'.ownsRow base 3 1 v (l.length + 1) (l.map (Value.int .i64) ++ [.int .i64 x])) : OwnI w' base v (l ++ [x]) := by
  unfold OwnI
  rw [List.length_append, List.map_append]
  exact h
theorem own_row {w : World} {base : Nat} {v : Value} {l : List Int} (h : OwnI w base v l) : ∀ k, v.ownBlock = some k → base ≤ k := fun k hk => (World.ownsRow.lt h k hk).1
theorem new_one (w : World) (T : TypeId) (x : Value) : ∀ (j : Nat) (u : Value), [x][j]? = some u → (w.alloc (.cells #[x] T)).cell? ((⟨w.heap.size, 0, none⟩ : Addr).add j) = some u := by
  intro j u hu
  have hj : j = 0 := by
    have := (List.getElem?_eq_some_iff.1 hu).1
    simp at this
    exact this
  subst hj
  simp at hu
  subst hu
  simp [Addr.add]
theorem one_int (x : Int) : ∀ u ∈ [Value.int .i64 x], u.oneCell' = true := by
  intro u hu
  simp at hu
  subst hu
  rfl
theorem grown_below {w w1 w2 : World} {o : Obj} {row : Option Nat} (h : Below w.heap.size w w1) (hg : (w1.alloc o).grownBy w2 row) (hr : ∀ k, row = some k → w.heap.size ≤ k) : Below w.heap.size w w2 :=
  (h.alloc h.size o).grown hg (by have := h.size; simp; omega) hr
end Go.Proofs.YtgdnmhigjhfpkaaDoor
