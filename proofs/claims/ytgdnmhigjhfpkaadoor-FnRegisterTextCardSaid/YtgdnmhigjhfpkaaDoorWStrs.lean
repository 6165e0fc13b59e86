/- Contracts of the laws' own functions on strings of bits. -/
import Derived.Test.YtgdnmhigjhfpkaaDoorWRun
import Derived.Test.YtgdnmhigjhfpkaaDoorWFill
import Derived.Laws.OwnMore
import Derived.Deep.RegionHeld3
import Derived.Deep.AppendLies
namespace Go.Proofs.YtgdnmhigjhfpkaaDoor
open Go.RowKit SS
set_option maxRecDepth 100000
theorem infoB : (Tryd.prog.info? 5).map (fun i => (i.zero, i.size, i.bytes)) = some (some (.int .u8 0), 1, 1) := by kernel_rfl
/-- a slice, not nil, that owns letters, in a block from base on -/
def OwnB (w : World) (base : Nat) (v : Value) (l : List UInt8) : Prop := w.ownsRow base 5 1 v l.length (l.map bv) ∧ v ≠ .slice none 0 0
section
variable {w w' : World} {base : Nat} {v : Value} {l : List UInt8}
theorem OwnB.form (h : OwnB w base v l) : ∃ g cap, v = .slice (some ⟨g, 0, none⟩) l.length cap ∧ base ≤ g ∧ g < w.heap.size ∧ ∀ j x, l[j]? = some x → w.cell? ⟨g, j, none⟩ = some (bv x) := by
  rcases h.1.2 with ⟨rfl, _⟩ | ⟨g, cap, cur, rfl, hb, hg, hn, hc, hs, ht⟩
  · exact absurd rfl h.2
  · refine ⟨g, cap, rfl, hb, (Array.getElem?_eq_some_iff.1 hg).1, fun j x hx => ?_⟩
    rw [cell_of_row w g j cur _ _ hg]
    have hj : j < l.length := (List.getElem?_eq_some_iff.1 hx).1
    have : (cur.toList.take (l.length * 1))[j]? = some (bv x) := by rw [ht]; simp [hx]
    rw [List.getElem?_take, if_pos (by omega)] at this
    simpa using this
theorem OwnB.conv {P : Program} (h : OwnB w base v l) (src dst T : TypeId) (hs : P.underlying src = some (.slice T)) (he : P.underlying T = some (.int .u8)) (hd : P.underlying dst = some .string) :
    (convert src dst v).run P w = .ok (.string ⟨l.toArray⟩) w := by
  obtain ⟨g, cap, rfl, _, _, hc⟩ := h.form
  rw [run_convert_bytes_string w src dst T _ _ _ hs he hd]
  have hl := run_loadCells_list (P := P) (w := w) ⟨g, 0, none⟩ (l.map bv) (fun j v hj => by
    have e : (⟨g, 0, none⟩ : Addr).add j = ⟨g, j, none⟩ := by unfold Addr.add; split <;> simp_all
    rw [e]
    simp at hj
    obtain ⟨x, hx, rfl⟩ := hj
    exact hc j x hx)
  rw [List.length_map] at hl
  have e : l.map bv = (l.map fun c => (c.toNat : Int)).map (Value.int .u8) := by simp [bv, Function.comp_def]
  rw [run_bytesToString w ⟨g, 0, none⟩ l.length cap (l.map fun c => (c.toNat : Int)) (by rw [hl, e])]
  rw [push_all, show ByteArray.empty.data = #[] from rfl, Array.empty_append]
theorem OwnB.grow {c : UInt8} (h : w'.ownsRow base 5 1 v (l.length + 1) (l.map bv ++ [.int .u8 (c.toNat : Int)])) (hv : v ≠ .slice none 0 0) : OwnB w' base v (l ++ [c]) := by
  refine ⟨?_, hv⟩
  rw [List.length_append, List.map_append]
  exact h
theorem OwnB.grow' {c : UInt8} {x : Int} (h : w'.ownsRow base 5 1 v (l.length + 1) (l.map bv ++ [.int .u8 x])) (hx : (c.toNat : Int) = x) (hv : v ≠ .slice none 0 0) : OwnB w' base v (l ++ [c]) := by
  subst hx
  exact OwnB.grow h hv
theorem OwnB.made (w : World) (n : Nat) (hn : n ≤ maxLen) : OwnB (w.alloc (.cells (madeCells #[.int .u8 0] n) 5)) w.heap.size (.slice (some ⟨w.heap.size, 0, none⟩) 0 n) [] :=
  ⟨World.ownsRow_made w _ n (Nat.le_refl _) hn (by rw [← Array.length_toList, toList_madeCells_one]; simp), by simp⟩
theorem OwnB.row (h : OwnB w base v l) : ∀ k, v.ownBlock = some k → base ≤ k := fun k hk => (World.ownsRow.lt h.1 k hk).1
end
theorem new_byte (w : World) (T : TypeId) (x : Value) : ∀ (j : Nat) (u : Value), [x][j]? = some u → (w.alloc (.cells #[x] T)).cell? ((⟨w.heap.size, 0, none⟩ : Addr).add j) = some u := by
  intro j u hu
  have hj : j = 0 := by
    have := (List.getElem?_eq_some_iff.1 hu).1
    simp at this
    exact this
  subst hj
  simp at hu
  subst hu
  simp [Addr.add]
theorem byte_one (x : Int) : ∀ u ∈ [Value.int .u8 x], u.oneCell' = true := by
  intro u hu
  simp at hu
  subst hu
  rfl
theorem grownU {w w1 w2 : World} {o : Obj} {row : Option Nat} (h : Below w.heap.size w w1) (hg : (w1.alloc o).grownBy w2 row) (hr : ∀ k, row = some k → w.heap.size ≤ k) : Below w.heap.size w w2 :=
  (h.alloc h.size o).grown hg (by have := h.size; simp; omega) hr
theorem make0 (n : Nat) (h : n ≤ 1000000) (w : World) : (Instr.makeSlice 32 (.int .i64 0) (.int .i64 (n : Int))).run Tryd.prog w = .ok (.slice (some ⟨w.heap.size, 0, none⟩) 0 n) (w.alloc (.cells (madeCells #[.int .u8 0] n) 5)) := by
  obtain ⟨i0, hi, hz0, hz1, hz2⟩ := info_parts infoB
  have hr := run_make (P := Tryd.prog) w 32 5 i0 (.int .u8 0) Tryd.underlying32 hi hz0 .i64 .i64 0 (n : Int) (Int.le_refl _) (by omega) (by rw [hz2]; omega) (by omega)
  simp only [Int.toNat_zero, Int.toNat_natCast] at hr
  rw [hr, hz1, Nat.mul_one]
  rfl
end Go.Proofs.YtgdnmhigjhfpkaaDoor
