/- Rows of bytes that are made, and the byte of a bit. -/
import Derived.Test.YtgdnmhigjhfpkaaDoorWBase
import Derived.Test.YtgdnmhigjhfpkaaDoorWPar
import Derived.Deep.OwnRows
import Derived.StillTailTactics
namespace Go.Proofs.YtgdnmhigjhfpkaaDoor
open Go.RowKit SS
set_option maxRecDepth 100000

theorem infoU8 : (Tryd.prog.info? 5).map (fun i => (i.zero, i.size, i.bytes)) = some (some (.int .u8 0), 1, 1) := by kernel_rfl
theorem makeBytes (n : Nat) (h : n ≤ 281474976710656) (w : World) : (Instr.makeSlice 32 (.int .i64 (n : Int)) (.int .i64 (n : Int))).run Tryd.prog w = .ok (.slice (some ⟨w.heap.size, 0, none⟩) n n) (w.alloc (.cells (madeCells #[.int .u8 0] n) 5)) :=
  run_make_row' 32 5 (.int .u8 0) 1 Tryd.underlying32 infoU8 rfl .i64 .i64 n (by omega) (by omega) w

/-- the byte of a bit, as a number -/
def bv8 (n : Nat) : Int := if n = 0 then 48 else 49
theorem still_rest {P : Program} {id : Nat} {Q : Exit → Act → World → Prop} {a : Act} {w : World} {l : List Oper} (n : Nat) (hm : P.follows .mixedOrders = true) (hB : Region.lexTailB .any l.toArray n = true)
    (h : ∀ W, Hid (W = w.drew) → wpStill P l.toArray W (fun a' => wpList P l.toArray Q (l.drop n) a' W) (l.take n) a) : (Code.region id l.toArray true).wp P Q a w :=
  wp_region_still_tail n hm hB (h _ rfl)
theorem BB.fill {w : World} {b : Nat} {T : TypeId} {f : Nat → UInt8} {n j : Nat} (h : BB w b T (fil f n j)) (hj : j < n) (v : Int) (hv : ((f j).toNat : Int) = v) :
    BB (w.setCell ⟨b, j, none⟩ (.int .u8 v)) b T (fil f n (j + 1)) := by
  have h' := h.set j (f j)
  rw [fil_step f n j hj, hv] at h'
  exact h'
theorem BB.drew {w : World} {b : Nat} {T : TypeId} {l : List UInt8} (h : BB w b T l) : BB w.drew b T l := h
theorem fill_some {w : World} {b : Nat} {T : TypeId} {f : Nat → UInt8} {n j : Nat} (h : BB w b T (fil f n j)) (hj : j < n) : ∃ old, w.cell? ⟨b, j, none⟩ = some old :=
  ⟨_, h.cell j (by rw [fil_length _ _ _ (by omega)]; exact hj)⟩
end Go.Proofs.YtgdnmhigjhfpkaaDoor
