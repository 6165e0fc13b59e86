/- Rows of bytes that are made, and the byte of a bit. -/
import Derived.Test.YtibnlaphkmnhfaaWBase
import Derived.Test.YtibnlaphkmnhfaaWPar
import Derived.Deep.OwnRows
import Derived.StillTailTactics
namespace Go.Proofs.Ytibnlaphkmnhfaa
open Go.RowKit SS
set_option maxRecDepth 100000

theorem infoU8 : (Try.prog.info? 5).map (fun i => (i.zero, i.size, i.bytes)) = some (some (.int .u8 0), 1, 1) := by kernel_rfl
theorem makeBytes (n : Nat) (h : n ≤ 281474976710656) (w : World) : (Instr.makeSlice 22 (.int .i64 (n : Int)) (.int .i64 (n : Int))).run Try.prog w = .ok (.slice (some ⟨w.heap.size, 0, none⟩) n n) (w.alloc (.cells (madeCells #[.int .u8 0] n) 5)) :=
  run_make_row' 22 5 (.int .u8 0) 1 Try.underlying22 infoU8 rfl .i64 .i64 n (by omega) (by omega) w

theorem bitOf_impl (n : Nat) (w : World) (hn : n < 2) : Calls Try.prog 101 #[.int .i64 n] w fun e w' => e = .returned (.int .u8 (bt n).toNat) ∧ w = w' := by
  rcases (show n = 0 ∨ n = 1 by omega) with rfl | rfl
  · go_enter Try.func101, Try.ntmps101
    go_wp2
    go_ret
    exact ⟨rfl, rfl⟩
  · go_enter Try.func101, Try.ntmps101
    go_wp2
    go_ret
    exact ⟨rfl, rfl⟩
/-- the byte of a bit, as a number -/
def bv8 (n : Nat) : Int := if n = 0 then 48 else 49
theorem bitOf_any (n : Nat) (w : World) : Calls Try.prog 101 #[.int .i64 (n : Int)] w fun e w' => e = .returned (.int .u8 (bv8 n)) ∧ w = w' := by
  by_cases h : n = 0
  · subst h
    go_enter Try.func101, Try.ntmps101
    go_wp2
    go_ret
    exact ⟨rfl, rfl⟩
  · have hz : ((n : Int) == 0) = false := by rw [beq_eq_false_iff_ne]; omega
    have E : Hid (bv8 n = 49) := by show _ = _; unfold bv8; rw [if_neg h]
    clear h
    rw [E.out]
    go_enter Try.func101, Try.ntmps101
    go_wp2
    go_ret
    exact ⟨rfl, rfl⟩
theorem still_rest {P : Program} {id : Nat} {Q : Exit → Act → World → Prop} {a : Act} {w : World} {l : List Oper} (n : Nat) (hm : P.follows .mixedOrders = true) (hB : Region.lexTailB .any l.toArray n = true)
    (h : ∀ W, Hid (W = w.drew) → wpStill P l.toArray W (fun a' => wpList P l.toArray Q (l.drop n) a' W) (l.take n) a) : (Code.region id l.toArray true).wp P Q a w :=
  wp_region_still_tail n hm hB (h _ rfl)
theorem BB.fill {w : World} {b : Nat} {T : TypeId} {f : Nat → UInt8} {n j : Nat} (h : BB w b T (fil f n j)) (hj : j < n) (v : Int) (hv : ((f j).toNat : Int) = v) :
    BB (w.setCell ⟨b, j, none⟩ (.int .u8 v)) b T (fil f n (j + 1)) := by
  have h' := h.set j (f j)
  rw [fil_step f n j hj, hv] at h'
  exact h'
theorem BB.drew {w : World} {b : Nat} {T : TypeId} {l : List UInt8} (h : BB w b T l) : BB w.drew b T l := h
theorem fill_some {w : World} {b : Nat} {T : TypeId} {f : Nat → UInt8} {n j : Nat} (h : BB w b T (fil f n j)) (hj : j < n) : ∃ old, w.cell? ⟨b, j, none⟩ = some old :=
  ⟨_, h.cell j (by rw [fil_length _ _ _ (by omega)]; exact hj)⟩
end Go.Proofs.Ytibnlaphkmnhfaa
