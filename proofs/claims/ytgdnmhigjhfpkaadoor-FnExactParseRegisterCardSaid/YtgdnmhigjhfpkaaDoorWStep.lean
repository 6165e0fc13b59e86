/- Contracts of one step forth and back, of sums, and of the comparison of registers. -/
import Derived.Test.YtgdnmhigjhfpkaaDoorWJump
namespace Go.Proofs.YtgdnmhigjhfpkaaDoor
open Go.RowKit SS
set_option maxRecDepth 100000
theorem shutBox3 {w w2 : World} {o p q : Obj} (hb : Below (((w.alloc o).alloc p).alloc q).heap.size (((w.alloc o).alloc p).alloc q) w2) : Below w.heap.size w w2 :=
  ((((Below.refl _ _).alloc (Nat.le_refl _) o).alloc (by simp) p).alloc (by simp; omega) q).trans (hb.mono (by simp; omega))
set_option maxHeartbeats 1000000 in
theorem eqReg_same (s t x : Int) (w : World) :
    Calls Tryd.prog 11 #[.agg #[.int .i64 s, .int .i64 t, .int .i64 x], .agg #[.int .i64 s, .int .i64 t, .int .i64 x]] w fun e w' => e = .returned (.bool true) ∧ Below w.heap.size w w' := by
  go_enter Tryd.func11, Tryd.ntmps11
  go_wp2
  go_ret
  exact ⟨rfl, shutBox2 (Below.refl _ _)⟩
end Go.Proofs.YtgdnmhigjhfpkaaDoor
