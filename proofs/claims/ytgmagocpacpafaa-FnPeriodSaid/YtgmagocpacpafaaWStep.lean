/- Contracts of one step forth and back, of sums, and of the comparison of registers. -/
import Derived.Test.YtgmagocpacpafaaWJump
namespace Go.Proofs.Ytgmagocpacpafaa
open Go.RowKit SS
set_option maxRecDepth 100000
theorem shutBox3 {w w2 : World} {o p q : Obj} (hb : Below (((w.alloc o).alloc p).alloc q).heap.size (((w.alloc o).alloc p).alloc q) w2) : Below w.heap.size w w2 :=
  ((((Below.refl _ _).alloc (Nat.le_refl _) o).alloc (by simp) p).alloc (by simp; omega) q).trans (hb.mono (by simp; omega))
set_option maxHeartbeats 1000000 in
theorem step_yes (s t x : Nat) (w : World) (hv : VR s t x) :
    Calls Try.prog 22 #[.agg #[.int .i64 s, .int .i64 t, .int .i64 x]] w fun e w' => e = .returned (.tuple #[.agg #[.int .i64 s, .int .i64 t, .int .i64 (nx s t x)], .bool true]) ∧ Below w.heap.size w w' := by
  go_enter Try.func22, Try.ntmps22
  go_wp2_with fail
  refine (jump_pos s t x 1 _ hv (by decide)).mono ?_
  rintro e w1 ⟨rfl, hb1⟩
  have b1 := ((B3.new w 24 (.int .i64 s) (.int .i64 t) (.int .i64 x)).alloc (.cells #[.int .i64 0, .int .i64 0, .int .i64 0] 24)).below hb1 (by simp; omega)
  have b2 := (B3.new (w.alloc (.cells #[.int .i64 s, .int .i64 t, .int .i64 x] 24)) 24 (.int .i64 0) (.int .i64 0) (.int .i64 0)).below hb1 (by simp)
  rw [World.size_alloc] at b2
  have hw1 : Below w.heap.size w w1 := shutBox2 hb1
  clear hb1
  obtain ⟨c0, c1, c2, f0, f1, f2, hz⟩ := b1.facts
  obtain ⟨c3, c4, c5, f3, f4, f5, hz3⟩ := b2.facts
  go_wp2
  refine bodyPost_ret (v := .tuple #[.agg #[.int .i64 s, .int .i64 t, .int .i64 (nx s t x)], .bool true]) (by simp [results, Try.results22, go_sem, c3, c4, c5, it]) rfl ⟨rfl, ?_⟩
  exact ((hw1.setCell (by simp <;> omega) _).setCell (by simp <;> omega) _).setCell (by simp <;> omega) _
set_option maxHeartbeats 1000000 in
theorem step_no (s t x : Int) (w : World) (hr : rv s t x = false) :
    Calls Try.prog 22 #[.agg #[.int .i64 s, .int .i64 t, .int .i64 x]] w fun e w' => e = .returned (.tuple #[.agg #[.int .i64 0, .int .i64 0, .int .i64 0], .bool false]) ∧ Below w.heap.size w w' := by
  go_enter Try.func22, Try.ntmps22
  go_wp2_with fail
  refine (jump_no s t x 1 _ (by simp [jv, hr])).mono ?_
  rintro e w1 ⟨rfl, hb1⟩
  have b1 := ((B3.new w 24 (.int .i64 s) (.int .i64 t) (.int .i64 x)).alloc (.cells #[.int .i64 0, .int .i64 0, .int .i64 0] 24)).below hb1 (by simp; omega)
  have b2 := (B3.new (w.alloc (.cells #[.int .i64 s, .int .i64 t, .int .i64 x] 24)) 24 (.int .i64 0) (.int .i64 0) (.int .i64 0)).below hb1 (by simp)
  rw [World.size_alloc] at b2
  have hw1 : Below w.heap.size w w1 := shutBox2 hb1
  clear hb1
  obtain ⟨c0, c1, c2, f0, f1, f2, hz⟩ := b1.facts
  obtain ⟨c3, c4, c5, f3, f4, f5, hz3⟩ := b2.facts
  go_wp2
  refine bodyPost_ret (v := .tuple #[.agg #[.int .i64 0, .int .i64 0, .int .i64 0], .bool false]) (by simp [results, Try.results22, go_sem, c3, c4, c5]) rfl ⟨rfl, ?_⟩
  exact ((hw1.setCell (by simp <;> omega) _).setCell (by simp <;> omega) _).setCell (by simp <;> omega) _
end Go.Proofs.Ytgmagocpacpafaa
