/- Contracts of one step forth and back, of sums, and of the comparison of registers. -/
import Derived.Test.YtmlmbinpkmdjjaaWJump
namespace Go.Proofs.Ytmlmbinpkmdjjaa
open Go.RowKit SS
theorem shutBox3 {w w2 : World} {o p q : Obj} (hb : Below (((w.alloc o).alloc p).alloc q).heap.size (((w.alloc o).alloc p).alloc q) w2) : Below w.heap.size w w2 :=
  ((((Below.refl _ _).alloc (Nat.le_refl _) o).alloc (by simp) p).alloc (by simp; omega) q).trans (hb.mono (by simp; omega))
set_option maxHeartbeats 1000000 in
theorem step_yes (s t x : Nat) (w : World) (hv : VR s t x) :
    Calls Try.prog 38 #[.agg #[.int .i64 s, .int .i64 t, .int .i64 x]] w fun e w' => e = .returned (.tuple #[.agg #[.int .i64 s, .int .i64 t, .int .i64 (nx s t x)], .bool true]) ∧ Below w.heap.size w w' := by
  go_enter Try.func38, Try.ntmps38
  go_wp2_with fail
  refine (jump_pos s t x 1 _ hv (by decide)).mono ?_
  rintro e w1 ⟨rfl, hb1⟩
  have b1 := ((B3.new w 35 (.int .i64 s) (.int .i64 t) (.int .i64 x)).alloc (.cells #[.int .i64 0, .int .i64 0, .int .i64 0] 35)).below hb1 (by simp; omega)
  have b2 := (B3.new (w.alloc (.cells #[.int .i64 s, .int .i64 t, .int .i64 x] 35)) 35 (.int .i64 0) (.int .i64 0) (.int .i64 0)).below hb1 (by simp)
  rw [World.size_alloc] at b2
  have hw1 : Below w.heap.size w w1 := shutBox2 hb1
  clear hb1
  obtain ⟨c0, c1, c2, f0, f1, f2, hz⟩ := b1.facts
  obtain ⟨c3, c4, c5, f3, f4, f5, hz3⟩ := b2.facts
  go_wp2
  refine bodyPost_ret (v := .tuple #[.agg #[.int .i64 s, .int .i64 t, .int .i64 (nx s t x)], .bool true]) (by simp [results, Try.results38, go_sem, c3, c4, c5, it]) rfl ⟨rfl, ?_⟩
  exact ((hw1.setCell (by simp <;> omega) _).setCell (by simp <;> omega) _).setCell (by simp <;> omega) _
set_option maxHeartbeats 1000000 in
theorem step_no (s t x : Int) (w : World) (hr : rv s t x = false) :
    Calls Try.prog 38 #[.agg #[.int .i64 s, .int .i64 t, .int .i64 x]] w fun e w' => e = .returned (.tuple #[.agg #[.int .i64 0, .int .i64 0, .int .i64 0], .bool false]) ∧ Below w.heap.size w w' := by
  go_enter Try.func38, Try.ntmps38
  go_wp2_with fail
  refine (jump_no s t x 1 _ (by simp [jv, hr])).mono ?_
  rintro e w1 ⟨rfl, hb1⟩
  have b1 := ((B3.new w 35 (.int .i64 s) (.int .i64 t) (.int .i64 x)).alloc (.cells #[.int .i64 0, .int .i64 0, .int .i64 0] 35)).below hb1 (by simp; omega)
  have b2 := (B3.new (w.alloc (.cells #[.int .i64 s, .int .i64 t, .int .i64 x] 35)) 35 (.int .i64 0) (.int .i64 0) (.int .i64 0)).below hb1 (by simp)
  rw [World.size_alloc] at b2
  have hw1 : Below w.heap.size w w1 := shutBox2 hb1
  clear hb1
  obtain ⟨c0, c1, c2, f0, f1, f2, hz⟩ := b1.facts
  obtain ⟨c3, c4, c5, f3, f4, f5, hz3⟩ := b2.facts
  go_wp2
  refine bodyPost_ret (v := .tuple #[.agg #[.int .i64 0, .int .i64 0, .int .i64 0], .bool false]) (by simp [results, Try.results38, go_sem, c3, c4, c5]) rfl ⟨rfl, ?_⟩
  exact ((hw1.setCell (by simp <;> omega) _).setCell (by simp <;> omega) _).setCell (by simp <;> omega) _
set_option maxHeartbeats 1000000 in
theorem back_yes (s t x : Nat) (w : World) (hv : VR s t x) (ho : t % 2 = 1) :
    Calls Try.prog 35 #[.agg #[.int .i64 s, .int .i64 t, .int .i64 x]] w fun e w' => e = .returned (.tuple #[.agg #[.int .i64 s, .int .i64 t, .int .i64 (bk s t x)], .bool true]) ∧ Below w.heap.size w w' := by
  go_enter Try.func35, Try.ntmps35
  go_wp2_with fail
  refine (jump_neg s t x 1 _ hv (by decide) (by decide) ho).mono ?_
  rintro e w1 ⟨rfl, hb1⟩
  have b1 := ((B3.new w 35 (.int .i64 s) (.int .i64 t) (.int .i64 x)).alloc (.cells #[.int .i64 0, .int .i64 0, .int .i64 0] 35)).below hb1 (by simp; omega)
  have b2 := (B3.new (w.alloc (.cells #[.int .i64 s, .int .i64 t, .int .i64 x] 35)) 35 (.int .i64 0) (.int .i64 0) (.int .i64 0)).below hb1 (by simp)
  rw [World.size_alloc] at b2
  have hw1 : Below w.heap.size w w1 := shutBox2 hb1
  clear hb1
  obtain ⟨c0, c1, c2, f0, f1, f2, hz⟩ := b1.facts
  obtain ⟨c3, c4, c5, f3, f4, f5, hz3⟩ := b2.facts
  go_wp2
  refine bodyPost_ret (v := .tuple #[.agg #[.int .i64 s, .int .i64 t, .int .i64 (bk s t x)], .bool true]) (by simp [results, Try.results35, go_sem, c3, c4, c5, it]) rfl ⟨rfl, ?_⟩
  exact ((hw1.setCell (by simp <;> omega) _).setCell (by simp <;> omega) _).setCell (by simp <;> omega) _
set_option maxHeartbeats 1000000 in
theorem back_no (s t x : Int) (w : World) (hr : (rv s t x && decide (t % 2 = 1)) = false) :
    Calls Try.prog 35 #[.agg #[.int .i64 s, .int .i64 t, .int .i64 x]] w fun e w' => e = .returned (.tuple #[.agg #[.int .i64 0, .int .i64 0, .int .i64 0], .bool false]) ∧ Below w.heap.size w w' := by
  have hj : jv s t x (-1) = false := by simpa [jv] using hr
  clear hr
  go_enter Try.func35, Try.ntmps35
  go_wp2_with fail
  refine (jump_no s t x (-1) _ hj).mono ?_
  rintro e w1 ⟨rfl, hb1⟩
  have b1 := ((B3.new w 35 (.int .i64 s) (.int .i64 t) (.int .i64 x)).alloc (.cells #[.int .i64 0, .int .i64 0, .int .i64 0] 35)).below hb1 (by simp; omega)
  have b2 := (B3.new (w.alloc (.cells #[.int .i64 s, .int .i64 t, .int .i64 x] 35)) 35 (.int .i64 0) (.int .i64 0) (.int .i64 0)).below hb1 (by simp)
  rw [World.size_alloc] at b2
  have hw1 : Below w.heap.size w w1 := shutBox2 hb1
  clear hb1
  obtain ⟨c0, c1, c2, f0, f1, f2, hz⟩ := b1.facts
  obtain ⟨c3, c4, c5, f3, f4, f5, hz3⟩ := b2.facts
  go_wp2
  refine bodyPost_ret (v := .tuple #[.agg #[.int .i64 0, .int .i64 0, .int .i64 0], .bool false]) (by simp [results, Try.results35, go_sem, c3, c4, c5]) rfl ⟨rfl, ?_⟩
  exact ((hw1.setCell (by simp <;> omega) _).setCell (by simp <;> omega) _).setCell (by simp <;> omega) _
set_option maxHeartbeats 1000000 in
theorem sback_yes (s t x : Nat) (w : World) (hv : VR s t x) (ho : t % 2 = 1) :
    Calls Try.prog 36 #[.agg #[.int .i64 s, .int .i64 t, .int .i64 x]] w fun e w' => e = .returned (.tuple #[.agg #[.int .i64 s, .int .i64 t, .int .i64 (bk s t x)], .bool true]) ∧ Below w.heap.size w w' := by
  have hr := rv_mk hv
  have HV := Lib.hid hv
  clear hv
  have ht : (t : Int) % 2 = 1 := by omega
  clear ho
  go_enter Try.func36, Try.ntmps36
  go_wp2_with fail
  refine (valid_spec _ _ _ _).mono ?_
  rintro e w1 ⟨rfl, hb1⟩
  have b1 := ((B3.new w 35 (.int .i64 s) (.int .i64 t) (.int .i64 x)).alloc (.cells #[.int .i64 0, .int .i64 0, .int .i64 0] 35)).below hb1 (by simp; omega)
  have b2 := (B3.new (w.alloc (.cells #[.int .i64 s, .int .i64 t, .int .i64 x] 35)) 35 (.int .i64 0) (.int .i64 0) (.int .i64 0)).below hb1 (by simp)
  rw [World.size_alloc] at b2
  have hw1 : Below w.heap.size w w1 := shutBox2 hb1
  clear hb1
  obtain ⟨c0, c1, c2, f0, f1, f2, hz⟩ := b1.facts
  obtain ⟨c3, c4, c5, f3, f4, f5, hz3⟩ := b2.facts
  go_wp2_with fail
  refine (back_spec s t x _ HV.out.1 HV.out.2.1 HV.out.2.2.2.2 HV.out.2.2.2.1).mono ?_
  rintro e w3 ⟨rfl, hb3⟩
  have b2' := b2.below hb3 hz3
  have hw3 := next hw1 hb3 (Nat.le_refl _)
  clear c0 c1 c2 f0 f1 f2 b1 b2 hw1 hb3 c3 c4 c5 f3 f4 f5 hz hz3
  obtain ⟨c3, c4, c5, f3, f4, f5, hz3⟩ := b2'.facts
  go_wp2
  refine bodyPost_ret (v := .tuple #[.agg #[.int .i64 s, .int .i64 t, .int .i64 (bk s t x)], .bool true]) (by simp [results, Try.results36, go_sem, c3, c4, c5]) rfl ⟨rfl, ?_⟩
  exact ((hw3.setCell (by simp <;> omega) _).setCell (by simp <;> omega) _).setCell (by simp <;> omega) _
set_option maxHeartbeats 1000000 in
theorem sback_no (s t x : Int) (w : World) (hr : (rv s t x && decide (t % 2 = 1)) = false) :
    Calls Try.prog 36 #[.agg #[.int .i64 s, .int .i64 t, .int .i64 x]] w fun e w' => e = .returned (.tuple #[.agg #[.int .i64 0, .int .i64 0, .int .i64 0], .bool false]) ∧ Below w.heap.size w w' := by
  cases hv : rv s t x with
  | false =>
    clear hr
    go_enter Try.func36, Try.ntmps36
    go_wp2_with fail
    refine (valid_spec _ _ _ _).mono ?_
    rintro e w1 ⟨rfl, hb1⟩
    have b1 := ((B3.new w 35 (.int .i64 s) (.int .i64 t) (.int .i64 x)).alloc (.cells #[.int .i64 0, .int .i64 0, .int .i64 0] 35)).below hb1 (by simp; omega)
    have b2 := (B3.new (w.alloc (.cells #[.int .i64 s, .int .i64 t, .int .i64 x] 35)) 35 (.int .i64 0) (.int .i64 0) (.int .i64 0)).below hb1 (by simp)
    rw [World.size_alloc] at b2
    have hw1 : Below w.heap.size w w1 := shutBox2 hb1
    clear hb1
    obtain ⟨c0, c1, c2, f0, f1, f2, hz⟩ := b1.facts
    obtain ⟨c3, c4, c5, f3, f4, f5, hz3⟩ := b2.facts
    go_wp2
    refine bodyPost_ret (v := .tuple #[.agg #[.int .i64 0, .int .i64 0, .int .i64 0], .bool false]) (by simp [results, Try.results36, go_sem, c3, c4, c5]) rfl ⟨rfl, ?_⟩
    exact ((hw1.setCell (by simp <;> omega) _).setCell (by simp <;> omega) _).setCell (by simp <;> omega) _
  | true =>
    rw [hv, Bool.true_and] at hr
    have hr := of_decide_eq_false hr
    have ht0 : 0 ≤ t := by have := tv_yes (rv_tv hv).1; omega
    have ht : (t % 2 == 0) = true := by rw [beq_iff_eq]; omega
    clear hr
    go_enter Try.func36, Try.ntmps36
    go_wp2_with fail
    refine (valid_spec _ _ _ _).mono ?_
    rintro e w1 ⟨rfl, hb1⟩
    have b1 := ((B3.new w 35 (.int .i64 s) (.int .i64 t) (.int .i64 x)).alloc (.cells #[.int .i64 0, .int .i64 0, .int .i64 0] 35)).below hb1 (by simp; omega)
    have b2 := (B3.new (w.alloc (.cells #[.int .i64 s, .int .i64 t, .int .i64 x] 35)) 35 (.int .i64 0) (.int .i64 0) (.int .i64 0)).below hb1 (by simp)
    rw [World.size_alloc] at b2
    have hw1 : Below w.heap.size w w1 := shutBox2 hb1
    clear hb1
    obtain ⟨c0, c1, c2, f0, f1, f2, hz⟩ := b1.facts
    obtain ⟨c3, c4, c5, f3, f4, f5, hz3⟩ := b2.facts
    go_wp2
    refine bodyPost_ret (v := .tuple #[.agg #[.int .i64 0, .int .i64 0, .int .i64 0], .bool false]) (by simp [results, Try.results36, go_sem, c3, c4, c5]) rfl ⟨rfl, ?_⟩
    exact ((hw1.setCell (by simp <;> omega) _).setCell (by simp <;> omega) _).setCell (by simp <;> omega) _
set_option maxHeartbeats 1000000 in
theorem eqReg_same (s t x : Int) (w : World) :
    Calls Try.prog 30 #[.agg #[.int .i64 s, .int .i64 t, .int .i64 x], .agg #[.int .i64 s, .int .i64 t, .int .i64 x]] w fun e w' => e = .returned (.bool true) ∧ Below w.heap.size w w' := by
  go_enter Try.func30, Try.ntmps30
  go_wp2
  go_ret
  exact ⟨rfl, shutBox2 (Below.refl _ _)⟩
set_option maxHeartbeats 1000000 in
theorem add_yes (s t x x2 : Nat) (w : World) (hv : VR s t x) (hv2 : VR s t x2) :
    Calls Try.prog 46 #[.agg #[.int .i64 s, .int .i64 t, .int .i64 x], .agg #[.int .i64 s, .int .i64 t, .int .i64 x2]] w fun e w' => e = .returned (.tuple #[.agg #[.int .i64 s, .int .i64 t, .int .i64 ((x ^^^ x2 : Nat) : Int)], .bool true]) ∧ Below w.heap.size w w' := by
  have hr := rv_mk hv
  have hr2 := rv_mk hv2
  have ex := xor_i64 x x2 (by have := lt256 hv.2.1 hv.2.2.2.2; omega) (by have := lt256 hv2.2.1 hv2.2.2.2.2; omega)
  clear hv hv2
  go_enter Try.func46, Try.ntmps46
  go_wp2_with fail
  refine (valid_impl _ _ _ _).mono ?_
  rintro e w1 ⟨rfl, hb1⟩
  have b1 := (((B3.new w 35 (.int .i64 s) (.int .i64 t) (.int .i64 x)).alloc (.cells #[.int .i64 s, .int .i64 t, .int .i64 x2] 35)).alloc (.cells #[.int .i64 0, .int .i64 0, .int .i64 0] 35)).below hb1 (by simp; omega)
  have b2 := ((B3.new (w.alloc (.cells #[.int .i64 s, .int .i64 t, .int .i64 x] 35)) 35 (.int .i64 s) (.int .i64 t) (.int .i64 x2)).alloc (.cells #[.int .i64 0, .int .i64 0, .int .i64 0] 35)).below hb1 (by simp)
  have b3 := (B3.new ((w.alloc (.cells #[.int .i64 s, .int .i64 t, .int .i64 x] 35)).alloc (.cells #[.int .i64 s, .int .i64 t, .int .i64 x2] 35)) 35 (.int .i64 0) (.int .i64 0) (.int .i64 0)).below hb1 (by simp)
  simp only [World.size_alloc] at b2 b3
  have hw1 : Below w.heap.size w w1 := shutBox3 hb1
  clear hb1
  obtain ⟨c0, c1, c2, f0, f1, f2, hz⟩ := b1.facts
  obtain ⟨c3, c4, c5, f3, f4, f5, hz3⟩ := b2.facts
  obtain ⟨c6, c7, c8, f6, f7, f8, hz6⟩ := b3.facts
  go_wp2_with fail
  refine (valid_impl _ _ _ _).mono ?_
  rintro e w2 ⟨rfl, hb2⟩
  have b1' := b1.below hb2 hz
  have b2' := b2.below hb2 hz3
  have b3' := b3.below hb2 hz6
  have hw2 := next hw1 hb2 (Nat.le_refl _)
  clear c0 c1 c2 f0 f1 f2 b1 b2 b3 hw1 hb2 c3 c4 c5 f3 f4 f5 hz hz3 c6 c7 c8 f6 f7 f8 hz6
  obtain ⟨c0, c1, c2, f0, f1, f2, hz⟩ := b1'.facts
  obtain ⟨c3, c4, c5, f3, f4, f5, hz3⟩ := b2'.facts
  obtain ⟨c6, c7, c8, f6, f7, f8, hz6⟩ := b3'.facts
  go_wp2
  refine bodyPost_ret (v := .tuple #[.agg #[.int .i64 s, .int .i64 t, .int .i64 ((x ^^^ x2 : Nat) : Int)], .bool true]) (by simp [results, Try.results46, go_sem, c6, c7, c8]) rfl ⟨rfl, ?_⟩
  exact (((hw2.setCell (by simp <;> omega) _).setCell (by simp <;> omega) _).setCell (by simp <;> omega) _).setCell (by simp <;> omega) _
set_option maxHeartbeats 1000000 in
theorem add_no (s t x s2 t2 x2 : Int) (w : World) (hn : ¬ (rv s t x = true ∧ rv s2 t2 x2 = true ∧ s = s2 ∧ t = t2)) :
    Calls Try.prog 46 #[.agg #[.int .i64 s, .int .i64 t, .int .i64 x], .agg #[.int .i64 s2, .int .i64 t2, .int .i64 x2]] w fun e w' => e = .returned (.tuple #[.agg #[.int .i64 0, .int .i64 0, .int .i64 0], .bool false]) ∧ Below w.heap.size w w' := by
  cases hr : rv s t x with
  | false =>
    clear hn
    go_enter Try.func46, Try.ntmps46
    go_wp2_with fail
    refine (valid_impl _ _ _ _).mono ?_
    rintro e w1 ⟨rfl, hb1⟩
    have b1 := (((B3.new w 35 (.int .i64 s) (.int .i64 t) (.int .i64 x)).alloc (.cells #[.int .i64 s2, .int .i64 t2, .int .i64 x2] 35)).alloc (.cells #[.int .i64 0, .int .i64 0, .int .i64 0] 35)).below hb1 (by simp; omega)
    have b2 := ((B3.new (w.alloc (.cells #[.int .i64 s, .int .i64 t, .int .i64 x] 35)) 35 (.int .i64 s2) (.int .i64 t2) (.int .i64 x2)).alloc (.cells #[.int .i64 0, .int .i64 0, .int .i64 0] 35)).below hb1 (by simp)
    have b3 := (B3.new ((w.alloc (.cells #[.int .i64 s, .int .i64 t, .int .i64 x] 35)).alloc (.cells #[.int .i64 s2, .int .i64 t2, .int .i64 x2] 35)) 35 (.int .i64 0) (.int .i64 0) (.int .i64 0)).below hb1 (by simp)
    simp only [World.size_alloc] at b2 b3
    have hw1 : Below w.heap.size w w1 := shutBox3 hb1
    clear hb1
    obtain ⟨c0, c1, c2, f0, f1, f2, hz⟩ := b1.facts
    obtain ⟨c3, c4, c5, f3, f4, f5, hz3⟩ := b2.facts
    obtain ⟨c6, c7, c8, f6, f7, f8, hz6⟩ := b3.facts
    go_wp2
    refine bodyPost_ret (v := .tuple #[.agg #[.int .i64 0, .int .i64 0, .int .i64 0], .bool false]) (by simp [results, Try.results46, go_sem, c6, c7, c8]) rfl ⟨rfl, ?_⟩
    exact ((hw1.setCell (by simp <;> omega) _).setCell (by simp <;> omega) _).setCell (by simp <;> omega) _
  | true =>
    cases hr2 : rv s2 t2 x2 with
    | false =>
      clear hn
      go_enter Try.func46, Try.ntmps46
      go_wp2_with fail
      refine (valid_impl _ _ _ _).mono ?_
      rintro e w1 ⟨rfl, hb1⟩
      have b1 := (((B3.new w 35 (.int .i64 s) (.int .i64 t) (.int .i64 x)).alloc (.cells #[.int .i64 s2, .int .i64 t2, .int .i64 x2] 35)).alloc (.cells #[.int .i64 0, .int .i64 0, .int .i64 0] 35)).below hb1 (by simp; omega)
      have b2 := ((B3.new (w.alloc (.cells #[.int .i64 s, .int .i64 t, .int .i64 x] 35)) 35 (.int .i64 s2) (.int .i64 t2) (.int .i64 x2)).alloc (.cells #[.int .i64 0, .int .i64 0, .int .i64 0] 35)).below hb1 (by simp)
      have b3 := (B3.new ((w.alloc (.cells #[.int .i64 s, .int .i64 t, .int .i64 x] 35)).alloc (.cells #[.int .i64 s2, .int .i64 t2, .int .i64 x2] 35)) 35 (.int .i64 0) (.int .i64 0) (.int .i64 0)).below hb1 (by simp)
      simp only [World.size_alloc] at b2 b3
      have hw1 : Below w.heap.size w w1 := shutBox3 hb1
      clear hb1
      obtain ⟨c0, c1, c2, f0, f1, f2, hz⟩ := b1.facts
      obtain ⟨c3, c4, c5, f3, f4, f5, hz3⟩ := b2.facts
      obtain ⟨c6, c7, c8, f6, f7, f8, hz6⟩ := b3.facts
      go_wp2_with fail
      refine (valid_impl _ _ _ _).mono ?_
      rintro e w2 ⟨rfl, hb2⟩
      have b1' := b1.below hb2 hz
      have b2' := b2.below hb2 hz3
      have b3' := b3.below hb2 hz6
      have hw2 := next hw1 hb2 (Nat.le_refl _)
      clear c0 c1 c2 f0 f1 f2 b1 b2 b3 hw1 hb2 c3 c4 c5 f3 f4 f5 hz hz3 c6 c7 c8 f6 f7 f8 hz6
      obtain ⟨c0, c1, c2, f0, f1, f2, hz⟩ := b1'.facts
      obtain ⟨c3, c4, c5, f3, f4, f5, hz3⟩ := b2'.facts
      obtain ⟨c6, c7, c8, f6, f7, f8, hz6⟩ := b3'.facts
      go_wp2
      refine bodyPost_ret (v := .tuple #[.agg #[.int .i64 0, .int .i64 0, .int .i64 0], .bool false]) (by simp [results, Try.results46, go_sem, c6, c7, c8]) rfl ⟨rfl, ?_⟩
      exact ((hw2.setCell (by simp <;> omega) _).setCell (by simp <;> omega) _).setCell (by simp <;> omega) _
    | true =>
      by_cases hs : s = s2
      · have hs' : (s != s2) = false := by simpa using hs
        have ht' : (t != t2) = true := by
          rw [bne_iff_ne]
          exact fun ht => hn ⟨hr, hr2, hs, ht⟩
        clear hn hs
        go_enter Try.func46, Try.ntmps46
        go_wp2_with fail
        refine (valid_impl _ _ _ _).mono ?_
        rintro e w1 ⟨rfl, hb1⟩
        have b1 := (((B3.new w 35 (.int .i64 s) (.int .i64 t) (.int .i64 x)).alloc (.cells #[.int .i64 s2, .int .i64 t2, .int .i64 x2] 35)).alloc (.cells #[.int .i64 0, .int .i64 0, .int .i64 0] 35)).below hb1 (by simp; omega)
        have b2 := ((B3.new (w.alloc (.cells #[.int .i64 s, .int .i64 t, .int .i64 x] 35)) 35 (.int .i64 s2) (.int .i64 t2) (.int .i64 x2)).alloc (.cells #[.int .i64 0, .int .i64 0, .int .i64 0] 35)).below hb1 (by simp)
        have b3 := (B3.new ((w.alloc (.cells #[.int .i64 s, .int .i64 t, .int .i64 x] 35)).alloc (.cells #[.int .i64 s2, .int .i64 t2, .int .i64 x2] 35)) 35 (.int .i64 0) (.int .i64 0) (.int .i64 0)).below hb1 (by simp)
        simp only [World.size_alloc] at b2 b3
        have hw1 : Below w.heap.size w w1 := shutBox3 hb1
        clear hb1
        obtain ⟨c0, c1, c2, f0, f1, f2, hz⟩ := b1.facts
        obtain ⟨c3, c4, c5, f3, f4, f5, hz3⟩ := b2.facts
        obtain ⟨c6, c7, c8, f6, f7, f8, hz6⟩ := b3.facts
        go_wp2_with fail
        refine (valid_impl _ _ _ _).mono ?_
        rintro e w2 ⟨rfl, hb2⟩
        have b1' := b1.below hb2 hz
        have b2' := b2.below hb2 hz3
        have b3' := b3.below hb2 hz6
        have hw2 := next hw1 hb2 (Nat.le_refl _)
        clear c0 c1 c2 f0 f1 f2 b1 b2 b3 hw1 hb2 c3 c4 c5 f3 f4 f5 hz hz3 c6 c7 c8 f6 f7 f8 hz6
        obtain ⟨c0, c1, c2, f0, f1, f2, hz⟩ := b1'.facts
        obtain ⟨c3, c4, c5, f3, f4, f5, hz3⟩ := b2'.facts
        obtain ⟨c6, c7, c8, f6, f7, f8, hz6⟩ := b3'.facts
        go_wp2
        refine bodyPost_ret (v := .tuple #[.agg #[.int .i64 0, .int .i64 0, .int .i64 0], .bool false]) (by simp [results, Try.results46, go_sem, c6, c7, c8]) rfl ⟨rfl, ?_⟩
        exact ((hw2.setCell (by simp <;> omega) _).setCell (by simp <;> omega) _).setCell (by simp <;> omega) _
      · have hs' : (s != s2) = true := by simpa using hs
        clear hn hs
        go_enter Try.func46, Try.ntmps46
        go_wp2_with fail
        refine (valid_impl _ _ _ _).mono ?_
        rintro e w1 ⟨rfl, hb1⟩
        have b1 := (((B3.new w 35 (.int .i64 s) (.int .i64 t) (.int .i64 x)).alloc (.cells #[.int .i64 s2, .int .i64 t2, .int .i64 x2] 35)).alloc (.cells #[.int .i64 0, .int .i64 0, .int .i64 0] 35)).below hb1 (by simp; omega)
        have b2 := ((B3.new (w.alloc (.cells #[.int .i64 s, .int .i64 t, .int .i64 x] 35)) 35 (.int .i64 s2) (.int .i64 t2) (.int .i64 x2)).alloc (.cells #[.int .i64 0, .int .i64 0, .int .i64 0] 35)).below hb1 (by simp)
        have b3 := (B3.new ((w.alloc (.cells #[.int .i64 s, .int .i64 t, .int .i64 x] 35)).alloc (.cells #[.int .i64 s2, .int .i64 t2, .int .i64 x2] 35)) 35 (.int .i64 0) (.int .i64 0) (.int .i64 0)).below hb1 (by simp)
        simp only [World.size_alloc] at b2 b3
        have hw1 : Below w.heap.size w w1 := shutBox3 hb1
        clear hb1
        obtain ⟨c0, c1, c2, f0, f1, f2, hz⟩ := b1.facts
        obtain ⟨c3, c4, c5, f3, f4, f5, hz3⟩ := b2.facts
        obtain ⟨c6, c7, c8, f6, f7, f8, hz6⟩ := b3.facts
        go_wp2_with fail
        refine (valid_impl _ _ _ _).mono ?_
        rintro e w2 ⟨rfl, hb2⟩
        have b1' := b1.below hb2 hz
        have b2' := b2.below hb2 hz3
        have b3' := b3.below hb2 hz6
        have hw2 := next hw1 hb2 (Nat.le_refl _)
        clear c0 c1 c2 f0 f1 f2 b1 b2 b3 hw1 hb2 c3 c4 c5 f3 f4 f5 hz hz3 c6 c7 c8 f6 f7 f8 hz6
        obtain ⟨c0, c1, c2, f0, f1, f2, hz⟩ := b1'.facts
        obtain ⟨c3, c4, c5, f3, f4, f5, hz3⟩ := b2'.facts
        obtain ⟨c6, c7, c8, f6, f7, f8, hz6⟩ := b3'.facts
        go_wp2
        refine bodyPost_ret (v := .tuple #[.agg #[.int .i64 0, .int .i64 0, .int .i64 0], .bool false]) (by simp [results, Try.results46, go_sem, c6, c7, c8]) rfl ⟨rfl, ?_⟩
        exact ((hw2.setCell (by simp <;> omega) _).setCell (by simp <;> omega) _).setCell (by simp <;> omega) _
set_option maxHeartbeats 1000000 in
theorem sadd_yes (s t x x2 : Nat) (w : World) (hv : VR s t x) (hv2 : VR s t x2) :
    Calls Try.prog 47 #[.agg #[.int .i64 s, .int .i64 t, .int .i64 x], .agg #[.int .i64 s, .int .i64 t, .int .i64 x2]] w fun e w' => e = .returned (.tuple #[.agg #[.int .i64 s, .int .i64 t, .int .i64 ((x ^^^ x2 : Nat) : Int)], .bool true]) ∧ Below w.heap.size w w' := by
  have hr := rv_mk hv
  have hr2 := rv_mk hv2
  have ex := xor_i64 x x2 (by have := lt256 hv.2.1 hv.2.2.2.2; omega) (by have := lt256 hv2.2.1 hv2.2.2.2.2; omega)
  clear hv hv2
  go_enter Try.func47, Try.ntmps47
  go_wp2_with fail
  refine (valid_spec _ _ _ _).mono ?_
  rintro e w1 ⟨rfl, hb1⟩
  have b1 := (((B3.new w 35 (.int .i64 s) (.int .i64 t) (.int .i64 x)).alloc (.cells #[.int .i64 s, .int .i64 t, .int .i64 x2] 35)).alloc (.cells #[.int .i64 0, .int .i64 0, .int .i64 0] 35)).below hb1 (by simp; omega)
  have b2 := ((B3.new (w.alloc (.cells #[.int .i64 s, .int .i64 t, .int .i64 x] 35)) 35 (.int .i64 s) (.int .i64 t) (.int .i64 x2)).alloc (.cells #[.int .i64 0, .int .i64 0, .int .i64 0] 35)).below hb1 (by simp)
  have b3 := (B3.new ((w.alloc (.cells #[.int .i64 s, .int .i64 t, .int .i64 x] 35)).alloc (.cells #[.int .i64 s, .int .i64 t, .int .i64 x2] 35)) 35 (.int .i64 0) (.int .i64 0) (.int .i64 0)).below hb1 (by simp)
  simp only [World.size_alloc] at b2 b3
  have hw1 : Below w.heap.size w w1 := shutBox3 hb1
  clear hb1
  obtain ⟨c0, c1, c2, f0, f1, f2, hz⟩ := b1.facts
  obtain ⟨c3, c4, c5, f3, f4, f5, hz3⟩ := b2.facts
  obtain ⟨c6, c7, c8, f6, f7, f8, hz6⟩ := b3.facts
  go_wp2_with fail
  refine (valid_spec _ _ _ _).mono ?_
  rintro e w2 ⟨rfl, hb2⟩
  have b1' := b1.below hb2 hz
  have b2' := b2.below hb2 hz3
  have b3' := b3.below hb2 hz6
  have hw2 := next hw1 hb2 (Nat.le_refl _)
  clear c0 c1 c2 f0 f1 f2 b1 b2 b3 hw1 hb2 c3 c4 c5 f3 f4 f5 hz hz3 c6 c7 c8 f6 f7 f8 hz6
  obtain ⟨c0, c1, c2, f0, f1, f2, hz⟩ := b1'.facts
  obtain ⟨c3, c4, c5, f3, f4, f5, hz3⟩ := b2'.facts
  obtain ⟨c6, c7, c8, f6, f7, f8, hz6⟩ := b3'.facts
  go_wp2
  refine bodyPost_ret (v := .tuple #[.agg #[.int .i64 s, .int .i64 t, .int .i64 ((x ^^^ x2 : Nat) : Int)], .bool true]) (by simp [results, Try.results47, go_sem, c6, c7, c8]) rfl ⟨rfl, ?_⟩
  exact (((hw2.setCell (by simp <;> omega) _).setCell (by simp <;> omega) _).setCell (by simp <;> omega) _).setCell (by simp <;> omega) _
set_option maxHeartbeats 1000000 in
theorem sadd_no (s t x s2 t2 x2 : Int) (w : World) (hn : ¬ (rv s t x = true ∧ rv s2 t2 x2 = true ∧ s = s2 ∧ t = t2)) :
    Calls Try.prog 47 #[.agg #[.int .i64 s, .int .i64 t, .int .i64 x], .agg #[.int .i64 s2, .int .i64 t2, .int .i64 x2]] w fun e w' => e = .returned (.tuple #[.agg #[.int .i64 0, .int .i64 0, .int .i64 0], .bool false]) ∧ Below w.heap.size w w' := by
  cases hr : rv s t x with
  | false =>
    clear hn
    go_enter Try.func47, Try.ntmps47
    go_wp2_with fail
    refine (valid_spec _ _ _ _).mono ?_
    rintro e w1 ⟨rfl, hb1⟩
    have b1 := (((B3.new w 35 (.int .i64 s) (.int .i64 t) (.int .i64 x)).alloc (.cells #[.int .i64 s2, .int .i64 t2, .int .i64 x2] 35)).alloc (.cells #[.int .i64 0, .int .i64 0, .int .i64 0] 35)).below hb1 (by simp; omega)
    have b2 := ((B3.new (w.alloc (.cells #[.int .i64 s, .int .i64 t, .int .i64 x] 35)) 35 (.int .i64 s2) (.int .i64 t2) (.int .i64 x2)).alloc (.cells #[.int .i64 0, .int .i64 0, .int .i64 0] 35)).below hb1 (by simp)
    have b3 := (B3.new ((w.alloc (.cells #[.int .i64 s, .int .i64 t, .int .i64 x] 35)).alloc (.cells #[.int .i64 s2, .int .i64 t2, .int .i64 x2] 35)) 35 (.int .i64 0) (.int .i64 0) (.int .i64 0)).below hb1 (by simp)
    simp only [World.size_alloc] at b2 b3
    have hw1 : Below w.heap.size w w1 := shutBox3 hb1
    clear hb1
    obtain ⟨c0, c1, c2, f0, f1, f2, hz⟩ := b1.facts
    obtain ⟨c3, c4, c5, f3, f4, f5, hz3⟩ := b2.facts
    obtain ⟨c6, c7, c8, f6, f7, f8, hz6⟩ := b3.facts
    go_wp2
    refine bodyPost_ret (v := .tuple #[.agg #[.int .i64 0, .int .i64 0, .int .i64 0], .bool false]) (by simp [results, Try.results47, go_sem, c6, c7, c8]) rfl ⟨rfl, ?_⟩
    exact ((hw1.setCell (by simp <;> omega) _).setCell (by simp <;> omega) _).setCell (by simp <;> omega) _
  | true =>
    cases hr2 : rv s2 t2 x2 with
    | false =>
      clear hn
      go_enter Try.func47, Try.ntmps47
      go_wp2_with fail
      refine (valid_spec _ _ _ _).mono ?_
      rintro e w1 ⟨rfl, hb1⟩
      have b1 := (((B3.new w 35 (.int .i64 s) (.int .i64 t) (.int .i64 x)).alloc (.cells #[.int .i64 s2, .int .i64 t2, .int .i64 x2] 35)).alloc (.cells #[.int .i64 0, .int .i64 0, .int .i64 0] 35)).below hb1 (by simp; omega)
      have b2 := ((B3.new (w.alloc (.cells #[.int .i64 s, .int .i64 t, .int .i64 x] 35)) 35 (.int .i64 s2) (.int .i64 t2) (.int .i64 x2)).alloc (.cells #[.int .i64 0, .int .i64 0, .int .i64 0] 35)).below hb1 (by simp)
      have b3 := (B3.new ((w.alloc (.cells #[.int .i64 s, .int .i64 t, .int .i64 x] 35)).alloc (.cells #[.int .i64 s2, .int .i64 t2, .int .i64 x2] 35)) 35 (.int .i64 0) (.int .i64 0) (.int .i64 0)).below hb1 (by simp)
      simp only [World.size_alloc] at b2 b3
      have hw1 : Below w.heap.size w w1 := shutBox3 hb1
      clear hb1
      obtain ⟨c0, c1, c2, f0, f1, f2, hz⟩ := b1.facts
      obtain ⟨c3, c4, c5, f3, f4, f5, hz3⟩ := b2.facts
      obtain ⟨c6, c7, c8, f6, f7, f8, hz6⟩ := b3.facts
      go_wp2_with fail
      refine (valid_spec _ _ _ _).mono ?_
      rintro e w2 ⟨rfl, hb2⟩
      have b1' := b1.below hb2 hz
      have b2' := b2.below hb2 hz3
      have b3' := b3.below hb2 hz6
      have hw2 := next hw1 hb2 (Nat.le_refl _)
      clear c0 c1 c2 f0 f1 f2 b1 b2 b3 hw1 hb2 c3 c4 c5 f3 f4 f5 hz hz3 c6 c7 c8 f6 f7 f8 hz6
      obtain ⟨c0, c1, c2, f0, f1, f2, hz⟩ := b1'.facts
      obtain ⟨c3, c4, c5, f3, f4, f5, hz3⟩ := b2'.facts
      obtain ⟨c6, c7, c8, f6, f7, f8, hz6⟩ := b3'.facts
      go_wp2
      refine bodyPost_ret (v := .tuple #[.agg #[.int .i64 0, .int .i64 0, .int .i64 0], .bool false]) (by simp [results, Try.results47, go_sem, c6, c7, c8]) rfl ⟨rfl, ?_⟩
      exact ((hw2.setCell (by simp <;> omega) _).setCell (by simp <;> omega) _).setCell (by simp <;> omega) _
    | true =>
      by_cases hs : s = s2
      · have hs' : (s != s2) = false := by simpa using hs
        have ht' : (t != t2) = true := by
          rw [bne_iff_ne]
          exact fun ht => hn ⟨hr, hr2, hs, ht⟩
        clear hn hs
        go_enter Try.func47, Try.ntmps47
        go_wp2_with fail
        refine (valid_spec _ _ _ _).mono ?_
        rintro e w1 ⟨rfl, hb1⟩
        have b1 := (((B3.new w 35 (.int .i64 s) (.int .i64 t) (.int .i64 x)).alloc (.cells #[.int .i64 s2, .int .i64 t2, .int .i64 x2] 35)).alloc (.cells #[.int .i64 0, .int .i64 0, .int .i64 0] 35)).below hb1 (by simp; omega)
        have b2 := ((B3.new (w.alloc (.cells #[.int .i64 s, .int .i64 t, .int .i64 x] 35)) 35 (.int .i64 s2) (.int .i64 t2) (.int .i64 x2)).alloc (.cells #[.int .i64 0, .int .i64 0, .int .i64 0] 35)).below hb1 (by simp)
        have b3 := (B3.new ((w.alloc (.cells #[.int .i64 s, .int .i64 t, .int .i64 x] 35)).alloc (.cells #[.int .i64 s2, .int .i64 t2, .int .i64 x2] 35)) 35 (.int .i64 0) (.int .i64 0) (.int .i64 0)).below hb1 (by simp)
        simp only [World.size_alloc] at b2 b3
        have hw1 : Below w.heap.size w w1 := shutBox3 hb1
        clear hb1
        obtain ⟨c0, c1, c2, f0, f1, f2, hz⟩ := b1.facts
        obtain ⟨c3, c4, c5, f3, f4, f5, hz3⟩ := b2.facts
        obtain ⟨c6, c7, c8, f6, f7, f8, hz6⟩ := b3.facts
        go_wp2_with fail
        refine (valid_spec _ _ _ _).mono ?_
        rintro e w2 ⟨rfl, hb2⟩
        have b1' := b1.below hb2 hz
        have b2' := b2.below hb2 hz3
        have b3' := b3.below hb2 hz6
        have hw2 := next hw1 hb2 (Nat.le_refl _)
        clear c0 c1 c2 f0 f1 f2 b1 b2 b3 hw1 hb2 c3 c4 c5 f3 f4 f5 hz hz3 c6 c7 c8 f6 f7 f8 hz6
        obtain ⟨c0, c1, c2, f0, f1, f2, hz⟩ := b1'.facts
        obtain ⟨c3, c4, c5, f3, f4, f5, hz3⟩ := b2'.facts
        obtain ⟨c6, c7, c8, f6, f7, f8, hz6⟩ := b3'.facts
        go_wp2
        refine bodyPost_ret (v := .tuple #[.agg #[.int .i64 0, .int .i64 0, .int .i64 0], .bool false]) (by simp [results, Try.results47, go_sem, c6, c7, c8]) rfl ⟨rfl, ?_⟩
        exact ((hw2.setCell (by simp <;> omega) _).setCell (by simp <;> omega) _).setCell (by simp <;> omega) _
      · have hs' : (s != s2) = true := by simpa using hs
        clear hn hs
        go_enter Try.func47, Try.ntmps47
        go_wp2_with fail
        refine (valid_spec _ _ _ _).mono ?_
        rintro e w1 ⟨rfl, hb1⟩
        have b1 := (((B3.new w 35 (.int .i64 s) (.int .i64 t) (.int .i64 x)).alloc (.cells #[.int .i64 s2, .int .i64 t2, .int .i64 x2] 35)).alloc (.cells #[.int .i64 0, .int .i64 0, .int .i64 0] 35)).below hb1 (by simp; omega)
        have b2 := ((B3.new (w.alloc (.cells #[.int .i64 s, .int .i64 t, .int .i64 x] 35)) 35 (.int .i64 s2) (.int .i64 t2) (.int .i64 x2)).alloc (.cells #[.int .i64 0, .int .i64 0, .int .i64 0] 35)).below hb1 (by simp)
        have b3 := (B3.new ((w.alloc (.cells #[.int .i64 s, .int .i64 t, .int .i64 x] 35)).alloc (.cells #[.int .i64 s2, .int .i64 t2, .int .i64 x2] 35)) 35 (.int .i64 0) (.int .i64 0) (.int .i64 0)).below hb1 (by simp)
        simp only [World.size_alloc] at b2 b3
        have hw1 : Below w.heap.size w w1 := shutBox3 hb1
        clear hb1
        obtain ⟨c0, c1, c2, f0, f1, f2, hz⟩ := b1.facts
        obtain ⟨c3, c4, c5, f3, f4, f5, hz3⟩ := b2.facts
        obtain ⟨c6, c7, c8, f6, f7, f8, hz6⟩ := b3.facts
        go_wp2_with fail
        refine (valid_spec _ _ _ _).mono ?_
        rintro e w2 ⟨rfl, hb2⟩
        have b1' := b1.below hb2 hz
        have b2' := b2.below hb2 hz3
        have b3' := b3.below hb2 hz6
        have hw2 := next hw1 hb2 (Nat.le_refl _)
        clear c0 c1 c2 f0 f1 f2 b1 b2 b3 hw1 hb2 c3 c4 c5 f3 f4 f5 hz hz3 c6 c7 c8 f6 f7 f8 hz6
        obtain ⟨c0, c1, c2, f0, f1, f2, hz⟩ := b1'.facts
        obtain ⟨c3, c4, c5, f3, f4, f5, hz3⟩ := b2'.facts
        obtain ⟨c6, c7, c8, f6, f7, f8, hz6⟩ := b3'.facts
        go_wp2
        refine bodyPost_ret (v := .tuple #[.agg #[.int .i64 0, .int .i64 0, .int .i64 0], .bool false]) (by simp [results, Try.results47, go_sem, c6, c7, c8]) rfl ⟨rfl, ?_⟩
        exact ((hw2.setCell (by simp <;> omega) _).setCell (by simp <;> omega) _).setCell (by simp <;> omega) _
end Go.Proofs.Ytmlmbinpkmdjjaa
