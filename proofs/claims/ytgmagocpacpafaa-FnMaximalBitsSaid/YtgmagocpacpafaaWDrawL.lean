/- Contracts of the functions that draw the arguments of the laws on registers. -/
import Derived.Test.YtgmagocpacpafaaWDrawR
import Derived.Deep.DeepCutAuto
namespace Go.Proofs.Ytgmagocpacpafaa
open Go.RowKit SS
set_option maxRecDepth 100000
/-- some register and some number come back -/
def SomeRI (w : World) (e : Ending) (w' : World) : Prop := ∃ s t x n : Int, e = .returned (.tuple #[.agg #[.int .i64 s, .int .i64 t, .int .i64 x], .int .i64 n]) ∧ Below w.heap.size w w'
/-- some number comes back -/
def SomeN (R B N : Nat) (w : World) (e : Ending) (w' : World) : Prop := ∃ n : Int, e = .returned (.int .i64 n) ∧ Dr w R B N w'
theorem vr_odd {s t x : Nat} (h : VR s t x) : VR s (t / 2 * 2 + 1) x := by
  obtain ⟨h1, h2, h3, h4, h5⟩ := h
  have := pow_pred s (by omega)
  exact ⟨h1, h2, by omega, by omega, h5⟩
theorem vr_tlt {s t x : Nat} (h : VR s t x) : t < 256 ∧ x < 256 := ⟨lt256 h.2.1 h.2.2.2.1, lt256 h.2.1 h.2.2.2.2⟩
set_option maxHeartbeats 1000000 in
theorem drawBack (A : Option Addr) (len cap : Nat) (w : World) (h : CodeB w w.heap.size A len) (hl : len ≤ cap) (hm : len ≤ maxLen) :
    Calls Try.prog 81 #[.slice A len cap] w (SomeR w) := by
  have hw0 := (Below.refl w.heap.size w).alloc (Nat.le_refl _) (.cells #[.int .i64 0, .int .i64 0, .int .i64 0] 24)
  have C := Lib.hid (open_any A len cap w.heap.size _ (h.below hw0) (by simp) hl hm)
  rw [World.size_alloc] at C
  have HW := Lib.hid hw0
  have HB := Lib.hid (B3.new w 24 (.int .i64 0) (.int .i64 0) (.int .i64 0))
  clear h hl hm hw0
  go_enter Try.func81, Try.ntmps81
  go_wp2_with fail
  refine C.out.mono ?_
  rintro e w1 ⟨rfl, hr, hb⟩
  have HD1 := Lib.hid (Dr.start hr)
  have HW1 := Lib.hid (HW.out.trans (hb.mono (by omega)))
  have HB1 := Lib.hid (HB.out.below hb (by omega))
  clear hr hb HW HB C
  go_wp2_with fail
  refine (some_any _ _ _ _ HD1.out.1 (by omega)).mono ?_
  rintro e w2 ⟨s, t, x, rfl, hv, hd⟩
  have HD2 := Lib.hid ((HD1.out.draw hd.1 hd.2.1).alloc (.cells #[.int .i64 s, .int .i64 t, .int .i64 x] 24))
  have HB2 := Lib.hid ((HB1.out.kp hd.2.1 (by omega)).alloc (.cells #[.int .i64 s, .int .i64 t, .int .i64 x] 24))
  have hlt := hd.1.lt.1
  have HX2 := Lib.hid (B3.new w2 24 (.int .i64 s) (.int .i64 t) (.int .i64 x))
  have HV := Lib.hid hv
  obtain ⟨ht8, hx8⟩ := vr_tlt hv
  have hz12 := hd.2.1.size
  clear hd HB1 hv
  go_wp2_with fail
  refine (pick_any 4 _ _ _ _ HD2.out.1 (by omega)).mono ?_
  rintro e w3 ⟨c, rfl, hc0, _, hr, hk⟩
  have HD3 := Lib.hid (HD2.out.draw hr hk)
  have HB3 := Lib.hid (HB2.out.kp hk (by omega))
  have HX3 := Lib.hid (HX2.out.kp hk (by omega))
  have hz23 := HX3.out.facts.2.2.2.2.2.2
  clear hr hk HD2 HB2 HX2
  by_cases hc : 0 < c
  · have hcd : decide (0 < c) = true := decide_eq_true hc
    obtain ⟨c0, c1, c2, f0, f1, f2, hz⟩ := HX3.out.facts
    have e1 : ((t : Int) / 2 * 2 + 1) = ((t / 2 * 2 + 1 : Nat) : Int) := by omega
    have C2 := Lib.hid fun (w4 : World) (hr : Rd w4 (w.heap.size + 1) w.heap.size (0 + 4 + 1)) => bad_any _ _ _ s (t / 2 * 2 + 1) x w4 hr (by omega) (vr_odd HV.out)
    rw [← e1] at C2
    clear e1
    have HD4 := Lib.hid (HD3.out.set (p := ⟨w2.heap.size, 1, none⟩) (show w1.heap.size ≤ w2.heap.size by omega) (.int .i64 ((t : Int) / 2 * 2 + 1)))
    have HB4 := Lib.hid (HB3.out.other (a := ⟨w2.heap.size, 1, none⟩) (show w.heap.size ≠ w2.heap.size by omega) (.int .i64 ((t : Int) / 2 * 2 + 1)))
    go_wp2_with fail
    refine (C2.out _ HD4.out.1).mono ?_
    rintro e w5 ⟨a, b, d, rfl, hd⟩
    have HD5 := Lib.hid (HD4.out.draw hd.1 hd.2.1)
    have b5 := HB4.out.kp hd.2.1 (by omega)
    clear hd c0 c1 c2 f0 f1 f2 hz
    obtain ⟨c0, c1, c2, f0, f1, f2, hz⟩ := b5.facts
    go_wp2
    refine bodyPost_ret (v := .agg #[.int .i64 a, .int .i64 b, .int .i64 d]) (by simp [results, Try.results81, go_sem, c0, c1, c2]) rfl ⟨a, b, d, rfl, ?_⟩
    exact (((HW1.out.trans (HD5.out.below (by omega))).setCell (by simp) _).setCell (by simp) _).setCell (by simp) _
  · have hcd : decide (0 < c) = false := decide_eq_false hc
    obtain ⟨c0, c1, c2, f0, f1, f2, hz⟩ := HX3.out.facts
    go_wp2_with fail
    refine (bad_any _ _ _ s t x _ HD3.out.1 (by omega) HV.out).mono ?_
    rintro e w5 ⟨a, b, d, rfl, hd⟩
    have HD5 := Lib.hid (HD3.out.draw hd.1 hd.2.1)
    have b5 := HB3.out.kp hd.2.1 (by omega)
    clear hd c0 c1 c2 f0 f1 f2 hz
    obtain ⟨c0, c1, c2, f0, f1, f2, hz⟩ := b5.facts
    go_wp2
    refine bodyPost_ret (v := .agg #[.int .i64 a, .int .i64 b, .int .i64 d]) (by simp [results, Try.results81, go_sem, c0, c1, c2]) rfl ⟨a, b, d, rfl, ?_⟩
    exact (((HW1.out.trans (HD5.out.below (by omega))).setCell (by simp) _).setCell (by simp) _).setCell (by simp) _
set_option maxHeartbeats 1000000 in
theorem count_any (R B N : Nat) (w : World) (h : Rd w R B N) (hN : N ≤ 800000) :
    Calls Try.prog 83 #[.pointer (some ⟨R, 0, none⟩)] w (SomeN R B (N + 2) w) := by
  have HD := Lib.hid (Dr.start h)
  clear h
  go_enter Try.func83, Try.ntmps83
  go_wp2_with fail
  refine (pick_any 12 _ _ _ _ HD.out.1 (by omega)).mono ?_
  rintro e w1 ⟨v, rfl, _, _, hr, hk⟩
  have HD1 := Lib.hid (HD.out.draw hr hk)
  clear hr hk HD
  by_cases hv : v = 0
  · subst hv
    have g := Lib.hid (BI.lit w1 3 [-1, 600, 601, 9223372036854775807])
    have HD2 := Lib.hid (HD1.out.alloc (.cells #[.int .i64 (-1), .int .i64 600, .int .i64 601, .int .i64 9223372036854775807] 3))
    have hlt1 := HD1.out.1.lt.1
    go_wp2_with fail
    refine (num_any [-1, 600, 601, 9223372036854775807] w1.heap.size 4 _ _ _ _ HD2.out.1 (by omega) g.out (by omega) (by decide) (by decide)).mono ?_
    rintro e w3 ⟨y, rfl, _, hr, hk⟩
    have HD3 := Lib.hid (HD2.out.draw hr hk)
    clear hr hk
    go_wp2
    go_ret
    exact ⟨y, rfl, HD3.out⟩
  · have d0 : (v == 0) = false := by rw [beq_eq_false_iff_ne]; exact hv
    go_wp2_with fail
    refine (pick_any 40 _ _ _ _ HD1.out.1 (by omega)).mono ?_
    rintro e w3 ⟨y, rfl, _, _, hr, hk⟩
    have HD3 := Lib.hid (HD1.out.draw hr hk)
    clear hr hk
    go_wp2
    go_ret
    exact ⟨y, rfl, HD3.out⟩
set_option maxHeartbeats 2000000 in
theorem drawRun (A : Option Addr) (len cap : Nat) (w : World) (h : CodeB w w.heap.size A len) (hl : len ≤ cap) (hm : len ≤ maxLen) :
    Calls Try.prog 32 #[.slice A len cap] w (SomeRI w) := by
  have hw0 := (Below.refl w.heap.size w).alloc (Nat.le_refl _) (.cells #[.int .i64 0, .int .i64 0, .int .i64 0] 24)
  have C := Lib.hid (open_any A len cap w.heap.size _ (h.below hw0) (by simp) hl hm)
  rw [World.size_alloc] at C
  have HW := Lib.hid hw0
  have HB := Lib.hid (B3.new w 24 (.int .i64 0) (.int .i64 0) (.int .i64 0))
  clear h hl hm hw0
  go_enter Try.func32, Try.ntmps32
  go_wp2_with fail
  refine C.out.mono ?_
  rintro e w1 ⟨rfl, hr, hb⟩
  have HD1 := Lib.hid (Dr.start hr)
  have HW1 := Lib.hid (HW.out.trans (hb.mono (by omega)))
  have HB1 := Lib.hid (HB.out.below hb (by omega))
  clear hr hb HW HB C
  go_wp2_with fail
  refine (l1open_any _ _ _ _ HD1.out.1 (by omega)).mono ?_
  rintro e w2 ⟨s, t, x, rfl, hd⟩
  have HD2 := Lib.hid ((HD1.out.draw hd.1 hd.2.1).alloc (.cells #[.int .i64 s, .int .i64 t, .int .i64 x] 24))
  have HB2 := Lib.hid ((HB1.out.kp hd.2.1 (by omega)).alloc (.cells #[.int .i64 s, .int .i64 t, .int .i64 x] 24))
  have hlt := hd.1.lt.1
  have HX2 := Lib.hid (B3.new w2 24 (.int .i64 s) (.int .i64 t) (.int .i64 x))
  clear hd HB1
  go_wp2_with fail
  generalize (w2.alloc (.cells #[.int .i64 s, .int .i64 t, .int .i64 x] 24)) = w3 at HD2 HB2 HX2 ⊢
  obtain ⟨c0, c1, c2, f0, f1, f2, hz⟩ := HB2.out.facts
  obtain ⟨c3, c4, c5, f3, f4, f5, hz3⟩ := HX2.out.facts
  have hne1 : w.heap.size ≠ w2.heap.size := by omega
  have hne2 : w2.heap.size ≠ w.heap.size := by omega
  go_region_held3 (fun w' => w'.cell? ⟨w2.heap.size, 0, none⟩ = some (.int .i64 s) ∧ w'.cell? ⟨w2.heap.size, 1, none⟩ = some (.int .i64 t) ∧ w'.cell? ⟨w2.heap.size, 2, none⟩ = some (.int .i64 x)) (go_keep)
    (first | (go_at_call 83; refine (count_any _ _ _ _ (HD2.out.drewN 1).1 (by omega)).mono ?_; rintro e w4 ⟨n, rfl, hd⟩; have HX4 := HX2.out.drewN 1 |>.kp hd.2.1 (by omega); have HB4 := HB2.out.drewN 1 |>.kp hd.2.1 (by omega); obtain ⟨q3, q4, q5, _, _, _, _⟩ := HX4.facts; obtain ⟨q0, q1, q2, _, _, _, _⟩ := HB4.facts))
  go_wp2_with fail
  refine bodyPost_ret (v := .tuple #[.agg #[.int .i64 s, .int .i64 t, .int .i64 x], .int .i64 n]) (by simp [results, Try.results32, go_sem, q0, q1, q2]) rfl ⟨s, t, x, n, rfl, ?_⟩
  exact (((HW1.out.trans ((HD2.out.drewN 1).draw hd.1 hd.2.1 |>.below (by omega))).setCell (by simp) _).setCell (by simp) _).setCell (by simp) _
end Go.Proofs.Ytgmagocpacpafaa
