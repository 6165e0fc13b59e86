/- Contracts of the functions that draw the arguments of the laws on registers. -/
import Derived.Test.YtmlmbinpkmdjjaaWDrawR
import Derived.Deep.DeepCutAuto
namespace Go.Proofs.Ytmlmbinpkmdjjaa
open Go.RowKit SS
/-- some register and some number come back -/
def SomeRI (w : World) (e : Ending) (w' : World) : Prop := ∃ s t x n : Int, e = .returned (.tuple #[.agg #[.int .i64 s, .int .i64 t, .int .i64 x], .int .i64 n]) ∧ Below w.heap.size w w'
/-- some number comes back -/
def SomeN (R B N : Nat) (w : World) (e : Ending) (w' : World) : Prop := ∃ n : Int, e = .returned (.int .i64 n) ∧ Dr w R B N w'
theorem vr_odd {s t x : Nat} (h : VR s t x) : VR s (t / 2 * 2 + 1) x := by
  obtain ⟨h1, h2, h3, h4, h5⟩ := h
  have := pow_pred s (by omega)
  exact ⟨h1, h2, by omega, by omega, h5⟩
theorem vr_tlt {s t x : Nat} (h : VR s t x) : t < 256 ∧ x < 256 := ⟨lt256 h.2.1 h.2.2.2.1, lt256 h.2.1 h.2.2.2.2⟩
set_option maxHeartbeats 1000000 in
theorem drawBack (A : Option Addr) (len cap : Nat) (w : World) (h : CodeB w w.heap.size A len) (hl : len ≤ cap) (hm : len ≤ maxLen) :
    Calls Try.prog 34 #[.slice A len cap] w (SomeR w) := by
  have hw0 := (Below.refl w.heap.size w).alloc (Nat.le_refl _) (.cells #[.int .i64 0, .int .i64 0, .int .i64 0] 35)
  have C := Lib.hid (open_any A len cap w.heap.size _ (h.below hw0) (by simp) hl hm)
  rw [World.size_alloc] at C
  have HW := Lib.hid hw0
  have HB := Lib.hid (B3.new w 35 (.int .i64 0) (.int .i64 0) (.int .i64 0))
  clear h hl hm hw0
  go_enter Try.func34, Try.ntmps34
  go_wp2_with fail
  refine C.out.mono ?_
  rintro e w1 ⟨rfl, hr, hb⟩
  have HD1 := Lib.hid (Dr.start hr)
  have HW1 := Lib.hid (HW.out.trans (hb.mono (by omega)))
  have HB1 := Lib.hid (HB.out.below hb (by omega))
  clear hr hb HW HB C
  go_wp2_with fail
  refine (some_any _ _ _ _ HD1.out.1 (by omega)).mono ?_
  rintro e w2 ⟨s, t, x, rfl, hv, hd⟩
  have HD2 := Lib.hid ((HD1.out.draw hd.1 hd.2.1).alloc (.cells #[.int .i64 s, .int .i64 t, .int .i64 x] 35))
  have HB2 := Lib.hid ((HB1.out.kp hd.2.1 (by omega)).alloc (.cells #[.int .i64 s, .int .i64 t, .int .i64 x] 35))
  have hlt := hd.1.lt.1
  have HX2 := Lib.hid (B3.new w2 35 (.int .i64 s) (.int .i64 t) (.int .i64 x))
  have HV := Lib.hid hv
  obtain ⟨ht8, hx8⟩ := vr_tlt hv
  have hz12 := hd.2.1.size
  clear hd HB1 hv
  go_wp2_with fail
  refine (pick_any 4 _ _ _ _ HD2.out.1 (by omega)).mono ?_
  rintro e w3 ⟨c, rfl, hc0, _, hr, hk⟩
  have HD3 := Lib.hid (HD2.out.draw hr hk)
  have HB3 := Lib.hid (HB2.out.kp hk (by omega))
  have HX3 := Lib.hid (HX2.out.kp hk (by omega))
  have hz23 := HX3.out.facts.2.2.2.2.2.2
  clear hr hk HD2 HB2 HX2
  by_cases hc : 0 < c
  · have hcd : decide (0 < c) = true := decide_eq_true hc
    obtain ⟨c0, c1, c2, f0, f1, f2, hz⟩ := HX3.out.facts
    have e1 : ((t : Int) / 2 * 2 + 1) = ((t / 2 * 2 + 1 : Nat) : Int) := by omega
    have C2 := Lib.hid fun (w4 : World) (hr : Rd w4 (w.heap.size + 1) w.heap.size (0 + 4 + 1)) => bad_any _ _ _ s (t / 2 * 2 + 1) x w4 hr (by omega) (vr_odd HV.out)
    rw [← e1] at C2
    clear e1
    have HD4 := Lib.hid (HD3.out.set (p := ⟨w2.heap.size, 1, none⟩) (show w1.heap.size ≤ w2.heap.size by omega) (.int .i64 ((t : Int) / 2 * 2 + 1)))
    have HB4 := Lib.hid (HB3.out.other (a := ⟨w2.heap.size, 1, none⟩) (show w.heap.size ≠ w2.heap.size by omega) (.int .i64 ((t : Int) / 2 * 2 + 1)))
    go_wp2_with fail
    refine (C2.out _ HD4.out.1).mono ?_
    rintro e w5 ⟨a, b, d, rfl, hd⟩
    have HD5 := Lib.hid (HD4.out.draw hd.1 hd.2.1)
    have b5 := HB4.out.kp hd.2.1 (by omega)
    clear hd c0 c1 c2 f0 f1 f2 hz
    obtain ⟨c0, c1, c2, f0, f1, f2, hz⟩ := b5.facts
    go_wp2
    refine bodyPost_ret (v := .agg #[.int .i64 a, .int .i64 b, .int .i64 d]) (by simp [results, Try.results34, go_sem, c0, c1, c2]) rfl ⟨a, b, d, rfl, ?_⟩
    exact (((HW1.out.trans (HD5.out.below (by omega))).setCell (by simp) _).setCell (by simp) _).setCell (by simp) _
  · have hcd : decide (0 < c) = false := decide_eq_false hc
    obtain ⟨c0, c1, c2, f0, f1, f2, hz⟩ := HX3.out.facts
    go_wp2_with fail
    refine (bad_any _ _ _ s t x _ HD3.out.1 (by omega) HV.out).mono ?_
    rintro e w5 ⟨a, b, d, rfl, hd⟩
    have HD5 := Lib.hid (HD3.out.draw hd.1 hd.2.1)
    have b5 := HB3.out.kp hd.2.1 (by omega)
    clear hd c0 c1 c2 f0 f1 f2 hz
    obtain ⟨c0, c1, c2, f0, f1, f2, hz⟩ := b5.facts
    go_wp2
    refine bodyPost_ret (v := .agg #[.int .i64 a, .int .i64 b, .int .i64 d]) (by simp [results, Try.results34, go_sem, c0, c1, c2]) rfl ⟨a, b, d, rfl, ?_⟩
    exact (((HW1.out.trans (HD5.out.below (by omega))).setCell (by simp) _).setCell (by simp) _).setCell (by simp) _
set_option maxHeartbeats 1000000 in
theorem count_any (R B N : Nat) (w : World) (h : Rd w R B N) (hN : N ≤ 800000) :
    Calls Try.prog 77 #[.pointer (some ⟨R, 0, none⟩)] w (SomeN R B (N + 2) w) := by
  have HD := Lib.hid (Dr.start h)
  clear h
  go_enter Try.func77, Try.ntmps77
  go_wp2_with fail
  refine (pick_any 12 _ _ _ _ HD.out.1 (by omega)).mono ?_
  rintro e w1 ⟨v, rfl, _, _, hr, hk⟩
  have HD1 := Lib.hid (HD.out.draw hr hk)
  clear hr hk HD
  by_cases hv : v = 0
  · subst hv
    have g := Lib.hid (BI.lit w1 3 [-1, 600, 601, 9223372036854775807])
    have HD2 := Lib.hid (HD1.out.alloc (.cells #[.int .i64 (-1), .int .i64 600, .int .i64 601, .int .i64 9223372036854775807] 3))
    have hlt1 := HD1.out.1.lt.1
    go_wp2_with fail
    refine (num_any [-1, 600, 601, 9223372036854775807] w1.heap.size 4 _ _ _ _ HD2.out.1 (by omega) g.out (by omega) (by decide) (by decide)).mono ?_
    rintro e w3 ⟨y, rfl, _, hr, hk⟩
    have HD3 := Lib.hid (HD2.out.draw hr hk)
    clear hr hk
    go_wp2
    go_ret
    exact ⟨y, rfl, HD3.out⟩
  · have d0 : (v == 0) = false := by rw [beq_eq_false_iff_ne]; exact hv
    go_wp2_with fail
    refine (pick_any 40 _ _ _ _ HD1.out.1 (by omega)).mono ?_
    rintro e w3 ⟨y, rfl, _, _, hr, hk⟩
    have HD3 := Lib.hid (HD1.out.draw hr hk)
    clear hr hk
    go_wp2
    go_ret
    exact ⟨y, rfl, HD3.out⟩
set_option maxHeartbeats 2000000 in
theorem drawRun (A : Option Addr) (len cap : Nat) (w : World) (h : CodeB w w.heap.size A len) (hl : len ≤ cap) (hm : len ≤ maxLen) :
    Calls Try.prog 39 #[.slice A len cap] w (SomeRI w) := by
  have hw0 := (Below.refl w.heap.size w).alloc (Nat.le_refl _) (.cells #[.int .i64 0, .int .i64 0, .int .i64 0] 35)
  have C := Lib.hid (open_any A len cap w.heap.size _ (h.below hw0) (by simp) hl hm)
  rw [World.size_alloc] at C
  have HW := Lib.hid hw0
  have HB := Lib.hid (B3.new w 35 (.int .i64 0) (.int .i64 0) (.int .i64 0))
  clear h hl hm hw0
  go_enter Try.func39, Try.ntmps39
  go_wp2_with fail
  refine C.out.mono ?_
  rintro e w1 ⟨rfl, hr, hb⟩
  have HD1 := Lib.hid (Dr.start hr)
  have HW1 := Lib.hid (HW.out.trans (hb.mono (by omega)))
  have HB1 := Lib.hid (HB.out.below hb (by omega))
  clear hr hb HW HB C
  go_wp2_with fail
  refine (l1open_any _ _ _ _ HD1.out.1 (by omega)).mono ?_
  rintro e w2 ⟨s, t, x, rfl, hd⟩
  have HD2 := Lib.hid ((HD1.out.draw hd.1 hd.2.1).alloc (.cells #[.int .i64 s, .int .i64 t, .int .i64 x] 35))
  have HB2 := Lib.hid ((HB1.out.kp hd.2.1 (by omega)).alloc (.cells #[.int .i64 s, .int .i64 t, .int .i64 x] 35))
  have hlt := hd.1.lt.1
  have HX2 := Lib.hid (B3.new w2 35 (.int .i64 s) (.int .i64 t) (.int .i64 x))
  clear hd HB1
  go_wp2_with fail
  generalize (w2.alloc (.cells #[.int .i64 s, .int .i64 t, .int .i64 x] 35)) = w3 at HD2 HB2 HX2 ⊢
  obtain ⟨c0, c1, c2, f0, f1, f2, hz⟩ := HB2.out.facts
  obtain ⟨c3, c4, c5, f3, f4, f5, hz3⟩ := HX2.out.facts
  have hne1 : w.heap.size ≠ w2.heap.size := by omega
  have hne2 : w2.heap.size ≠ w.heap.size := by omega
  go_region_held3 (fun w' => w'.cell? ⟨w2.heap.size, 0, none⟩ = some (.int .i64 s) ∧ w'.cell? ⟨w2.heap.size, 1, none⟩ = some (.int .i64 t) ∧ w'.cell? ⟨w2.heap.size, 2, none⟩ = some (.int .i64 x)) (go_keep)
    (first | (go_at_call 77; refine (count_any _ _ _ _ (HD2.out.drewN 1).1 (by omega)).mono ?_; rintro e w4 ⟨n, rfl, hd⟩; have HX4 := HX2.out.drewN 1 |>.kp hd.2.1 (by omega); have HB4 := HB2.out.drewN 1 |>.kp hd.2.1 (by omega); obtain ⟨q3, q4, q5, _, _, _, _⟩ := HX4.facts; obtain ⟨q0, q1, q2, _, _, _, _⟩ := HB4.facts))
  go_wp2_with fail
  refine bodyPost_ret (v := .tuple #[.agg #[.int .i64 s, .int .i64 t, .int .i64 x], .int .i64 n]) (by simp [results, Try.results39, go_sem, q0, q1, q2]) rfl ⟨s, t, x, n, rfl, ?_⟩
  exact (((HW1.out.trans ((HD2.out.drewN 1).draw hd.1 hd.2.1 |>.below (by omega))).setCell (by simp) _).setCell (by simp) _).setCell (by simp) _
set_option maxHeartbeats 2000000 in
theorem drawJump (A : Option Addr) (len cap : Nat) (w : World) (h : CodeB w w.heap.size A len) (hl : len ≤ cap) (hm : len ≤ maxLen) :
    Calls Try.prog 42 #[.slice A len cap] w (SomeRI w) := by
  have hw0 := (Below.refl w.heap.size w).alloc (Nat.le_refl _) (.cells #[.int .i64 0, .int .i64 0, .int .i64 0] 35)
  have C := Lib.hid (open_any A len cap w.heap.size _ (h.below hw0) (by simp) hl hm)
  rw [World.size_alloc] at C
  have C2 := Lib.hid fun (w1 : World) (hb : Below w.heap.size w w1) => drawBack A len cap w1 (h.next hb) hl hm
  have HW := Lib.hid hw0
  have HB := Lib.hid (B3.new w 35 (.int .i64 0) (.int .i64 0) (.int .i64 0))
  clear h hl hm hw0
  go_enter Try.func42, Try.ntmps42
  go_wp2_with fail
  refine C.out.mono ?_
  rintro e w1 ⟨rfl, hr, hb⟩
  have HD1 := Lib.hid (Dr.start hr)
  have HW1 := Lib.hid (HW.out.trans (hb.mono (by omega)))
  have HB1 := Lib.hid (HB.out.below hb (by omega))
  clear hr hb HW HB C
  go_wp2_with fail
  refine (C2.out w1 HW1.out).mono ?_
  rintro e w2 ⟨s, t, x, rfl, hd⟩
  have hlt := HD1.out.1.lt.1
  have hz12 := hd.size
  have HD2 := Lib.hid ((HD1.out.call hd).alloc (.cells #[.int .i64 s, .int .i64 t, .int .i64 x] 35))
  have HB2 := Lib.hid ((HB1.out.below hd (by omega)).alloc (.cells #[.int .i64 s, .int .i64 t, .int .i64 x] 35))
  have HX2 := Lib.hid (B3.new w2 35 (.int .i64 s) (.int .i64 t) (.int .i64 x))
  clear hd HB1 C2
  go_wp2_with fail
  refine (pick_any 12 _ _ _ _ HD2.out.1 (by omega)).mono ?_
  rintro e w3 ⟨c, rfl, hc0, _, hr, hk⟩
  have HD3 := Lib.hid (HD2.out.draw hr hk)
  have HB3 := Lib.hid (HB2.out.kp hk (by omega))
  have HX3 := Lib.hid (HX2.out.kp hk (by omega))
  clear hr hk HD2 HB2 HX2
  have hz23 := HX3.out.facts.2.2.2.2.2.2
  have hne1 : w.heap.size ≠ w2.heap.size := by omega
  have hne2 : w2.heap.size ≠ w.heap.size := by omega
  by_cases hc : c = 0
  · subst hc
    go_wp2_with fail
    obtain ⟨c0, c1, c2, f0, f1, f2, hz⟩ := HB3.out.facts
    obtain ⟨c3, c4, c5, f3, f4, f5, hz3⟩ := HX3.out.facts
    have hn1 := World.new_ne w3 _ c3
    have hn2 := World.new_ne w3 _ c4
    have hn3 := World.new_ne w3 _ c5
    have g := Lib.hid (BI.lit (w3.drewN 1) 3 [5000, 5001, -5000, -5001, 9223372036854775807, -9223372036854775808])
    have HD4 := Lib.hid ((HD3.out.drewN 1).alloc (.cells #[.int .i64 5000, .int .i64 5001, .int .i64 (-5000), .int .i64 (-5001), .int .i64 9223372036854775807, .int .i64 (-9223372036854775808)] 3))
    have HB4 := Lib.hid ((HB3.out.drewN 1).alloc (.cells #[.int .i64 5000, .int .i64 5001, .int .i64 (-5000), .int .i64 (-5001), .int .i64 9223372036854775807, .int .i64 (-9223372036854775808)] 3))
    have HX4 := Lib.hid ((HX3.out.drewN 1).alloc (.cells #[.int .i64 5000, .int .i64 5001, .int .i64 (-5000), .int .i64 (-5001), .int .i64 9223372036854775807, .int .i64 (-9223372036854775808)] 3))
    have hR3 := HD3.out.1.lt.1
    have CN := Lib.hid (num_any [5000, 5001, -5000, -5001, 9223372036854775807, -9223372036854775808] w3.heap.size 6 _ _ _ _ HD4.out.1 (by omega) g.out (by omega) (by decide) (by decide))
    clear g
    go_region_held3 (fun w' => w'.cell? ⟨w2.heap.size, 0, none⟩ = some (.int .i64 s) ∧ w'.cell? ⟨w2.heap.size, 1, none⟩ = some (.int .i64 t) ∧ w'.cell? ⟨w2.heap.size, 2, none⟩ = some (.int .i64 x)) (go_keep)
      (first | (go_at_call 70; refine CN.out.mono ?_; rintro e w5 ⟨n, rfl, _, hr, hk⟩; have HX5 := HX4.out.kp hk (by omega); have HB5 := HB4.out.kp hk (by omega); obtain ⟨q3, q4, q5, _, _, _, _⟩ := HX5.facts; obtain ⟨q0, q1, q2, _, _, _, _⟩ := HB5.facts))
    go_wp2_with fail
    refine bodyPost_ret (v := .tuple #[.agg #[.int .i64 s, .int .i64 t, .int .i64 x], .int .i64 n]) (by simp [results, Try.results42, go_sem, q0, q1, q2]) rfl ⟨s, t, x, n, rfl, ?_⟩
    exact (((HW1.out.trans (HD4.out.draw hr hk |>.below (by omega))).setCell (by simp) _).setCell (by simp) _).setCell (by simp) _
  · have hcd : (c == 0) = false := by rw [beq_eq_false_iff_ne]; exact hc
    go_wp2_with fail
    obtain ⟨c0, c1, c2, f0, f1, f2, hz⟩ := HB3.out.facts
    obtain ⟨c3, c4, c5, f3, f4, f5, hz3⟩ := HX3.out.facts
    have CN := Lib.hid (pick_any 256 _ _ _ w3.drew (HD3.out.drewN 1).1 (by omega))
    go_region_held3 (fun w' => w'.cell? ⟨w2.heap.size, 0, none⟩ = some (.int .i64 s) ∧ w'.cell? ⟨w2.heap.size, 1, none⟩ = some (.int .i64 t) ∧ w'.cell? ⟨w2.heap.size, 2, none⟩ = some (.int .i64 x)) (go_keep)
      (first | (go_at_call 69; (with_reducible refine CN.out.mono ?_); rintro e w5 ⟨n, rfl, _, _, hr, hk⟩; have HX5 := (HX3.out.drewN 1).kp hk (by omega); have HB5 := (HB3.out.drewN 1).kp hk (by omega); obtain ⟨q3, q4, q5, _, _, _, _⟩ := HX5.facts; obtain ⟨q0, q1, q2, _, _, _, _⟩ := HB5.facts) | (go_at_call 69; refine (pick_any 100 _ _ _ _ hr (by omega)).mono ?_; rintro e w6 ⟨m, rfl, _, _, hr6, hk6⟩; have HX6 := HX5.kp hk6 (by omega); have HB6 := HB5.kp hk6 (by omega); obtain ⟨q3, q4, q5, _, _, _, _⟩ := HX6.facts; obtain ⟨q0, q1, q2, _, _, _, _⟩ := HB6.facts))
    go_wp2_with fail
    refine bodyPost_ret (v := .tuple #[.agg #[.int .i64 s, .int .i64 t, .int .i64 x], .int .i64 (IntKind.i64.wrap (IntKind.i64.wrap (n + m) - 170))]) (by simp [results, Try.results42, go_sem, q0, q1, q2]) rfl ⟨s, t, x, _, rfl, ?_⟩
    exact (((HW1.out.trans (((HD3.out.drewN 1).draw hr hk).draw hr6 hk6 |>.below (by omega))).setCell (by simp) _).setCell (by simp) _).setCell (by simp) _
/-- two registers come back -/
def SomeRR (w : World) (e : Ending) (w' : World) : Prop := ∃ s t x s2 t2 x2 : Int, e = .returned (.tuple #[.agg #[.int .i64 s, .int .i64 t, .int .i64 x], .agg #[.int .i64 s2, .int .i64 t2, .int .i64 x2]]) ∧ Below w.heap.size w w'
/-- where drawing two registers stands: both results, both registers -/
def Two (w w1 : World) (R N g h s t x s2 t2 x2 : Nat) (wr : World) : Prop :=
  Dr w1 R w.heap.size N wr ∧ B3 wr w.heap.size 35 (.int .i64 0) (.int .i64 0) (.int .i64 0) ∧ B3 wr (w.heap.size + 1) 35 (.int .i64 0) (.int .i64 0) (.int .i64 0) ∧
  B3 wr g 35 (.int .i64 s) (.int .i64 t) (.int .i64 x) ∧ B3 wr h 35 (.int .i64 s2) (.int .i64 t2) (.int .i64 x2)
theorem Two.draw {w w1 wr w' : World} {R N M g h s t x s2 t2 x2 : Nat} (H : Two w w1 R N g h s t x s2 t2 x2 wr) (hr : Rd w' R w.heap.size M) (hk : Kp R wr w') (h1 : w.heap.size + 1 < R) (h2 : g ≠ R) (h3 : h ≠ R) : Two w w1 R M g h s t x s2 t2 x2 w' :=
  ⟨H.1.draw hr hk, H.2.1.kp hk (by omega), H.2.2.1.kp hk (by omega), H.2.2.2.1.kp hk h2, H.2.2.2.2.kp hk h3⟩
theorem Two.drewN {w w1 wr : World} {R N g h s t x s2 t2 x2 : Nat} (H : Two w w1 R N g h s t x s2 t2 x2 wr) (n : Nat) : Two w w1 R N g h s t x s2 t2 x2 (wr.drewN n) :=
  ⟨H.1.drewN n, H.2.1.drewN n, H.2.2.1.drewN n, H.2.2.2.1.drewN n, H.2.2.2.2.drewN n⟩
set_option maxHeartbeats 2000000 in
theorem drawAdd (A : Option Addr) (len cap : Nat) (w : World) (h : CodeB w w.heap.size A len) (hl : len ≤ cap) (hm : len ≤ maxLen) :
    Calls Try.prog 45 #[.slice A len cap] w (SomeRR w) := by
  have hw0 := ((Below.refl w.heap.size w).alloc (Nat.le_refl _) (.cells #[.int .i64 0, .int .i64 0, .int .i64 0] 35)).alloc (by simp) (.cells #[.int .i64 0, .int .i64 0, .int .i64 0] 35)
  have C := Lib.hid (open_any A len cap w.heap.size _ (h.below hw0) (by simp; omega) hl hm)
  simp only [World.size_alloc] at C
  have HW := Lib.hid hw0
  have HB := Lib.hid ((B3.new w 35 (.int .i64 0) (.int .i64 0) (.int .i64 0)).alloc (.cells #[.int .i64 0, .int .i64 0, .int .i64 0] 35))
  have bc := B3.new (w.alloc (.cells #[.int .i64 0, .int .i64 0, .int .i64 0] 35)) 35 (.int .i64 0) (.int .i64 0) (.int .i64 0)
  rw [World.size_alloc] at bc
  have HC := Lib.hid bc
  clear h hl hm hw0 bc
  go_enter Try.func45, Try.ntmps45
  go_wp2_with fail
  refine C.out.mono ?_
  rintro e w1 ⟨rfl, hr, hb⟩
  have HD1 := Lib.hid (Dr.start hr)
  have HW1 := Lib.hid (HW.out.trans (hb.mono (by omega)))
  have HB1 := Lib.hid (HB.out.below hb (by omega))
  have HC1 := Lib.hid (HC.out.below hb (by omega))
  clear hr hb HW HB HC C
  go_wp2_with fail
  refine (some_any _ _ _ _ HD1.out.1 (by omega)).mono ?_
  rintro e w2 ⟨s, t, x, rfl, hv, hd⟩
  have hlt := hd.1.lt.1
  have hz12 := hd.2.1.size
  have HD2 := Lib.hid (((HD1.out.draw hd.1 hd.2.1).alloc (.cells #[.int .i64 s, .int .i64 t, .int .i64 x] 35)).alloc (.cells #[.int .i64 s, .int .i64 t, .int .i64 x] 35))
  have HB2 := Lib.hid (((HB1.out.kp hd.2.1 (by omega)).alloc (.cells #[.int .i64 s, .int .i64 t, .int .i64 x] 35)).alloc (.cells #[.int .i64 s, .int .i64 t, .int .i64 x] 35))
  have HC2 := Lib.hid (((HC1.out.kp hd.2.1 (by omega)).alloc (.cells #[.int .i64 s, .int .i64 t, .int .i64 x] 35)).alloc (.cells #[.int .i64 s, .int .i64 t, .int .i64 x] 35))
  have HX2 := Lib.hid ((B3.new w2 35 (.int .i64 s) (.int .i64 t) (.int .i64 x)).alloc (.cells #[.int .i64 s, .int .i64 t, .int .i64 x] 35))
  have y2 := B3.new (w2.alloc (.cells #[.int .i64 s, .int .i64 t, .int .i64 x] 35)) 35 (.int .i64 s) (.int .i64 t) (.int .i64 x)
  rw [World.size_alloc] at y2
  have HT := Lib.hid (show Two w w1 _ _ w2.heap.size (w2.heap.size + 1) s t x s t x _ from ⟨HD2.out, HB2.out, HC2.out, HX2.out, y2⟩)
  have HV := Lib.hid hv
  have h8 := hv.2.1
  obtain ⟨p, HP⟩ : ∃ p, Hid (p = 2 ^ s) := ⟨2 ^ s, Lib.hid rfl⟩
  have C3 := Lib.hid fun w => two_p s p w h8 HP
  clear hd HB1 HC1 hv HD2 HB2 HC2 HX2 y2
  go_wp2_with fail
  refine (C3.out _).mono ?_
  rintro e w' ⟨rfl, rfl⟩
  go_wp2_with fail
  refine (pick_any _ _ _ _ _ HT.out.1.1 (by omega)).mono ?_
  rintro e w3 ⟨v, rfl, hv0, hv1, hr, hk⟩
  have HT3 := Lib.hid (HT.out.draw hr hk (by omega) (by omega) (by omega))
  clear hr hk HT
  obtain ⟨x2, rfl⟩ := Int.eq_ofNat_of_zero_le hv0
  have HV2 : Hid (VR s t x2) := by
    obtain ⟨u1, u2, u3, u4, u5⟩ := HV.out
    have hp4 : 4 ≤ p := by rw [HP.out]; exact Nat.pow_le_pow_right (n := 2) (by decide) u1
    have := hv1 (by omega)
    exact ⟨u1, u2, u3, u4, by rw [← HP.out]; omega⟩
  clear hv1 hv0
  obtain ⟨c0, c1, c2, f0, f1, f2, hz⟩ := HT3.out.2.2.2.2.facts
  have HT4 : Hid (Two w w1 (w.heap.size + 1 + 1) _ w2.heap.size (w2.heap.size + 1) s t x s t x2 (w3.setCell ⟨w2.heap.size + 1, 2, none⟩ (.int .i64 (x2 : Int)))) :=
    Lib.hid ⟨HT3.out.1.set (show w1.heap.size ≤ w2.heap.size + 1 by omega) _, HT3.out.2.1.other (show w.heap.size ≠ w2.heap.size + 1 by omega) _, HT3.out.2.2.1.other (show w.heap.size + 1 ≠ w2.heap.size + 1 by omega) _, HT3.out.2.2.2.1.other (show w2.heap.size ≠ w2.heap.size + 1 by omega) _, HT3.out.2.2.2.2.set2 _⟩
  go_wp2_with fail
  refine (pick_any 8 _ _ _ _ HT4.out.1.1 (by omega)).mono ?_
  rintro e w5 ⟨c, rfl, _, _, hr, hk⟩
  have HT5 := Lib.hid (HT4.out.draw hr hk (by omega) (by omega) (by omega))
  clear hr hk HT4 HT3 c0 c1 c2 f0 f1 f2 hz
  by_cases hc : c = 0
  · subst hc
    go_wp2_with fail
    refine (some_any _ _ _ _ HT5.out.1.1 (by omega)).mono ?_
    rintro e w6 ⟨s2, t2, x3, rfl, hv, hd⟩
    have HT6 := Lib.hid (HT5.out.draw hd.1 hd.2.1 (by omega) (by omega) (by omega))
    have HV3 := Lib.hid hv
    clear hd HT5 hv HV2
    obtain ⟨c0, c1, c2, f0, f1, f2, hz⟩ := HT6.out.2.2.2.2.facts
    have HT7 : Hid (Two w w1 (w.heap.size + 1 + 1) _ w2.heap.size (w2.heap.size + 1) s t x s2 t2 x3 (((w6.setCell ⟨w2.heap.size + 1, 0, none⟩ (.int .i64 (s2 : Int))).setCell ⟨w2.heap.size + 1, 1, none⟩ (.int .i64 (t2 : Int))).setCell ⟨w2.heap.size + 1, 2, none⟩ (.int .i64 (x3 : Int)))) :=
      Lib.hid ⟨((HT6.out.1.set (show w1.heap.size ≤ w2.heap.size + 1 by omega) _).set (show w1.heap.size ≤ w2.heap.size + 1 by omega) _).set (show w1.heap.size ≤ w2.heap.size + 1 by omega) _, ((HT6.out.2.1.other (show w.heap.size ≠ w2.heap.size + 1 by omega) _).other (show w.heap.size ≠ w2.heap.size + 1 by omega) _).other (show w.heap.size ≠ w2.heap.size + 1 by omega) _, ((HT6.out.2.2.1.other (show w.heap.size + 1 ≠ w2.heap.size + 1 by omega) _).other (show w.heap.size + 1 ≠ w2.heap.size + 1 by omega) _).other (show w.heap.size + 1 ≠ w2.heap.size + 1 by omega) _, ((HT6.out.2.2.2.1.other (show w2.heap.size ≠ w2.heap.size + 1 by omega) _).other (show w2.heap.size ≠ w2.heap.size + 1 by omega) _).other (show w2.heap.size ≠ w2.heap.size + 1 by omega) _, HT6.out.2.2.2.2.set012 _ _ _⟩
    clear HT6
    go_upto_region 7 with fail
    generalize (((w6.setCell ⟨w2.heap.size + 1, 0, none⟩ (.int .i64 (s2 : Int))).setCell ⟨w2.heap.size + 1, 1, none⟩ (.int .i64 (t2 : Int))).setCell ⟨w2.heap.size + 1, 2, none⟩ (.int .i64 (x3 : Int))) = w7 at HT7 ⊢
    clear c0 c1 c2 f0 f1 f2 hz
    go_wp2_with fail
    obtain ⟨c0, c1, c2, f0, f1, f2, hz⟩ := HT7.out.2.1.facts
    obtain ⟨c3, c4, c5, f3, f4, f5, hz3⟩ := HT7.out.2.2.1.facts
    obtain ⟨a0, a1, a2, _, _, _, _⟩ := HT7.out.2.2.2.1.facts
    obtain ⟨b0, b1, b2, _, _, _, _⟩ := HT7.out.2.2.2.2.facts
    have hne1 : w.heap.size ≠ w2.heap.size := by omega
    have hne2 : w2.heap.size ≠ w.heap.size := by omega
    have hne3 : w.heap.size ≠ w2.heap.size + 1 := by omega
    have hne4 : w2.heap.size + 1 ≠ w.heap.size := by omega
    have hne5 : w.heap.size + 1 ≠ w2.heap.size := by omega
    have hne6 : w2.heap.size ≠ w.heap.size + 1 := by omega
    have CN := Lib.hid (bad_any _ _ _ s t x w7.drew (HT7.out.drewN 1).1.1 (by omega) HV.out)
    go_region_held3 (fun w' => w'.cell? ⟨w2.heap.size, 0, none⟩ = some (.int .i64 s) ∧ w'.cell? ⟨w2.heap.size, 1, none⟩ = some (.int .i64 t) ∧ w'.cell? ⟨w2.heap.size, 2, none⟩ = some (.int .i64 x) ∧ w'.cell? ⟨w2.heap.size + 1, 0, none⟩ = some (.int .i64 s2) ∧ w'.cell? ⟨w2.heap.size + 1, 1, none⟩ = some (.int .i64 t2) ∧ w'.cell? ⟨w2.heap.size + 1, 2, none⟩ = some (.int .i64 x3)) (go_keep)
      (first | (go_at_call 73; (with_reducible refine CN.out.mono ?_); rintro e w8 ⟨n1, n2, n3, rfl, hd⟩; have H8 := (HT7.out.drewN 1).draw hd.1 hd.2.1 (by omega) (by omega) (by omega); obtain ⟨q0, q1, q2, _, _, _, _⟩ := H8.2.1.facts; obtain ⟨q3, q4, q5, _, _, _, _⟩ := H8.2.2.1.facts; obtain ⟨d0, d1, d2, _, _, _, _⟩ := H8.2.2.2.1.facts; obtain ⟨g0, g1, g2, _, _, _, _⟩ := H8.2.2.2.2.facts) | (go_at_call 73; refine (bad_any _ _ _ s2 t2 x3 _ H8.1.1 (by omega) HV3.out).mono ?_; rintro e w9 ⟨k1, k2, k3, rfl, hd9⟩; have H9 := H8.draw hd9.1 hd9.2.1 (by omega) (by omega) (by omega); obtain ⟨q0, q1, q2, _, _, _, _⟩ := H9.2.1.facts; obtain ⟨q3, q4, q5, _, _, _, _⟩ := H9.2.2.1.facts; obtain ⟨d0, d1, d2, _, _, _, _⟩ := H9.2.2.2.1.facts; obtain ⟨g0, g1, g2, _, _, _, _⟩ := H9.2.2.2.2.facts))
    go_wp2_with fail
    refine bodyPost_ret (v := .tuple #[.agg #[.int .i64 n1, .int .i64 n2, .int .i64 n3], .agg #[.int .i64 k1, .int .i64 k2, .int .i64 k3]]) (by simp [results, Try.results45, go_sem, q0, q1, q2, q3, q4, q5]) rfl ⟨n1, n2, n3, k1, k2, k3, rfl, ?_⟩
    exact (((((((HW1.out.trans (H9.1.below (by omega))).setCell (by simp) _).setCell (by simp) _).setCell (by simp) _)).setCell (by simp) _).setCell (by simp) _).setCell (by simp) _
  · have hcd : (c == 0) = false := by rw [beq_eq_false_iff_ne]; exact hc
    go_wp2_with fail
    obtain ⟨c0, c1, c2, f0, f1, f2, hz⟩ := HT5.out.2.1.facts
    obtain ⟨c3, c4, c5, f3, f4, f5, hz3⟩ := HT5.out.2.2.1.facts
    obtain ⟨a0, a1, a2, _, _, _, _⟩ := HT5.out.2.2.2.1.facts
    obtain ⟨b0, b1, b2, _, _, _, _⟩ := HT5.out.2.2.2.2.facts
    have hne1 : w.heap.size ≠ w2.heap.size := by omega
    have hne2 : w2.heap.size ≠ w.heap.size := by omega
    have hne3 : w.heap.size ≠ w2.heap.size + 1 := by omega
    have hne4 : w2.heap.size + 1 ≠ w.heap.size := by omega
    have hne5 : w.heap.size + 1 ≠ w2.heap.size := by omega
    have hne6 : w2.heap.size ≠ w.heap.size + 1 := by omega
    have CN := Lib.hid (bad_any _ _ _ s t x w5.drew (HT5.out.drewN 1).1.1 (by omega) HV.out)
    go_region_held3 (fun w' => w'.cell? ⟨w2.heap.size, 0, none⟩ = some (.int .i64 s) ∧ w'.cell? ⟨w2.heap.size, 1, none⟩ = some (.int .i64 t) ∧ w'.cell? ⟨w2.heap.size, 2, none⟩ = some (.int .i64 x) ∧ w'.cell? ⟨w2.heap.size + 1, 0, none⟩ = some (.int .i64 s) ∧ w'.cell? ⟨w2.heap.size + 1, 1, none⟩ = some (.int .i64 t) ∧ w'.cell? ⟨w2.heap.size + 1, 2, none⟩ = some (.int .i64 x2)) (go_keep)
      (first | (go_at_call 73; (with_reducible refine CN.out.mono ?_); rintro e w8 ⟨n1, n2, n3, rfl, hd⟩; have H8 := (HT5.out.drewN 1).draw hd.1 hd.2.1 (by omega) (by omega) (by omega); obtain ⟨q0, q1, q2, _, _, _, _⟩ := H8.2.1.facts; obtain ⟨q3, q4, q5, _, _, _, _⟩ := H8.2.2.1.facts; obtain ⟨d0, d1, d2, _, _, _, _⟩ := H8.2.2.2.1.facts; obtain ⟨g0, g1, g2, _, _, _, _⟩ := H8.2.2.2.2.facts) | (go_at_call 73; refine (bad_any _ _ _ s t x2 _ H8.1.1 (by omega) HV2.out).mono ?_; rintro e w9 ⟨k1, k2, k3, rfl, hd9⟩; have H9 := H8.draw hd9.1 hd9.2.1 (by omega) (by omega) (by omega); obtain ⟨q0, q1, q2, _, _, _, _⟩ := H9.2.1.facts; obtain ⟨q3, q4, q5, _, _, _, _⟩ := H9.2.2.1.facts; obtain ⟨d0, d1, d2, _, _, _, _⟩ := H9.2.2.2.1.facts; obtain ⟨g0, g1, g2, _, _, _, _⟩ := H9.2.2.2.2.facts))
    go_wp2_with fail
    refine bodyPost_ret (v := .tuple #[.agg #[.int .i64 n1, .int .i64 n2, .int .i64 n3], .agg #[.int .i64 k1, .int .i64 k2, .int .i64 k3]]) (by simp [results, Try.results45, go_sem, q0, q1, q2, q3, q4, q5]) rfl ⟨n1, n2, n3, k1, k2, k3, rfl, ?_⟩
    exact (((((((HW1.out.trans (H9.1.below (by omega))).setCell (by simp) _).setCell (by simp) _).setCell (by simp) _)).setCell (by simp) _).setCell (by simp) _).setCell (by simp) _
end Go.Proofs.Ytmlmbinpkmdjjaa
