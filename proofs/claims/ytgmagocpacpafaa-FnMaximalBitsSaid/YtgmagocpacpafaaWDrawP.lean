/- Contracts of further functions that draw the arguments of the laws on registers. -/
import Derived.Test.YtgmagocpacpafaaWDrawL
namespace Go.Proofs.Ytgmagocpacpafaa
open Go.RowKit SS
set_option maxRecDepth 100000
/-- two numbers come back -/
def SomeII (w : World) (e : Ending) (w' : World) : Prop := ∃ s t : Int, e = .returned (.tuple #[.int .i64 s, .int .i64 t]) ∧ Below w.heap.size w w'
set_option maxHeartbeats 1000000 in
theorem drawPeriod (A : Option Addr) (len cap : Nat) (w : World) (h : CodeB w w.heap.size A len) (hl : len ≤ cap) (hm : len ≤ maxLen) :
    Calls Try.prog 15 #[.slice A len cap] w (SomeR w) := by
  have hw0 := (Below.refl w.heap.size w).alloc (Nat.le_refl _) (.cells #[.int .i64 0, .int .i64 0, .int .i64 0] 24)
  have C := Lib.hid (open_any A len cap w.heap.size _ (h.below hw0) (by simp) hl hm)
  rw [World.size_alloc] at C
  have HW := Lib.hid hw0
  have HB := Lib.hid (B3.new w 24 (.int .i64 0) (.int .i64 0) (.int .i64 0))
  clear h hl hm hw0
  go_enter Try.func15, Try.ntmps15
  go_wp2_with fail
  refine C.out.mono ?_
  rintro e w1 ⟨rfl, hr, hb⟩
  have HD1 := Lib.hid (Dr.start hr)
  have HW1 := Lib.hid (HW.out.trans (hb.mono (by omega)))
  have HB1 := Lib.hid (HB.out.below hb (by omega))
  clear hr hb HW HB C
  go_wp2_with fail
  refine (l1open_any _ _ _ _ HD1.out.1 (by omega)).mono ?_
  rintro e w2 ⟨s, t, x, rfl, hd⟩
  have HD2 := Lib.hid (HD1.out.draw hd.1 hd.2.1)
  have b2 := HB1.out.kp hd.2.1 (by omega)
  clear hd HB1 HD1
  obtain ⟨c0, c1, c2, f0, f1, f2, hz⟩ := b2.facts
  go_wp2
  refine bodyPost_ret (v := .agg #[.int .i64 s, .int .i64 t, .int .i64 x]) (by simp [results, Try.results15, go_sem, c0, c1, c2]) rfl ⟨s, t, x, rfl, ?_⟩
  exact (((HW1.out.trans (HD2.out.below (by omega))).setCell (by simp) _).setCell (by simp) _).setCell (by simp) _
set_option maxHeartbeats 1000000 in
theorem drawReverse (A : Option Addr) (len cap : Nat) (w : World) (h : CodeB w w.heap.size A len) (hl : len ≤ cap) (hm : len ≤ maxLen) :
    Calls Try.prog 27 #[.slice A len cap] w (SomeII w) := by
  have C := Lib.hid (drawBack A len cap w h hl hm)
  clear h hl hm
  go_enter Try.func27, Try.ntmps27
  go_wp2_with fail
  refine C.out.mono ?_
  rintro e w1 ⟨s, t, x, rfl, hb⟩
  have HW := Lib.hid (hb.alloc hb.size (.cells #[.int .i64 s, .int .i64 t, .int .i64 x] 24))
  obtain ⟨c0, c1, c2, f0, f1, f2, hz⟩ := (B3.new w1 24 (.int .i64 s) (.int .i64 t) (.int .i64 x)).facts
  clear hb C
  go_wp2_with fail
  go_quiet (fail)
  go_wp2
  go_ret2
  exact ⟨s, t, rfl, below_drewN HW.out _⟩
set_option maxHeartbeats 1000000 in
theorem drawMaxTaps (A : Option Addr) (len cap : Nat) (w : World) (h : CodeB w w.heap.size A len) (hl : len ≤ cap) (hm : len ≤ maxLen) :
    Calls Try.prog 36 #[.slice A len cap] w fun e w' => ∃ x : Int, e = .returned (.int .i64 x) ∧ Below w.heap.size w w' := by
  have C := Lib.hid (open_any A len cap w.heap.size w h (Nat.le_refl _) hl hm)
  clear h hl hm
  go_enter Try.func36, Try.ntmps36
  go_wp2_with fail
  refine C.out.mono ?_
  rintro e w1 ⟨rfl, hr, hb⟩
  have HR := Lib.hid hr
  have HB := Lib.hid hb
  clear hr hb C
  go_wp2_with fail
  refine (pick_any 10 _ _ _ _ HR.out (by omega)).mono ?_
  rintro e w2 ⟨v, rfl, hv0, hv1, hr, hk⟩
  have HR2 := Lib.hid hr
  have HB2 := Lib.hid (HB.out.trans hk.1)
  have hlt := hr.lt.1
  clear hr hk HR HB
  by_cases hv : v = 0
  · subst hv
    have g := Lib.hid (BI.lit w2 3 [1, 9, -1, 9223372036854775807])
    have HR3 := Lib.hid (HR2.out.alloc (.cells #[.int .i64 1, .int .i64 9, .int .i64 (-1), .int .i64 9223372036854775807] 3))
    have HB3 := Lib.hid (HB2.out.alloc HB2.out.size (.cells #[.int .i64 1, .int .i64 9, .int .i64 (-1), .int .i64 9223372036854775807] 3))
    go_wp2_with fail
    refine (num_any [1, 9, -1, 9223372036854775807] w2.heap.size 4 _ _ _ _ HR3.out (by omega) g.out (by omega) (by decide) (by decide)).mono ?_
    rintro e w3 ⟨x, rfl, hx, hr, hk⟩
    have HB4 := Lib.hid (HB3.out.trans hk.1)
    clear hr hk hx
    go_wp2
    go_ret
    exact ⟨x, rfl, HB4.out⟩
  · have hd : (v == 0) = false := by rw [beq_eq_false_iff_ne]; exact hv
    have g := Lib.hid (BI.lit w2 3 [2, 3, 4, 5, 6, 7, 8])
    have HR3 := Lib.hid (HR2.out.alloc (.cells #[.int .i64 2, .int .i64 3, .int .i64 4, .int .i64 5, .int .i64 6, .int .i64 7, .int .i64 8] 3))
    have HB3 := Lib.hid (HB2.out.alloc HB2.out.size (.cells #[.int .i64 2, .int .i64 3, .int .i64 4, .int .i64 5, .int .i64 6, .int .i64 7, .int .i64 8] 3))
    go_wp2_with fail
    refine (num_any [2, 3, 4, 5, 6, 7, 8] w2.heap.size 7 _ _ _ _ HR3.out (by omega) g.out (by omega) (by decide) (by decide)).mono ?_
    rintro e w3 ⟨x, rfl, hx, hr, hk⟩
    have HB4 := Lib.hid (HB3.out.trans hk.1)
    clear hr hk hx
    go_wp2
    go_ret
    exact ⟨x, rfl, HB4.out⟩
end Go.Proofs.Ytgmagocpacpafaa
