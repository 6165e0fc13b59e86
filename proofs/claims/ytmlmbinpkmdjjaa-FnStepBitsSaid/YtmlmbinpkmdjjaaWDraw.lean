/- Contracts of the functions that draw registers and numbers: that a value comes back, and of which kind. -/
import Derived.Test.YtmlmbinpkmdjjaaWRead
import Derived.Test.YtmlmbinpkmdjjaaWJump
namespace Go.Proofs.Ytmlmbinpkmdjjaa
open Go.RowKit SS
/-- some number of the machine's comes back -/
def SomeI (w : World) (e : Ending) (w' : World) : Prop := ∃ x : Int, e = .returned (.int .i64 x) ∧ -9223372036854775808 ≤ x ∧ x ≤ 9223372036854775807 ∧ Below w.heap.size w w'
/-- some register comes back -/
def SomeR (w : World) (e : Ending) (w' : World) : Prop := ∃ s t x : Int, e = .returned (.agg #[.int .i64 s, .int .i64 t, .int .i64 x]) ∧ Below w.heap.size w w'
theorem BI.lit (w : World) (T : TypeId) (l : List Int) : BI (w.alloc (.cells (l.map (Value.int .i64)).toArray T)) w.heap.size T l := heap_alloc_new w _
theorem Kp.belowB {R B : Nat} {w w' : World} (h : Kp R w w') (hB : B ≤ R) : Below B w w' := h.1.mono hB
theorem mem_5 {x a b c d e : Int} {p : Int → Prop} (h : x ∈ [a, b, c, d, e]) (ha : p a) (hb : p b) (hc : p c) (hd : p d) (he : p e) : p x := by
  simp at h
  rcases h with rfl | rfl | rfl | rfl | rfl <;> assumption
set_option maxHeartbeats 1000000 in
theorem drawParity (A : Option Addr) (len cap : Nat) (w : World) (h : CodeB w w.heap.size A len) (hl : len ≤ cap) (hm : len ≤ maxLen) :
    Calls Try.prog 31 #[.slice A len cap] w (SomeI w) := by
  have C := Lib.hid (open_any A len cap w.heap.size w h (Nat.le_refl _) hl hm)
  clear h hl hm
  go_enter Try.func31, Try.ntmps31
  go_wp2_with fail
  refine C.out.mono ?_
  rintro e w1 ⟨rfl, hr, hb⟩
  have HR := Lib.hid hr
  have HB := Lib.hid hb
  clear hr hb C
  go_wp2_with fail
  refine (pick_any 6 _ _ _ _ HR.out (by omega)).mono ?_
  rintro e w2 ⟨v, rfl, hv0, hv1, hr, hk⟩
  have HR2 := Lib.hid hr
  have HB2 := Lib.hid (HB.out.trans hk.1)
  clear hr hk HR HB
  by_cases hv : v = 0
  · subst hv
    have g := Lib.hid (BI.lit w2 3 [0, -1, 1, 9223372036854775807, -9223372036854775808])
    have HR3 := Lib.hid (HR2.out.alloc (.cells #[.int .i64 0, .int .i64 (-1), .int .i64 1, .int .i64 9223372036854775807, .int .i64 (-9223372036854775808)] 3))
    have hlt := HR2.out.lt.1
    have HB3 := Lib.hid (HB2.out.alloc HB2.out.size (.cells #[.int .i64 0, .int .i64 (-1), .int .i64 1, .int .i64 9223372036854775807, .int .i64 (-9223372036854775808)] 3))
    go_wp2_with fail
    refine (num_any [0, -1, 1, 9223372036854775807, -9223372036854775808] w2.heap.size 5 _ _ _ _ HR3.out (by omega) g.out (by omega) (by decide) (by decide)).mono ?_
    rintro e w3 ⟨x, rfl, hx, hr, hk⟩
    have HB4 := Lib.hid (HB3.out.trans hk.1)
    have HX := Lib.hid (mem_5 (p := fun x => -9223372036854775808 ≤ x ∧ x ≤ 9223372036854775807) hx (by omega) (by omega) (by omega) (by omega) (by omega))
    clear hr hk hx
    go_wp2
    go_ret
    exact ⟨x, rfl, HX.out.1, HX.out.2, HB4.out⟩
  · have hd : (v == 0) = false := by rw [beq_eq_false_iff_ne]; exact hv
    go_wp2_with fail
    refine (pick_any 256 _ _ _ _ HR2.out (by omega)).mono ?_
    rintro e w3 ⟨a, rfl, ha0, ha1, hr, hk⟩
    have ha1 := ha1 (by decide)
    have HR3 := Lib.hid hr
    have HB3 := Lib.hid (HB2.out.trans hk.1)
    clear hr hk HR2 HB2
    go_wp2_with fail
    refine (pick_any 256 _ _ _ _ HR3.out (by omega)).mono ?_
    rintro e w4 ⟨b, rfl, hb0, hb1, hr, hk⟩
    have hb1 := hb1 (by decide)
    have HR4 := Lib.hid hr
    have HB4 := Lib.hid (HB3.out.trans hk.1)
    clear hr hk HR3 HB3
    have hab0 : 0 ≤ a * b := Int.mul_nonneg ha0 hb0
    have hab1 : a * b ≤ 255 * 255 := Int.mul_le_mul (by omega) (by omega) hb0 (by omega)
    go_wp2_with fail
    refine (pick_any 256 _ _ _ _ HR4.out (by omega)).mono ?_
    rintro e w5 ⟨c, rfl, hc0, hc1, hr, hk⟩
    have hc1 := hc1 (by decide)
    have HB5 := Lib.hid (HB4.out.trans hk.1)
    clear hr hk HR4 HB4
    go_wp2
    go_ret
    exact ⟨_, rfl, by omega, by omega, HB5.out⟩
end Go.Proofs.Ytmlmbinpkmdjjaa
