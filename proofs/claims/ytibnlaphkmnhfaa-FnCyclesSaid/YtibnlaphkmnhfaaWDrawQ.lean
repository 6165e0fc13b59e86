/- Contracts of the functions that draw a size and taps. -/
import Derived.Test.YtibnlaphkmnhfaaWDrawP
namespace Go.Proofs.Ytibnlaphkmnhfaa
open Go.RowKit SS
set_option maxRecDepth 100000
theorem drawCycles (A : Option Addr) (len cap : Nat) (w : World) (h : CodeB w w.heap.size A len) (hl : len ≤ cap) (hm : len ≤ maxLen) :
    Calls Try.prog 48 #[.slice A len cap] w (SomeII w) := by
  have C := Lib.hid (open_any A len cap w.heap.size w h (Nat.le_refl _) hl hm)
  clear h hl hm
  go_enter Try.func48, Try.ntmps48
  go_wp2_with fail
  refine C.out.mono ?_
  rintro e w1 ⟨rfl, hr, hb⟩
  have HD := Lib.hid (Dr.start hr)
  have HB := Lib.hid hb
  clear hr hb C
  go_wp2_with fail
  refine (l1open_any _ _ _ _ HD.out.1 (by omega)).mono ?_
  rintro e w2 ⟨s, t, x, rfl, hd⟩
  have HD2 := Lib.hid (HD.out.draw hd.1 hd.2.1)
  have HX2 := Lib.hid (B3.new w2 53 (.int .i64 s) (.int .i64 t) (.int .i64 x))
  clear hd HD
  obtain ⟨c0, c1, c2, f0, f1, f2, hz⟩ := HX2.out.facts
  go_wp2_with fail
  go_quiet (fail)
  go_wp2
  go_ret2
  exact ⟨s, t, rfl, HB.out.trans ((((HD2.out.alloc _).drewN _).below (Nat.le_refl _)))⟩
theorem drawIsMax (A : Option Addr) (len cap : Nat) (w : World) (h : CodeB w w.heap.size A len) (hl : len ≤ cap) (hm : len ≤ maxLen) :
    Calls Try.prog 44 #[.slice A len cap] w (SomeII w) := by
  have C := Lib.hid (drawCycles A len cap w h hl hm)
  clear h hl hm
  go_enter Try.func44, Try.ntmps44
  go_wp2_with fail
  refine C.out.mono ?_
  rintro e w1 ⟨s, t, rfl, hb⟩
  go_wp2
  go_ret2
  exact ⟨s, t, rfl, hb⟩
end Go.Proofs.Ytibnlaphkmnhfaa
