/- The law: both readings of a text are the same. -/
import Derived.Test.YtgdnmhigjhfpkaaDoorWParse
import Derived.Test.YtgdnmhigjhfpkaaDoorWStep
namespace Go.Proofs.YtgdnmhigjhfpkaaDoor
open Go.RowKit SS
set_option maxRecDepth 100000
set_option maxHeartbeats 1000000 in
theorem walk_FnExactParseRegister_of (s : ByteArray) (a b c : Int) (v : Bool) (w : World) (hs : s.size ≤ 1048576)
    (hS : Hid (∀ w, Calls Tryd.prog 9 #[.string s] w fun e w' => e = .returned (.tuple #[.agg #[.int .i64 a, .int .i64 b, .int .i64 c], .bool v]) ∧ Below w.heap.size w w'))
    (hI : Hid (∀ w', Below w.heap.size w w' → Calls Tryd.prog 10 #[.string s] w' fun e w'' => e = .returned (.tuple #[.agg #[.int .i64 a, .int .i64 b, .int .i64 c], .bool v]) ∧ Below w'.heap.size w' w'')) :
    Calls Tryd.prog 4 #[.string s] w fun e w' => e = .returned (.bool true) ∧ Below w.heap.size w w' := by
  have dl : decide ((1048576 : Int) < (s.size : Int)) = false := by simp; omega
  go_enter Tryd.func4, Tryd.ntmps4
  go_wp2_with fail
  refine (hS.out _).mono ?_
  rintro e w1 ⟨rfl, hw⟩
  have b1 := B3.new w1 25 (.int .i64 a) (.int .i64 b) (.int .i64 c)
  replace hw := hw.alloc hw.size (.cells #[.int .i64 a, .int .i64 b, .int .i64 c] 25)
  go_wp2_with fail
  refine (hI.out _ hw).mono ?_
  rintro e w2 ⟨rfl, hq⟩
  replace b1 := b1.belowS hq
  replace hw := afterB hw hq hw.size
  clear hq
  have b2 := B3.new w2 25 (.int .i64 a) (.int .i64 b) (.int .i64 c)
  replace b1 := b1.alloc (.cells #[.int .i64 a, .int .i64 b, .int .i64 c] 25)
  replace hw := hw.alloc hw.size (.cells #[.int .i64 a, .int .i64 b, .int .i64 c] 25)
  obtain ⟨c0, c1, c2, _, _, _, hz⟩ := b1.facts
  obtain ⟨c3, c4, c5, _, _, _, hz3⟩ := b2.facts
  go_wp2_with fail
  refine (eqReg_same _ _ _ _).mono ?_
  rintro e w3 ⟨rfl, hq⟩
  replace hw := afterB hw hq hw.size
  clear hq c0 c1 c2 c3 c4 c5 hz hz3 b1 b2
  go_wp2
  go_ret
  exact ⟨rfl, hw⟩
theorem walk_FnExactParseRegister (s : ByteArray) (w : World) (_ : s.size ≤ maxLen) (m : Int) (hm : w.cell? ⟨1, 0, none⟩ = some (.int .i64 m)) :
    Calls Tryd.prog 4 #[.string s] w fun e w' => e = .returned (.bool true) ∧ Below w.heap.size w w' := by
  by_cases hs : s.size ≤ 1048576
  · have hlt := World.block_lt_of_cell? w _ hm
    exact walk_FnExactParseRegister_of s _ _ _ _ w hs (Lib.hid fun w => parse_spec s w hs) (Lib.hid fun w' hb => parse_impl s w' m ((hb.cell (p := ⟨1, 0, none⟩) hlt).trans hm) hs)
  · have dl : decide ((1048576 : Int) < (s.size : Int)) = true := by simp; omega
    go_enter Tryd.func4, Tryd.ntmps4
    go_wp2
    go_ret
    exact ⟨rfl, Below.refl _ _⟩
end Go.Proofs.YtgdnmhigjhfpkaaDoor
