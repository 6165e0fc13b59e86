/- The law: both texts of a register are the same. -/
import Derived.Test.YtgdnmhigjhfpkaaDoorWFmt
namespace Go.Proofs.YtgdnmhigjhfpkaaDoor
open Go.RowKit SS
set_option maxRecDepth 100000
set_option maxHeartbeats 1000000 in
theorem walk_FnExactFormatRegister_of (s t x : Int) (q : ByteArray) (w : World) (h : PowTab w)
    (hS : Hid (∀ w, Calls Tryd.prog 6 #[.agg #[.int .i64 s, .int .i64 t, .int .i64 x]] w fun e w' => e = .returned (.string q) ∧ Below w.heap.size w w'))
    (hI : Hid (∀ w, PowTab w → Calls Tryd.prog 8 #[.agg #[.int .i64 s, .int .i64 t, .int .i64 x]] w fun e w' => e = .returned (.string q) ∧ Below w.heap.size w w')) :
    Calls Tryd.prog 3 #[.agg #[.int .i64 s, .int .i64 t, .int .i64 x]] w fun e w' => e = .returned (.bool true) ∧ Below w.heap.size w w' := by
  have hsz := h.size
  have hI' := Lib.hid fun w' (hb : Below w.heap.size w w') => hI.out w' (h.below hb hsz)
  clear hI h hsz
  have b1 := B3.new w 23 (.int .i64 s) (.int .i64 t) (.int .i64 x)
  have hw := (Below.refl w.heap.size w).alloc (Nat.le_refl _) (.cells #[.int .i64 s, .int .i64 t, .int .i64 x] 23)
  go_enter Tryd.func3, Tryd.ntmps3
  go_wp2_with fail
  refine (toReg _ _ _ _).mono ?_
  rintro e w1 ⟨rfl, hq⟩
  replace b1 := b1.belowS hq
  replace hw := afterB hw hq hw.size
  clear hq
  go_wp2_with fail
  refine (hS.out _).mono ?_
  rintro e w2 ⟨rfl, hq⟩
  replace b1 := b1.belowS hq
  replace hw := afterB hw hq hw.size
  clear hq
  obtain ⟨b1_0, b1_1, b1_2, b1_3, b1_4, b1_5, b1_6⟩ := b1.facts
  go_wp2_with fail
  refine (toReg _ _ _ _).mono ?_
  rintro e w3 ⟨rfl, hq⟩
  replace b1 := b1.belowS hq
  replace hw := afterB hw hq hw.size
  clear hq
  clear b1_0 b1_1 b1_2 b1_3 b1_4 b1_5 b1_6
  go_wp2_with fail
  refine (hI'.out _ hw).mono ?_
  rintro e w4 ⟨rfl, hq⟩
  replace hw := afterB hw hq hw.size
  clear hq b1
  go_wp2
  go_ret
  exact ⟨rfl, hw⟩
theorem walk_FnExactFormatRegister (s t x : Int) (w : World) (h : PowTab w) :
    Calls Tryd.prog 3 #[.agg #[.int .i64 s, .int .i64 t, .int .i64 x]] w fun e w' => e = .returned (.bool true) ∧ Below w.heap.size w w' := by
  cases hr : rv s t x with
  | false => exact walk_FnExactFormatRegister_of s t x _ w h (Lib.hid fun w => fmt_spec_no s t x w hr) (Lib.hid fun w _ => fmt_impl_no s t x w hr)
  | true =>
    obtain ⟨s', t', x', rfl, rfl, rfl, hv⟩ := rv_nat hr
    exact walk_FnExactFormatRegister_of _ _ _ _ w h (Lib.hid fun w => fmt_spec s' t' x' w hv) (Lib.hid fun w h => fmt_impl s' t' x' w hv h)
end Go.Proofs.YtgdnmhigjhfpkaaDoor
