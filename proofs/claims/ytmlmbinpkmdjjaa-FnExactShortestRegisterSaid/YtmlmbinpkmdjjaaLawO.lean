/- The walk of the law that compares the shortest register with the reference's. -/
import Derived.Test.YtmlmbinpkmdjjaaWShort
import Derived.Test.YtmlmbinpkmdjjaaWStep
namespace Go.Proofs.Ytmlmbinpkmdjjaa
open Go.RowKit SS
set_option maxHeartbeats 1000000 in
theorem walk_FnExactShortestRegister_of (s : ByteArray) (a b c : Int) (v : Bool) (w : World)
    (C1 : Hid (∀ w, Calls Try.prog 28 #[.string s] w fun e w' => e = .returned (.tuple #[.agg #[.int .i64 a, .int .i64 b, .int .i64 c], .bool v]) ∧ Below w.heap.size w w'))
    (C2 : Hid (∀ w, Calls Try.prog 29 #[.string s] w fun e w' => e = .returned (.tuple #[.agg #[.int .i64 a, .int .i64 b, .int .i64 c], .bool v]) ∧ Below w.heap.size w w')) :
    Calls Try.prog 8 #[.string s] w fun e w' => e = .returned (.bool true) ∧ Below w.heap.size w w' := by
  by_cases hs : s.size ≤ 1048576
  · have hd : decide ((1048576 : Int) < (s.size : Int)) = false := by simp; omega
    go_enter Try.func8, Try.ntmps8
    go_wp2_with fail
    refine (C1.out _).mono ?_
    rintro e w1 ⟨rfl, h1⟩
    have b1 := B3.new w1 35 (.int .i64 a) (.int .i64 b) (.int .i64 c)
    have hw2 := h1.alloc h1.size (.cells #[.int .i64 a, .int .i64 b, .int .i64 c] 35)
    go_wp2_with fail
    refine (C2.out _).mono ?_
    rintro e w2 ⟨rfl, h2⟩
    have hw3 := next hw2 h2 (Nat.le_refl _)
    have b1 := (b1.belowS h2).alloc (.cells #[.int .i64 a, .int .i64 b, .int .i64 c] 35)
    have b2 := B3.new w2 35 (.int .i64 a) (.int .i64 b) (.int .i64 c)
    have hw4 := hw3.alloc hw3.size (.cells #[.int .i64 a, .int .i64 b, .int .i64 c] 35)
    clear h2 hw3 hw2 h1
    obtain ⟨c0, c1, c2, _, _, _, hz⟩ := b1.facts
    obtain ⟨c3, c4, c5, _, _, _, hz3⟩ := b2.facts
    go_wp2_with fail
    refine (eqReg_same _ _ _ _).mono ?_
    rintro e w6 ⟨rfl, hb6⟩
    have hw6 := next hw4 hb6 (Nat.le_refl _)
    clear c0 c1 c2 c3 c4 c5 hz hz3 hb6 hw4
    go_wp2
    go_ret
    exact ⟨rfl, hw6⟩
  · have hd : decide ((1048576 : Int) < (s.size : Int)) = true := by simp; omega
    go_enter Try.func8, Try.ntmps8
    go_wp2
    go_ret
    exact ⟨rfl, Below.refl _ _⟩
theorem walk_FnExactShortestRegister (s : ByteArray) (w : World) (hs : s.size ≤ maxLen) :
    Calls Try.prog 8 #[.string s] w fun e w' => e = .returned (.bool true) ∧ Below w.heap.size w w' := by
  by_cases h : bitsB s.data.toList = false ∨ s.size < 8 ∨ 64 < s.size
  · exact walk_FnExactShortestRegister_of s _ _ _ _ w (Lib.hid fun w => sshort_bad s w hs h) (Lib.hid fun w => short_bad s w hs h)
  · have hb : okB s.data.toList = true := by
      cases hc : bitsB s.data.toList with
      | false => exact absurd (.inl hc) h
      | true => unfold bitsB at hc; simp at hc; exact hc.2
    rcases short_or s.data.toList with ⟨S, T, hST⟩ | hn
    · exact walk_FnExactShortestRegister_of s _ _ _ _ w (Lib.hid fun w => sshort_yes s S T w (by omega) (by omega) hb hST) (Lib.hid fun w => short_yes s S T w (by omega) (by omega) hb hST)
    · exact walk_FnExactShortestRegister_of s _ _ _ _ w (Lib.hid fun w => sshort_no s w (by omega) (by omega) hb hn) (Lib.hid fun w => short_no s w (by omega) (by omega) hb hn)
end Go.Proofs.Ytmlmbinpkmdjjaa
