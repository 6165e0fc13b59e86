/- The walk of the law on shifts between two sequences. -/
import Derived.Test.YtgmagocpacpafaaWDrawU
import Derived.Test.YtgmagocpacpafaaWLeast
import Derived.Test.YtgmagocpacpafaaWMany
import Derived.Test.YtgmagocpacpafaaWTail
namespace Go.Proofs.Ytgmagocpacpafaa
open Go.RowKit SS
set_option maxRecDepth 100000
set_option maxHeartbeats 2000000 in
theorem walk_FnShiftBetween (a0 : Option Addr) (len0 cap0 : Nat) (z0 : List Int) (w : World) (h0 : IsRow .u8 w a0 len0 cap0 z0) :
    Calls Try.prog 14 #[.slice a0 len0 cap0] w fun e w' => e = .returned (.bool true) ∧ Below w.heap.size w w' := by
  obtain ⟨c0, l0, m0⟩ := h0.code
  clear h0
  by_cases hs0 : len0 ≤ 1048576
  · have d0 : decide ((1048576 : Int) < (len0 : Int)) = false := by simp; omega
    have D1 := Lib.hid (drawBetween a0 len0 cap0 w c0 l0 m0)
    clear c0 l0 m0
    have hw := Below.refl w.heap.size w
    go_enter Try.func14, Try.ntmps14
    go_wp2_with fail
    refine (D1.out).mono ?_
    rintro e w1 ⟨a, b, rfl, hsa, hsb, hq⟩
    replace hw := afterB hw hq hw.size
    clear hq
    clear D1
    have hma : a.size ≤ maxLen := by unfold maxLen; omega
    have hmb : b.size ≤ maxLen := by unfold maxLen; omega
    have C0 := Lib.hid fun w => same_below (seq_impl a w hma)
    have C9 := Lib.hid fun w => same_below (seq_impl b w hmb)
    cases hp : pv a b with
    | false =>
      have C1 := Lib.hid fun w => quiet_below (sb_impl_no a b w hma hmb hp)
      have C2 := Lib.hid fun w => quiet_below (ssb_no a b w hma hmb hp)
      unfold pv at hp
      cases ha : sv a.data.toList with
      | false =>
        rw [ha] at C0
        clear hp ha hma hmb hsa hsb
        go_wp2_with fail
        refine (C1.out _).mono ?_
        rintro e w2 ⟨rfl, hq⟩
        replace hw := afterB hw hq hw.size
        clear hq
        go_wp2_with fail
        refine (C2.out _).mono ?_
        rintro e w3 ⟨rfl, hq⟩
        replace hw := afterB hw hq hw.size
        clear hq
        go_wp2_with fail
        refine (C0.out _).mono ?_
        rintro e w4 ⟨rfl, hq⟩
        replace hw := afterB hw hq hw.size
        clear hq
        go_wp2
        go_ret
        exact ⟨rfl, hw⟩
      | true =>
        cases hb : sv b.data.toList with
        | false =>
          rw [ha] at C0
          rw [hb] at C9
          clear hp ha hb hma hmb hsa hsb
          go_wp2_with fail
          refine (C1.out _).mono ?_
          rintro e w2 ⟨rfl, hq⟩
          replace hw := afterB hw hq hw.size
          clear hq
          go_wp2_with fail
          refine (C2.out _).mono ?_
          rintro e w3 ⟨rfl, hq⟩
          replace hw := afterB hw hq hw.size
          clear hq
          go_wp2_with fail
          refine (C0.out _).mono ?_
          rintro e w4 ⟨rfl, hq⟩
          replace hw := afterB hw hq hw.size
          clear hq
          go_wp2_with fail
          refine (C9.out _).mono ?_
          rintro e w5 ⟨rfl, hq⟩
          replace hw := afterB hw hq hw.size
          clear hq
          go_wp2
          go_ret
          exact ⟨rfl, hw⟩
        | true =>
          rw [ha, hb] at hp
          rw [ha] at C0
          rw [hb] at C9
          have hne : a.size ≠ b.size := by simpa using hp
          have hnb := size_eq_no a b hne
          clear hp ha hb hma hmb hsa hsb hne
          go_wp2_with fail
          refine (C1.out _).mono ?_
          rintro e w2 ⟨rfl, hq⟩
          replace hw := afterB hw hq hw.size
          clear hq
          go_wp2_with fail
          refine (C2.out _).mono ?_
          rintro e w3 ⟨rfl, hq⟩
          replace hw := afterB hw hq hw.size
          clear hq
          go_wp2_with fail
          refine (C0.out _).mono ?_
          rintro e w4 ⟨rfl, hq⟩
          replace hw := afterB hw hq hw.size
          clear hq
          go_wp2_with fail
          refine (C9.out _).mono ?_
          rintro e w5 ⟨rfl, hq⟩
          replace hw := afterB hw hq hw.size
          clear hq
          go_wp2
          go_ret
          exact ⟨rfl, hw⟩
    | true =>
      obtain ⟨ha, hb, hz⟩ := pv_yes hp
      rw [ha] at C0
      rw [hb] at C9
      obtain ⟨h1, h2⟩ := sv_size ha
      have hzb := size_eq_yes a b hz
      obtain ⟨K, v, r, hK, hK0, hK1⟩ := sb_ex a b
      have C1 := Lib.hid fun w => quiet_below (sb_impl a b K v r w hp hK hK0 hK1)
      have C2 := Lib.hid fun w => quiet_below (ssb_yes a b K v r w hp hK hK0 hK1)
      have C3 := Lib.hid fun w => quiet_below (fr_impl a w ha)
      have C4 := Lib.hid fun w => quiet_below (fr_impl b w hb)
      have hfr := frs_iff a b h1 hz
      rcases hK1 with ⟨q1, q2, rfl, rfl⟩ | ⟨q1, rfl, rfl⟩
      · skip
        have he := hfr.2 ⟨K, q1, q2⟩
        rw [← he] at C4
        obtain ⟨P, hLP⟩ := LP.ex a h1
        have hKP := hLP.first q1 q2 hK0
        have C5 := Lib.hid fun w => quiet_below (lp_impl a P w ha hLP)
        have C6 := Lib.hid fun w => quiet_below (lp_impl b P w hb (q2 ▸ hLP.rotS K q1))
        have C7 := Lib.hid fun w => ssShift_yes a (K : Int) w ha
        rw [show shf (K : Int) a = b by unfold shf; rw [md_nat K a.size q1, q2]] at C7
        have dk : decide (K < P) = true := decide_eq_true hKP
        generalize frs a a.size = f at C3 C4
        clear he hLP hKP q1 q2 hfr hK hK0 ha hb hz hp h1 h2 hma hmb hsa hsb
        go_wp2_with fail
        refine (C1.out _).mono ?_
        rintro e w2 ⟨rfl, hq⟩
        replace hw := afterB hw hq hw.size
        clear hq
        go_wp2_with fail
        refine (C2.out _).mono ?_
        rintro e w3 ⟨rfl, hq⟩
        replace hw := afterB hw hq hw.size
        clear hq
        go_wp2_with fail
        refine (C0.out _).mono ?_
        rintro e w4 ⟨rfl, hq⟩
        replace hw := afterB hw hq hw.size
        clear hq
        go_wp2_with fail
        refine (C9.out _).mono ?_
        rintro e w5 ⟨rfl, hq⟩
        replace hw := afterB hw hq hw.size
        clear hq
        go_wp2_with fail
        refine (C3.out _).mono ?_
        rintro e w6 ⟨rfl, hq⟩
        replace hw := afterB hw hq hw.size
        clear hq
        go_wp2_with fail
        refine (C4.out _).mono ?_
        rintro e w7 ⟨rfl, hq⟩
        replace hw := afterB hw hq hw.size
        clear hq
        go_wp2_with fail
        refine (C7.out _).mono ?_
        rintro e w8 ⟨rfl, hq⟩
        replace hw := afterB hw hq hw.size
        clear hq
        go_wp2_with fail
        refine (C5.out _).mono ?_
        rintro e w9 ⟨rfl, hq⟩
        replace hw := afterB hw hq hw.size
        clear hq
        go_wp2_with fail
        refine (C6.out _).mono ?_
        rintro e w10 ⟨rfl, hq⟩
        replace hw := afterB hw hq hw.size
        clear hq
        go_wp2_with fail
        refine (C5.out _).mono ?_
        rintro e w11 ⟨rfl, hq⟩
        replace hw := afterB hw hq hw.size
        clear hq
        go_wp2
        go_ret
        exact ⟨rfl, hw⟩
      · skip
        have hne : frs a a.size ≠ frs b b.size := fun e => by
          obtain ⟨k, hk, hkb⟩ := hfr.1 e
          exact hK0 k (by omega) hkb
        have hnb := ba_no hne
        generalize frs a a.size = f at C3 hnb
        generalize frs b b.size = g at C4 hnb
        clear q1 hfr hK hK0 ha hb hz hp h1 h2 hma hmb hsa hsb hne
        go_wp2_with fail
        refine (C1.out _).mono ?_
        rintro e w2 ⟨rfl, hq⟩
        replace hw := afterB hw hq hw.size
        clear hq
        go_wp2_with fail
        refine (C2.out _).mono ?_
        rintro e w3 ⟨rfl, hq⟩
        replace hw := afterB hw hq hw.size
        clear hq
        go_wp2_with fail
        refine (C0.out _).mono ?_
        rintro e w4 ⟨rfl, hq⟩
        replace hw := afterB hw hq hw.size
        clear hq
        go_wp2_with fail
        refine (C9.out _).mono ?_
        rintro e w5 ⟨rfl, hq⟩
        replace hw := afterB hw hq hw.size
        clear hq
        go_wp2_with fail
        refine (C3.out _).mono ?_
        rintro e w6 ⟨rfl, hq⟩
        replace hw := afterB hw hq hw.size
        clear hq
        go_wp2_with fail
        refine (C4.out _).mono ?_
        rintro e w7 ⟨rfl, hq⟩
        replace hw := afterB hw hq hw.size
        clear hq
        go_wp2
        go_ret
        exact ⟨rfl, hw⟩
  · have d0 : decide ((1048576 : Int) < (len0 : Int)) = true := by simp; omega
    go_enter Try.func14, Try.ntmps14
    go_wp2
    go_ret
    exact ⟨rfl, Below.refl _ _⟩
end Go.Proofs.Ytgmagocpacpafaa
