/- The walk of the law on least periods. -/
import Derived.Test.YtgmagocpacpafaaWDrawT
import Derived.Test.YtgmagocpacpafaaWLeast
import Derived.Test.YtgmagocpacpafaaWQuiet
import Derived.Test.YtgmagocpacpafaaWAuto
import Derived.Test.YtgmagocpacpafaaWTail
namespace Go.Proofs.Ytgmagocpacpafaa
open Go.RowKit SS
set_option maxRecDepth 100000
set_option maxHeartbeats 2000000 in
theorem walk_FnLeastPeriod (a0 : Option Addr) (len0 cap0 : Nat) (z0 : List Int) (w : World) (h0 : IsRow .u8 w a0 len0 cap0 z0) :
    Calls Try.prog 12 #[.slice a0 len0 cap0] w fun e w' => e = .returned (.bool true) ∧ Below w.heap.size w w' := by
  obtain ⟨c0, l0, m0⟩ := h0.code
  clear h0
  by_cases hs0 : len0 ≤ 1048576
  · have d0 : decide ((1048576 : Int) < (len0 : Int)) = false := by simp; omega
    have D1 := Lib.hid (drawLeast a0 len0 cap0 w c0 l0 m0)
    clear c0 l0 m0
    have hw := Below.refl w.heap.size w
    go_enter Try.func12, Try.ntmps12
    go_wp2_with fail
    refine (D1.out).mono ?_
    rintro e w1 ⟨s, rfl, hsz, hq⟩
    replace hw := afterB hw hq hw.size
    clear hq
    clear D1
    have hml : s.size ≤ maxLen := by unfold maxLen; omega
    cases hs : sv s.data.toList with
    | false =>
      have C1 := Lib.hid fun w => quiet_below (lp_impl_no s w hml hs)
      have C2 := Lib.hid fun w => quiet_below (slp_no s w hml hs)
      clear hs hml hsz
      go_wp2_with fail
      refine (C1.out _).mono ?_
      rintro e w2 ⟨rfl, hq⟩
      replace hw := afterB hw hq hw.size
      clear hq
      go_wp2_with fail
      refine (C2.out _).mono ?_
      rintro e w3 ⟨rfl, hq⟩
      replace hw := afterB hw hq hw.size
      clear hq
      go_wp2_with fail
      refine (C2.out _).mono ?_
      rintro e w4 ⟨rfl, hq⟩
      replace hw := afterB hw hq hw.size
      clear hq
      go_wp2
      go_ret
      exact ⟨rfl, hw⟩
    | true =>
      obtain ⟨h1, h2⟩ := sv_size hs
      have hok := (sv_yes hs).2.2
      obtain ⟨n, hLP⟩ := LP.ex s h1
      have hn1 : 1 ≤ n := hLP.1
      have hn2 : n ≤ s.size := hLP.le
      have C1 := Lib.hid fun w => quiet_below (lp_impl s n w hs hLP)
      have C2 := Lib.hid fun w => quiet_below (slp_yes s n w hs hLP)
      have HS := Lib.hid hs
      have HLP := Lib.hid hLP
      have HOK := Lib.hid hok
      have hd := hLP.dvd
      have hnd : (((s.size : Nat) : Int) % ((n : Nat) : Int) == 0) = true := by rw [beq_iff_eq]; omega
      have HND := Lib.hid hnd
      clear hs hLP hok hd hnd hml hsz
      have dn : decide ((n : Int) < 0) = false := by simp
      have hnz : ((n : Int) == 0) = false := by rw [beq_eq_false_iff_ne]; omega
      go_wp2_with fail
      refine (C1.out _).mono ?_
      rintro e w2 ⟨rfl, hq⟩
      replace hw := afterB hw hq hw.size
      clear hq
      go_wp2_with fail
      refine (C2.out _).mono ?_
      rintro e w3 ⟨rfl, hq⟩
      replace hw := afterB hw hq hw.size
      clear hq
      have HW := Lib.hid hw
      clear hw C1 C2
      obtain ⟨wo, hwo⟩ : ∃ wo : World, wo = w3 := ⟨_, rfl⟩
      have HWO : Below w.heap.size w wo := hwo ▸ HW.out
      rw [← hwo]
      clear hwo HW
      go_wp2_with fail
      go_loopw [5] (fun i wr => ∃ j m : Nat, 1 ≤ j ∧ j ≤ s.size + 1 ∧ i = .int .i64 (j : Int) ∧ wr = wo.drewN m) (fun i _ => s.size + 1 - (intOf i).toNat)
      case atStart => exact ⟨1, 0, Nat.le_refl _, by omega, rfl, rfl⟩
      case round =>
        obtain ⟨j, m, hj1, hj, rfl, rfl⟩ := hrel
        by_cases hlt : j ≤ s.size
        · skip
          have C3 := Lib.hid fun w => auto_impl s (j : Int) w HS.out
          have C4 := Lib.hid fun w => ssShift_quiet s (j : Int) w HS.out
          have hf := HLP.out.shf j
          have hco := HLP.out.cor HOK.out j
          have hcb := cor_bd s.data.toList s.data.toList (md (j : Int) s.size)
          generalize shf (j : Int) s = x at C4 hf
          generalize cor s.data.toList s.data.toList (md (j : Int) s.size) = c at C3 hco hcb
          have htm : ((j : Int)).tmod ((n : Nat) : Int) = ((j % n : Nat) : Int) := by rw [Int.tmod_eq_emod_of_nonneg (by omega)]; simp
          generalize j % n = r at hf hco htm
          by_cases hr : r = 0
          · skip
            have b1 : (x.toList == s.toList) = true := ba_yes (hf.2 hr)
            have b2 : (((r : Nat) : Int) == 0) = true := by rw [beq_iff_eq]; omega
            have b3 : (c == (s.size : Int)) = true := by rw [beq_iff_eq]; exact hco.2 hr
            clear hf hco hr hcb
            go_wp2_with fail
            refine (C3.out _).mono ?_
            rintro e w5 ⟨rfl, m5, rfl⟩
            go_wp2_with fail
            go_quiet ((go_at_call 49; first | exact quiet_ex (C4.out _) | exact quiet_exN (C4.out _) | exact quiet_ex3 (C4.out _)))
            go_wp2
            go_roundw
            case rel => exact ⟨j + 1, _, by omega, by omega, by go_num, by first | rfl | (simp only [World.drewN_drewN])⟩
            case measure => first | (simp [intOf]; done) | (simp [intOf]; omega)
          · skip
            have b1 : (x.toList == s.toList) = false := ba_no fun e => hr (hf.1 e)
            have b2 : (((r : Nat) : Int) == 0) = false := by rw [beq_eq_false_iff_ne]; omega
            have b3 : (c == (s.size : Int)) = false := by rw [beq_eq_false_iff_ne]; exact fun e => hr (hco.1 e)
            clear hf hco hr hcb
            go_wp2_with fail
            refine (C3.out _).mono ?_
            rintro e w5 ⟨rfl, m5, rfl⟩
            go_wp2_with fail
            go_quiet ((go_at_call 49; first | exact quiet_ex (C4.out _) | exact quiet_exN (C4.out _) | exact quiet_ex3 (C4.out _)))
            go_wp2
            go_roundw
            case rel => exact ⟨j + 1, _, by omega, by omega, by go_num, by first | rfl | (simp only [World.drewN_drewN])⟩
            case measure => first | (simp [intOf]; done) | (simp [intOf]; omega)
        · skip
          have hnd := HND.out
          go_wp2
          go_ret
          exact ⟨rfl, below_drewN HWO _⟩
  · have d0 : decide ((1048576 : Int) < (len0 : Int)) = true := by simp; omega
    go_enter Try.func12, Try.ntmps12
    go_wp2
    go_ret
    exact ⟨rfl, Below.refl _ _⟩
end Go.Proofs.Ytgmagocpacpafaa
