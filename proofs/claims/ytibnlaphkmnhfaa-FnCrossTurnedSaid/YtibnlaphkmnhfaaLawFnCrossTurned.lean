/- The walk of the law on correlations of exchanged sequences. -/
import Derived.Test.YtibnlaphkmnhfaaWDrawU
import Derived.Test.YtibnlaphkmnhfaaWMany
import Derived.Test.YtibnlaphkmnhfaaWCross
import Derived.Test.YtibnlaphkmnhfaaPlainCor
import Derived.Test.YtibnlaphkmnhfaaWTail
namespace Go.Proofs.Ytibnlaphkmnhfaa
open Go.RowKit SS
set_option maxRecDepth 100000
set_option maxHeartbeats 2000000 in
theorem walk_FnCrossTurned (a0 : Option Addr) (len0 cap0 : Nat) (z0 : List Int) (a1 : Option Addr) (len1 cap1 : Nat) (z1 : List Int) (w : World) (h0 : IsRow .u8 w a0 len0 cap0 z0) (h1 : IsRow .u8 w a1 len1 cap1 z1) :
    Calls Try.prog 4 #[.slice a0 len0 cap0, .slice a1 len1 cap1] w fun e w' => e = .returned (.bool true) ∧ Below w.heap.size w w' := by
  obtain ⟨c0, l0, m0⟩ := h0.code
  obtain ⟨c1, l1, m1⟩ := h1.code
  clear h0 h1
  by_cases hs0 : len0 ≤ 1048576
  · have d0 : decide ((1048576 : Int) < (len0 : Int)) = false := by simp; omega
    by_cases hs1 : len1 ≤ 1048576
    · have d1 : decide ((1048576 : Int) < (len1 : Int)) = false := by simp; omega
      have D1 := Lib.hid (drawCross a0 len0 cap0 w c0 l0 m0)
      clear c0 l0 m0 c1 l1 m1
      have hw := Below.refl w.heap.size w
      go_enter Try.func4, Try.ntmps4
      go_wp2_with fail
      refine (D1.out).mono ?_
      rintro e w1 ⟨a, b, k, rfl, hsa, hsb, hq⟩
      replace hw := afterB hw hq hw.size
      clear hq
      clear D1
      have hma : a.size ≤ maxLen := by unfold maxLen; omega
      have hmb : b.size ≤ maxLen := by unfold maxLen; omega
      cases hp : pv a b with
      | false =>
        have C1 := Lib.hid fun w => quiet_below (cross_impl_no a b k w hma hmb hp)
        have C2 := Lib.hid fun w => scross_no a b k w hma hmb hp
        clear hp hma hmb hsa hsb
        go_wp2_with fail
        refine (C1.out _).mono ?_
        rintro e w2 ⟨rfl, hq⟩
        replace hw := afterB hw hq hw.size
        clear hq
        go_wp2_with fail
        refine (C2.out _).mono ?_
        rintro e w3 ⟨rfl, hq⟩
        replace hw := afterB hw hq hw.size
        clear hq
        go_wp2
        go_ret
        exact ⟨rfl, hw⟩
      | true =>
        obtain ⟨ha, hb, hz⟩ := pv_yes hp
        obtain ⟨h1, h2⟩ := sv_size ha
        obtain ⟨_, _, hoa⟩ := sv_yes ha
        obtain ⟨_, _, hob⟩ := sv_yes hb
        have hll : a.data.toList.length = b.data.toList.length := by rw [size_list, size_list, hz]
        have hpb : pv b a = true := pv_mk hb ha hz.symm
        have hn0 : (a.size : Int) ≠ 0 := by omega
        have C1 := Lib.hid fun w => quiet_below (cross_impl a b k w hp)
        have C2 := Lib.hid fun w => scross_yes a b k w hp
        obtain ⟨m, hm, hm1, hm2, hmm⟩ := tmod_any k a.size h1 h2
        obtain ⟨s, hs, hs3⟩ : ∃ s : Nat, ((len1 : Int) % 30) = (s : Int) ∧ s < 30 := ⟨len1 % 30, by omega, by omega⟩
        have hkl := md_lt k b.size (by omega)
        have hml := md_lt (-m) a.size h1
        have hsl := md_lt (s : Int) b.size (by omega)
        have hm3 := md_lt m b.size (by omega)
        have C3 := Lib.hid fun w => inv_impl b w hb
        have C4 := Lib.hid fun w => ssCross_yes b a (-m) w hpb
        have e4 : cor b.data.toList a.data.toList (md (-m) a.size) = cor a.data.toList b.data.toList (md k b.size) := by
          apply cor_turn _ _ _ _ hll (by rw [size_list]; omega)
          rw [size_list, ← hz, md_add k (-m) a.size h1, md_congr (k + -m) 0 a.size (by rw [Int.zero_emod]; exact Int.emod_eq_zero_of_dvd (by rw [← Int.sub_eq_add_neg]; exact Int.dvd_of_emod_eq_zero (by rw [Int.sub_emod, hmm, Int.sub_self, Int.zero_emod]))), md_zero]
        rw [e4] at C4
        have hiz : (bs (invL b.data.toList)).size = b.size := by rw [bs_size, invL_length, size_list]
        have hiv : sv (bs (invL b.data.toList)).data.toList = true := by rw [bs_list]; exact sv_mk (by rw [invL_length, size_list]; omega) (by rw [invL_length, size_list]; omega) (okB_invL _)
        have C5 := Lib.hid fun w => ssCross_yes a (bs (invL b.data.toList)) k w (pv_mk ha hiv (by rw [hiz, hz]))
        rw [bs_list, hiz, cor_inv _ _ _ (by rw [size_list]; omega) hob] at C5
        have C6 := Lib.hid fun w => ssShift_yes a (s : Int) w ha
        have C7 := Lib.hid fun w => ssShift_yes b (s : Int) w hb
        have hsz : md (s : Int) a.size = md (s : Int) b.size := by rw [hz]
        have C8 := Lib.hid fun w => ssCross_yes (shf (s : Int) a) (shf (s : Int) b) k w (pv_mk (shf_sv _ _ ha) (shf_sv _ _ hb) (by rw [shf_size _ _ h1, shf_size _ _ (by omega), hz]))
        have e8 : cor (shf (s : Int) a).data.toList (shf (s : Int) b).data.toList (md k (shf (s : Int) b).size) = cor a.data.toList b.data.toList (md k b.size) := by
          rw [shf_size _ b (by omega)]
          unfold shf
          rw [hsz, rotS_list, rotS_list]
          exact cor_both _ _ _ _ hll (by rw [size_list]; exact hsl)
        rw [e8] at C8
        have C9 := Lib.hid fun w => ssCross_yes a (shf (s : Int) b) m w (pv_mk ha (shf_sv _ _ hb) (by rw [shf_size _ _ (by omega), hz]))
        have C10 := Lib.hid fun w => ssCross_yes a b (m + s) w hp
        have e9 : cor a.data.toList (shf (s : Int) b).data.toList (md m (shf (s : Int) b).size) = cor a.data.toList b.data.toList (md (m + s) b.size) := by
          rw [shf_size _ b (by omega)]
          unfold shf
          rw [rotS_list, cor_rot _ _ _ _ hll (by rw [size_list]; exact hsl), size_list, md_add m (s : Int) b.size (by omega)]
        rw [e9] at C9
        have hcb := cor_bd a.data.toList b.data.toList (md k b.size)
        rw [size_list] at hcb
        clear e4 e8 e9 hiz hiv hsz hkl hml hsl hm3 hmm hpb ha hb hoa hob hll hp hma hmb hsa hsb
        generalize cor a.data.toList b.data.toList (md (m + s) b.size) = cs at C9 C10
        generalize cor a.data.toList b.data.toList (md k b.size) = c at *
        generalize bs (invL b.data.toList) = x at C3 C5
        generalize shf (s : Int) a = sa at *
        generalize shf (s : Int) b = sb at *
        have hcb1 : -255 ≤ c ∧ c ≤ 255 := by omega
        clear hcb hz
        go_wp2_with fail
        refine (C1.out _).mono ?_
        rintro e w2 ⟨rfl, hq⟩
        replace hw := afterB hw hq hw.size
        clear hq
        go_wp2_with fail
        refine (C2.out _).mono ?_
        rintro e w3 ⟨rfl, hq⟩
        replace hw := afterB hw hq hw.size
        clear hq
        go_wp2_with fail
        refine (C3.out _).mono ?_
        rintro e w4 ⟨rfl, hq⟩
        replace hw := afterB hw hq hw.size
        clear hq
        go_wp2_with fail
        refine (C4.out _).mono ?_
        rintro e w5 ⟨rfl, hq⟩
        replace hw := afterB hw hq hw.size
        clear hq
        go_wp2_with fail
        refine (C5.out _).mono ?_
        rintro e w6 ⟨rfl, hq⟩
        replace hw := afterB hw hq hw.size
        clear hq
        go_wp2_with fail
        refine (C6.out _).mono ?_
        rintro e w7 ⟨rfl, hq⟩
        replace hw := afterB hw hq hw.size
        clear hq
        go_wp2_with fail
        refine (C7.out _).mono ?_
        rintro e w8 ⟨rfl, hq⟩
        replace hw := afterB hw hq hw.size
        clear hq
        go_wp2_with fail
        refine (C8.out _).mono ?_
        rintro e w9 ⟨rfl, hq⟩
        replace hw := afterB hw hq hw.size
        clear hq
        go_wp2_with fail
        refine (C7.out _).mono ?_
        rintro e w10 ⟨rfl, hq⟩
        replace hw := afterB hw hq hw.size
        clear hq
        go_wp2_with fail
        refine (C9.out _).mono ?_
        rintro e w11 ⟨rfl, hq⟩
        replace hw := afterB hw hq hw.size
        clear hq
        go_wp2_with fail
        refine (C10.out _).mono ?_
        rintro e w12 ⟨rfl, hq⟩
        replace hw := afterB hw hq hw.size
        clear hq
        go_wp2
        go_ret
        exact ⟨rfl, hw⟩
    · have d1 : decide ((1048576 : Int) < (len1 : Int)) = true := by simp; omega
      go_enter Try.func4, Try.ntmps4
      go_wp2
      go_ret
      exact ⟨rfl, Below.refl _ _⟩
  · have d0 : decide ((1048576 : Int) < (len0 : Int)) = true := by simp; omega
    go_enter Try.func4, Try.ntmps4
    go_wp2
    go_ret
    exact ⟨rfl, Below.refl _ _⟩
end Go.Proofs.Ytibnlaphkmnhfaa
