/- The walk of the law on sums of sequences. -/
import Derived.Test.YtibnlaphkmnhfaaWDrawU
import Derived.Test.YtibnlaphkmnhfaaWMany
import Derived.Test.YtibnlaphkmnhfaaWShift
import Derived.Test.YtibnlaphkmnhfaaPlainCor
import Derived.Test.YtibnlaphkmnhfaaWTail
namespace Go.Proofs.Ytibnlaphkmnhfaa
open Go.RowKit SS
set_option maxRecDepth 100000
set_option maxHeartbeats 2000000 in
theorem walk_FnAddBits (a0 : Option Addr) (len0 cap0 : Nat) (z0 : List Int) (a1 : Option Addr) (len1 cap1 : Nat) (z1 : List Int) (w : World) (h0 : IsRow .u8 w a0 len0 cap0 z0) (h1 : IsRow .u8 w a1 len1 cap1 z1) :
    Calls Try.prog 3 #[.slice a0 len0 cap0, .slice a1 len1 cap1] w fun e w' => e = .returned (.bool true) ∧ Below w.heap.size w w' := by
  obtain ⟨c0, l0, m0⟩ := h0.code
  obtain ⟨c1, l1, m1⟩ := h1.code
  clear h0 h1
  by_cases hs0 : len0 ≤ 1048576
  · have d0 : decide ((1048576 : Int) < (len0 : Int)) = false := by simp; omega
    by_cases hs1 : len1 ≤ 1048576
    · have d1 : decide ((1048576 : Int) < (len1 : Int)) = false := by simp; omega
      have D1 := Lib.hid (drawAddBits a0 len0 cap0 w c0 l0 m0)
      clear c0 l0 m0 c1 l1 m1
      have hw := Below.refl w.heap.size w
      go_enter Try.func3, Try.ntmps3
      go_wp2_with fail
      refine (D1.out).mono ?_
      rintro e w1 ⟨a, b, rfl, hsa, hsb, hq⟩
      replace hw := afterB hw hq hw.size
      clear hq
      clear D1
      have hma : a.size ≤ maxLen := by unfold maxLen; omega
      have hmb : b.size ≤ maxLen := by unfold maxLen; omega
      cases hp : pv a b with
      | false =>
        have C1 := Lib.hid fun w => addb_impl_no a b w hma hmb hp
        have C2 := Lib.hid fun w => saddb_no a b w hma hmb hp
        clear hp hma hmb hsa hsb
        go_wp2_with fail
        refine (C1.out _).mono ?_
        rintro e w2 ⟨rfl, hq⟩
        replace hw := afterB hw hq hw.size
        clear hq
        go_wp2_with fail
        refine (C2.out _).mono ?_
        rintro e w3 ⟨rfl, hq⟩
        replace hw := afterB hw hq hw.size
        clear hq
        go_wp2
        go_ret
        exact ⟨rfl, hw⟩
      | true =>
        obtain ⟨ha, hb, hz⟩ := pv_yes hp
        obtain ⟨h1, h2⟩ := sv_size ha
        obtain ⟨_, _, hoa⟩ := sv_yes ha
        obtain ⟨_, _, hob⟩ := sv_yes hb
        have hll : a.data.toList.length = b.data.toList.length := by rw [size_list, size_list, hz]
        have hpb : pv b a = true := pv_mk hb ha hz.symm
        have C1 := Lib.hid fun w => addb_impl a b w hp
        have C2 := Lib.hid fun w => saddb_yes a b w hp
        have hxv : sv (bs (addL a.data.toList b.data.toList)).data.toList = true := by rw [bs_list]; exact sv_mk (by rw [addL_length, size_list]; exact h1) (by rw [addL_length, size_list]; exact h2) (okB_addL _ _)
        have hxz : (bs (addL a.data.toList b.data.toList)).size = b.size := by rw [bs_size, addL_length, size_list, hz]
        have C3 := Lib.hid fun w => addb_impl (bs (addL a.data.toList b.data.toList)) b w (pv_mk hxv hb hxz)
        rw [bs_list, add_add _ _ hoa hob, bs_data] at C3
        have C4 := Lib.hid fun w => addb_impl b a w hpb
        rw [add_comm _ _ hll.symm] at C4
        obtain ⟨m, hm, hm5⟩ : ∃ m : Nat, ((len1 : Int) % 50) = (m : Int) ∧ m < 50 := ⟨len1 % 50, by omega, by omega⟩
        have C5 := Lib.hid fun w => ssShift_yes a (m : Int) w ha
        have C6 := Lib.hid fun w => ssShift_yes b (m : Int) w hb
        have hmd := md_lt (m : Int) a.size h1
        have hmz : md (m : Int) b.size = md (m : Int) a.size := by rw [hz]
        have C7 := Lib.hid fun w => addb_impl (shf (m : Int) a) (shf (m : Int) b) w (pv_mk (shf_sv _ _ ha) (shf_sv _ _ hb) (by rw [shf_size _ _ h1, shf_size _ _ (by omega), hz]))
        have C8 := Lib.hid fun w => ssShift_yes (bs (addL a.data.toList b.data.toList)) (m : Int) w hxv
        have hsh : bs (addL (shf (m : Int) a).data.toList (shf (m : Int) b).data.toList) = shf (m : Int) (bs (addL a.data.toList b.data.toList)) := by
          unfold shf
          rw [hxz, hmz, rotS_list, rotS_list, add_rot _ _ _ hll (by rw [size_list]; exact hmd)]
          rfl
        rw [hsh] at C7
        have hiv : sv (bs (invL a.data.toList)).data.toList = true := by rw [bs_list]; exact sv_mk (by rw [invL_length, size_list]; exact h1) (by rw [invL_length, size_list]; exact h2) (okB_invL _)
        have C9 := Lib.hid fun w => inv_impl a w ha
        have C10 := Lib.hid fun w => addb_impl (bs (invL a.data.toList)) b w (pv_mk hiv hb (by rw [bs_size, invL_length, size_list, hz]))
        rw [bs_list, add_inv _ _ hoa hob] at C10
        have C11 := Lib.hid fun w => sinv_yes a w ha
        have C12 := Lib.hid fun w => inv_impl (bs (addL a.data.toList b.data.toList)) w hxv
        rw [bs_list] at C12
        clear hpb hxv hxz hmd hmz hsh hiv ha hb hoa hob hll hp hma hmb hsa hsb hz
        generalize bs (invL (addL a.data.toList b.data.toList)) = xi at C10 C12
        generalize bs (invL a.data.toList) = ai at C9 C10 C11
        generalize bs (addL a.data.toList b.data.toList) = x at *
        generalize shf (m : Int) x = xs at C7 C8
        generalize shf (m : Int) a = sa at C5 C7
        generalize shf (m : Int) b = sb at C6 C7
        go_wp2_with fail
        refine (C1.out _).mono ?_
        rintro e w2 ⟨rfl, hq⟩
        replace hw := afterB hw hq hw.size
        clear hq
        go_wp2_with fail
        refine (C2.out _).mono ?_
        rintro e w3 ⟨rfl, hq⟩
        replace hw := afterB hw hq hw.size
        clear hq
        go_wp2_with fail
        refine (C3.out _).mono ?_
        rintro e w4 ⟨rfl, hq⟩
        replace hw := afterB hw hq hw.size
        clear hq
        go_wp2_with fail
        refine (C4.out _).mono ?_
        rintro e w5 ⟨rfl, hq⟩
        replace hw := afterB hw hq hw.size
        clear hq
        go_wp2_with fail
        refine (C5.out _).mono ?_
        rintro e w6 ⟨rfl, hq⟩
        replace hw := afterB hw hq hw.size
        clear hq
        go_wp2_with fail
        refine (C6.out _).mono ?_
        rintro e w7 ⟨rfl, hq⟩
        replace hw := afterB hw hq hw.size
        clear hq
        go_wp2_with fail
        refine (C7.out _).mono ?_
        rintro e w8 ⟨rfl, hq⟩
        replace hw := afterB hw hq hw.size
        clear hq
        go_wp2_with fail
        refine (C9.out _).mono ?_
        rintro e w9 ⟨rfl, hq⟩
        replace hw := afterB hw hq hw.size
        clear hq
        go_wp2_with fail
        refine (C10.out _).mono ?_
        rintro e w10 ⟨rfl, hq⟩
        replace hw := afterB hw hq hw.size
        clear hq
        go_wp2_with fail
        refine (C11.out _).mono ?_
        rintro e w11 ⟨rfl, hq⟩
        replace hw := afterB hw hq hw.size
        clear hq
        go_wp2_with fail
        refine (C12.out _).mono ?_
        rintro e w12 ⟨rfl, hq⟩
        replace hw := afterB hw hq hw.size
        clear hq
        go_wp2_with fail
        refine (C8.out _).mono ?_
        rintro e w13 ⟨rfl, hq⟩
        replace hw := afterB hw hq hw.size
        clear hq
        go_wp2
        go_ret
        exact ⟨rfl, hw⟩
    · have d1 : decide ((1048576 : Int) < (len1 : Int)) = true := by simp; omega
      go_enter Try.func3, Try.ntmps3
      go_wp2
      go_ret
      exact ⟨rfl, Below.refl _ _⟩
  · have d0 : decide ((1048576 : Int) < (len0 : Int)) = true := by simp; omega
    go_enter Try.func3, Try.ntmps3
    go_wp2
    go_ret
    exact ⟨rfl, Below.refl _ _⟩
end Go.Proofs.Ytibnlaphkmnhfaa
