/- The walk of the law on first rotations. -/
import Derived.Test.YtgmagocpacpafaaWDrawT
import Derived.Test.YtgmagocpacpafaaWLeast
import Derived.Test.YtgmagocpacpafaaWMany
import Derived.Test.YtgmagocpacpafaaWTail
namespace Go.Proofs.Ytgmagocpacpafaa
open Go.RowKit SS
set_option maxRecDepth 100000
set_option maxHeartbeats 2000000 in
theorem walk_FnRotation (a0 : Option Addr) (len0 cap0 : Nat) (z0 : List Int) (a1 : Option Addr) (len1 cap1 : Nat) (z1 : List Int) (w : World) (h0 : IsRow .u8 w a0 len0 cap0 z0) (h1 : IsRow .u8 w a1 len1 cap1 z1) :
    Calls Try.prog 11 #[.slice a0 len0 cap0, .slice a1 len1 cap1] w fun e w' => e = .returned (.bool true) ∧ Below w.heap.size w w' := by
  obtain ⟨c0, l0, m0⟩ := h0.code
  obtain ⟨c1, l1, m1⟩ := h1.code
  clear h0 h1
  by_cases hs0 : len0 ≤ 1048576
  · have d0 : decide ((1048576 : Int) < (len0 : Int)) = false := by simp; omega
    by_cases hs1 : len1 ≤ 1048576
    · have d1 : decide ((1048576 : Int) < (len1 : Int)) = false := by simp; omega
      have D1 := Lib.hid (drawRotation a0 len0 cap0 w c0 l0 m0)
      clear c0 l0 m0 c1 l1 m1
      have hw := Below.refl w.heap.size w
      go_enter Try.func11, Try.ntmps11
      go_wp2_with fail
      refine (D1.out).mono ?_
      rintro e w1 ⟨s, rfl, hsz, hq⟩
      replace hw := afterB hw hq hw.size
      clear hq
      clear D1
      have hml : s.size ≤ maxLen := by unfold maxLen; omega
      cases hs : sv s.data.toList with
      | false =>
        have C1 := Lib.hid fun w => quiet_below (fr_impl_no s w hml hs)
        have C2 := Lib.hid fun w => quiet_below (sfr_no s w hml hs)
        clear hs hml hsz
        go_wp2_with fail
        refine (C1.out _).mono ?_
        rintro e w2 ⟨rfl, hq⟩
        replace hw := afterB hw hq hw.size
        clear hq
        go_wp2_with fail
        refine (C2.out _).mono ?_
        rintro e w3 ⟨rfl, hq⟩
        replace hw := afterB hw hq hw.size
        clear hq
        go_wp2_with fail
        refine (C2.out _).mono ?_
        rintro e w4 ⟨rfl, hq⟩
        replace hw := afterB hw hq hw.size
        clear hq
        go_wp2
        go_ret
        exact ⟨rfl, hw⟩
      | true =>
        obtain ⟨h1, h2⟩ := sv_size hs
        have C1 := Lib.hid fun w => quiet_below (fr_impl s w hs)
        have C2 := Lib.hid fun w => quiet_below (sfr_yes s w hs)
        have hFR := frs_FR s h1
        obtain ⟨i0, hi0, hx0⟩ := hFR.some
        have hxv : sv (frs s s.size).data.toList = true := by
          have := sv_rot i0 s.data.toList (by rw [size_list]; omega) hs
          rw [hx0, rotS_list]; exact this
        have hxz : (frs s s.size).size = s.size := by rw [hx0, rotS_size i0 s (by omega)]
        have hpv : pv s (frs s s.size) = true := pv_mk hs hxv hxz.symm
        obtain ⟨K, v, r, hK, hK0, hK1⟩ := sb_ex s (frs s s.size)
        have C3 := Lib.hid fun w => quiet_below (sb_impl s (frs s s.size) K v r w hpv hK hK0 hK1)
        have hyes : K < s.size ∧ rotS K s = frs s s.size ∧ r = K ∧ v = true := by
          rcases hK1 with h | ⟨rfl, _, _⟩
          · exact h
          · exact absurd hx0.symm (hK0 i0 hi0)
        obtain ⟨hKs, hKx, rfl, rfl⟩ := hyes
        clear hK1 hK0 hK
        have C4 := Lib.hid fun (k : Int) w => ssShift_yes s k w hs
        have hsh : ∀ k : Nat, k < s.size → shf (k : Int) s = rotS k s := fun k hk => by unfold shf; rw [md_nat k s.size hk]
        have C5 := Lib.hid fun w => ssShift_yes s (K : Int) w hs
        rw [hsh K hKs, hKx] at C5
        obtain ⟨m, hm, hm4⟩ : ∃ m : Nat, ((len1 : Int) % 40) = (m : Int) ∧ m < 40 := ⟨len1 % 40, by omega, by omega⟩
        have C6 := Lib.hid fun w => ssShift_yes s (m : Int) w hs
        have C7 := Lib.hid fun w => quiet_below (fr_impl (shf (m : Int) s) w (shf_sv _ _ hs))
        rw [shf_size _ s h1, frs_shf s _ h1] at C7
        have C8 := Lib.hid fun w => quiet_below (fr_impl (frs s s.size) w hxv)
        rw [hxz] at C8
        have hfx : frs (frs s s.size) s.size = frs s s.size := by
          have e := frs_rot s i0 hi0
          rw [← hx0] at e; exact e
        rw [hfx] at C8
        have HL : Hid (∀ k : Nat, k < s.size → Op.bytesLess (shf (k : Int) s).toList (frs s s.size).toList = false) := by
          intro k hk
          rw [hsh k hk, bytesLess_eq, ba_list, ba_list, decide_eq_false_iff_not]
          exact hFR.least k hk
        generalize frs s s.size = x at *
        generalize shf (m : Int) s = y at C6 C7
        have hxe : (x.toList == (⟨#[]⟩ : ByteArray).toList) = false := ba_no fun e => by rw [e] at hxz; exact absurd hxz (by have : (⟨#[]⟩ : ByteArray).size = 0 := rfl; omega)
        have hxe2 : x.toList.isEmpty = false := by rw [ba_list, List.isEmpty_eq_false_iff]; intro e; have := size_list x; rw [e] at this; simp at this; omega
        clear hFR hi0 hx0 hxv hpv hKx hsh hfx hs hsz hml
        go_wp2_with fail
        refine (C1.out _).mono ?_
        rintro e w2 ⟨rfl, hq⟩
        replace hw := afterB hw hq hw.size
        clear hq
        go_wp2_with fail
        refine (C2.out _).mono ?_
        rintro e w3 ⟨rfl, hq⟩
        replace hw := afterB hw hq hw.size
        clear hq
        go_wp2_with fail
        refine (C3.out _).mono ?_
        rintro e w4 ⟨rfl, hq⟩
        replace hw := afterB hw hq hw.size
        clear hq
        have HW := Lib.hid hw
        have HXZ := Lib.hid hxz
        clear hw hxz C1 C2 C3
        go_wp2_with fail
        go_loopw [9] (fun i wr => ∃ j : Nat, j ≤ s.size ∧ i = .int .i64 (j : Int) ∧ Below w.heap.size w wr) (fun i _ => s.size - (intOf i).toNat)
        case atStart => exact ⟨0, Nat.zero_le _, rfl, HW.out⟩
        case round =>
          clear HW
          obtain ⟨j, hj, rfl, hw⟩ := hrel
          by_cases hlt : j < s.size
          · skip
            have hls := HL.out j hlt
            have C9 := Lib.hid (C4.out (j : Int))
            generalize shf (j : Int) s = z at C9 hls
            go_wp2_with fail
            refine (C9.out _).mono ?_
            rintro e w21 ⟨rfl, hq⟩
            replace hw := afterB hw hq hw.size
            clear hq
            go_wp2
            go_roundw
            case rel => exact ⟨j + 1, by omega, by go_num, hw⟩
            case measure => simp [intOf]; omega
          · skip
            go_wp2_with fail
            refine (C5.out _).mono ?_
            rintro e w31 ⟨rfl, hq⟩
            replace hw := afterB hw hq hw.size
            clear hq
            go_wp2_with fail
            refine (C6.out _).mono ?_
            rintro e w32 ⟨rfl, hq⟩
            replace hw := afterB hw hq hw.size
            clear hq
            go_wp2_with fail
            refine (C7.out _).mono ?_
            rintro e w33 ⟨rfl, hq⟩
            replace hw := afterB hw hq hw.size
            clear hq
            go_wp2_with fail
            refine (C8.out _).mono ?_
            rintro e w34 ⟨rfl, hq⟩
            replace hw := afterB hw hq hw.size
            clear hq
            go_wp2
            go_ret
            exact ⟨rfl, hw⟩
    · have d1 : decide ((1048576 : Int) < (len1 : Int)) = true := by simp; omega
      go_enter Try.func11, Try.ntmps11
      go_wp2
      go_ret
      exact ⟨rfl, Below.refl _ _⟩
  · have d0 : decide ((1048576 : Int) < (len0 : Int)) = true := by simp; omega
    go_enter Try.func11, Try.ntmps11
    go_wp2
    go_ret
    exact ⟨rfl, Below.refl _ _⟩
end Go.Proofs.Ytgmagocpacpafaa
