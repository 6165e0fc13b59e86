/- The walk of the law that a maximal register shows each pattern once. -/
import Derived.Test.YtgmagocpacpafaaWDrawP
import Derived.Test.YtgmagocpacpafaaWTail
import Derived.Test.YtgmagocpacpafaaWMaxT
import Derived.Test.YtgmagocpacpafaaWBools
import Derived.Test.YtgmagocpacpafaaWFrom
import Derived.Test.YtgmagocpacpafaaWStrs
import Derived.Test.YtgmagocpacpafaaWRunS
import Derived.Test.YtgmagocpacpafaaPlainRec
import Derived.Test.YtgmagocpacpafaaPlainMaxi
namespace Go.Proofs.Ytgmagocpacpafaa
open Go.RowKit SS
set_option maxRecDepth 100000
theorem mtaps_mem (s k : Nat) : ∀ x ∈ mtaps s k, ∃ t : Nat, x = (t : Int) ∧ 1 ≤ t ∧ t < k ∧ mx s t = true := by
  intro x hx
  unfold mtaps at hx
  obtain ⟨t, ht, rfl⟩ := List.mem_map.1 hx
  rw [List.mem_filter] at ht
  simp at ht
  exact ⟨t, rfl, ht.2.1, ht.1, ht.2.2⟩
theorem mx_Mxp {s t : Nat} (hv : VR s t 1) (h : mx s t = true) : Mxp s t := by
  obtain ⟨⟨hI, _, _⟩, hN⟩ := hv.orb
  have hp : ((2 : Int) ^ s) = ((2 ^ s : Nat) : Int) := by simp
  have h4 := hv.four
  unfold mx per1 at h
  unfold Mxp
  rw [beq_iff_eq, hp] at h
  omega
set_option maxHeartbeats 2000000 in
theorem walk_FnMaximalBits (a0 : Option Addr) (len0 cap0 : Nat) (z0 : List Int) (a1 : Option Addr) (len1 cap1 : Nat) (z1 : List Int) (w : World) (h0 : IsRow .u8 w a0 len0 cap0 z0) (h1 : IsRow .u8 w a1 len1 cap1 z1) :
    Calls Try.prog 7 #[.slice a0 len0 cap0, .slice a1 len1 cap1] w fun e w' => e = .returned (.bool true) ∧ Below w.heap.size w w' := by
  obtain ⟨c0, l0, m0⟩ := h0.code
  obtain ⟨c1, l1, m1⟩ := h1.code
  clear h0 h1
  by_cases hs0 : len0 ≤ 1048576
  · have d0 : decide ((1048576 : Int) < (len0 : Int)) = false := by simp; omega
    by_cases hs1 : len1 ≤ 1048576
    · have d1 : decide ((1048576 : Int) < (len1 : Int)) = false := by simp; omega
      have D1 := Lib.hid (drawMaxTaps a0 len0 cap0 w c0 l0 m0)
      clear c0 l0 m0 c1 l1 m1
      have hw := Below.refl w.heap.size w
      go_enter Try.func7, Try.ntmps7
      go_wp2_with fail
      refine (D1.out).mono ?_
      rintro e w1 ⟨z, rfl, hq⟩
      replace hw := afterB hw hq hw.size
      clear hq
      clear D1
      by_cases hz : z < 2 ∨ 8 < z
      · skip
        have C1 := Lib.hid fun w => mtaps_impl_no z w hz
        have C2 := Lib.hid fun w => mtaps_spec_no z w hz
        clear hz
        go_wp2_with fail
        refine (C1.out _).mono ?_
        rintro e w2 ⟨v0, rfl, o0, hq⟩
        have HR := Lib.hid o0.row
        clear o0
        replace hw := afterB hw hq hw.size
        clear hq
        go_wp2_with fail
        refine (C2.out _).mono ?_
        rintro e w3 ⟨v1, rfl, o1, hq⟩
        have HR1 := Lib.hid o1.row
        clear o1
        have hq2 := hq.size
        replace HR := Lib.hid ((HR.out.below hq).mono hq2)
        replace hw := afterB hw hq hw.size
        clear hq hq2
        go_wp2_with fail
        refine (ssInts_yes v0 v1 _ _ _ HR.out HR1.out (by simp)).mono ?_
        rintro e w4 ⟨rfl, n4, rfl⟩
        replace HR := Lib.hid (HR.out.drewN n4)
        replace hw := below_drewN hw n4
        clear HR1
        obtain ⟨A0, k0, rfl⟩ := HR.out.nil
        go_wp2_with fail
        refine (C2.out _).mono ?_
        rintro e w5 ⟨v2, rfl, o2, hq⟩
        have HR2 := Lib.hid o2.row
        clear o2
        have hq2 := hq.size
        have HR5 := Lib.hid ((HR.out.below hq).mono hq2)
        replace hw := afterB hw hq hw.size
        clear hq hq2
        go_wp2_with fail
        refine (ssInts_yes _ v2 _ _ _ HR5.out HR2.out (by simp)).mono ?_
        rintro e w6 ⟨rfl, n6, rfl⟩
        go_wp2
        go_ret
        exact ⟨rfl, below_drewN hw n6⟩
      · skip
        obtain ⟨s, rfl⟩ := Int.eq_ofNat_of_zero_le (show 0 ≤ z by omega)
        have h2 : 2 ≤ s := by omega
        have h8 : s ≤ 8 := by omega
        clear hz
        have C1 := Lib.hid fun w => mtaps_impl s w h2 h8
        have C2 := Lib.hid fun w => mtaps_spec s w h2 h8
        obtain ⟨p, HP⟩ : ∃ p, Hid (p = 2 ^ s) := ⟨2 ^ s, Lib.hid rfl⟩
        have hp2 : p ≤ 256 := by rw [HP.out]; exact Nat.pow_le_pow_right (n := 2) (by decide) h8
        have hp4 : 4 ≤ p := by rw [HP.out]; exact Nat.pow_le_pow_right (n := 2) (by decide) h2
        have hpi : ((2 : Int) ^ s) = (p : Int) := by rw [HP.out]; simp
        have HPI := Lib.hid hpi
        clear hpi
        have hll : (mtaps s (2 ^ s)).length ≤ 256 := by have := mtaps_length s (2 ^ s); rw [← HP.out] at this ⊢; omega
        have HM := Lib.hid (mtaps_mem s (2 ^ s))
        generalize mtaps s (2 ^ s) = L at C1 C2 hll HM
        go_wp2_with fail
        refine (C1.out _).mono ?_
        rintro e w2 ⟨v0, rfl, o0, hq⟩
        have HR := Lib.hid o0.row
        clear o0
        replace hw := afterB hw hq hw.size
        clear hq
        go_wp2_with fail
        refine (C2.out _).mono ?_
        rintro e w3 ⟨v1, rfl, o1, hq⟩
        have HR1 := Lib.hid o1.row
        clear o1
        have hq2 := hq.size
        replace HR := Lib.hid ((HR.out.below hq).mono hq2)
        replace hw := afterB hw hq hw.size
        clear hq hq2
        go_wp2_with fail
        refine (ssInts_yes v0 v1 _ _ _ HR.out HR1.out (by omega)).mono ?_
        rintro e w4 ⟨rfl, n4, rfl⟩
        replace HR := Lib.hid (HR.out.drewN n4)
        replace hw := below_drewN hw n4
        clear HR1
        by_cases hL : L = []
        · skip
          subst hL
          obtain ⟨A0, k0, rfl⟩ := HR.out.nil
          go_wp2_with fail
          refine (C2.out _).mono ?_
          rintro e w5 ⟨v2, rfl, o2, hq⟩
          have HR2 := Lib.hid o2.row
          clear o2
          have hq2 := hq.size
          have HR5 := Lib.hid ((HR.out.below hq).mono hq2)
          replace hw := afterB hw hq hw.size
          clear hq hq2
          go_wp2_with fail
          refine (ssInts_yes _ v2 _ _ _ HR5.out HR2.out (by simp)).mono ?_
          rintro e w6 ⟨rfl, n6, rfl⟩
          go_wp2
          go_ret
          exact ⟨rfl, below_drewN hw n6⟩
        · skip
          have hlen : 0 < L.length := List.length_pos_iff.2 hL
          obtain ⟨g0, k0, rfl, hg0, hcell⟩ := HR.out.form hL
          clear HR hL C1 C2
          obtain ⟨q, hq, hql⟩ : ∃ q : Nat, ((len1 : Int) % (L.length : Int)) = (q : Int) ∧ q < L.length := ⟨len1 % L.length, by simp, Nat.mod_lt _ hlen⟩
          have hc := hcell q _ (List.getElem?_eq_getElem hql)
          obtain ⟨t, ht, ht1, ht2, hmx⟩ := HM.out _ (List.getElem_mem hql)
          rw [ht] at hc
          clear hcell ht HM
          have hv : VR s t 1 := ⟨h2, h8, ht1, ht2, by rw [← HP.out]; omega⟩
          have hM : Mxp s t := mx_Mxp hv hmx
          have hpar := hM.par hv
          have hodd := hM.odds hv
          obtain ⟨hI, hN, h0⟩ := hM.orb hv
          have hdis := hv.orb.1.2.2
          rw [hN] at hdis
          rw [← HP.out] at hodd hdis
          have ht256 := lt256 h8 ht2
          have C3 := Lib.hid fun w => ssRun_yes s t 1 (p - 1 + s - 1) w hv (by omega)
          obtain ⟨Q, hQ⟩ : ∃ Q, IsRun Q s t (p - 1 + s - 1) 1 := ⟨_, show IsRun ⟨(run s t (p - 1 + s - 1) 1).toArray⟩ s t (p - 1 + s - 1) 1 from rfl⟩
          rw [show bs (run s t (p - 1 + s - 1) 1) = Q from hQ.symm] at C3
          have hQs := hQ.size
          have HQ := Lib.hid hQ
          clear hQ
          have hcnt : ((p - 1 + s - 1 : Nat) : Int) = (p : Int) - 1 + (s : Int) - 1 := by omega
          rw [hcnt] at C3
          clear hcnt
          have C4 := Lib.hid fun w => parity_impl t w (by omega)
          rw [hpar] at C4
          have HV := Lib.hid hv
          have H0 := Lib.hid h0
          have HD := Lib.hid hdis
          have HOD := Lib.hid hodd
          have HT2 := Lib.hid ht2
          clear hpar hodd hI hN h0 hdis hv hM hmx ht2
          have hmk := makeBools p (by omega)
          generalize hM' : madeCells #[.bool false] p = M at hmk
          have HMK := Lib.hid hM'
          clear hM'
          have dl : ((L.length : Int) == 0) = false := by rw [beq_eq_false_iff_ne]; omega
          have hpi := HPI.out
          have hcast1 : ((1 : Nat) : Int) = 1 := rfl
          rw [hcast1] at C3
          clear hcast1
          go_wp2_with fail
          refine (C3.out _).mono ?_
          rintro e w5 ⟨rfl, hq5⟩
          replace hw := afterB hw hq5 hw.size
          clear hq5 hc
          have hpp : ((p : Int) - 1 + 1) = (p : Int) := by omega
          have bo := BO.new w5 4 p
          rw [HMK.out] at bo
          have BO1 := Lib.hid bo
          have HW := Lib.hid (hw.alloc hw.size (.cells M 4))
          have hz5 := hw.size
          clear bo hw
          go_wp2_with fail
          go_loopw [11, 12] (fun od i wr => ∃ j : Nat, j ≤ p - 1 ∧ i = .int .i64 (j : Int) ∧ od = .int .i64 ((odds s t j : Nat) : Int) ∧ BO wr w5.heap.size 4 (seenL p (nx s t) 1 j) ∧ Below w.heap.size w wr) (fun _ i _ => p - 1 - (intOf i).toNat)
          case atStart => exact ⟨0, Nat.zero_le _, rfl, rfl, BO1.out, HW.out⟩
          case round =>
            clear BO1 HW
            obtain ⟨j, hj, rfl, rfl, bo, hw⟩ := hrel
            have hodl := odds_le s t j
            by_cases hlt : j < p - 1
            · skip
              have hvy := HV.out.itnx j
              have hEs : (Q.extract j (j + s)).size = s := by rw [ByteArray.size_extract, hQs]; omega
              have hEl : (Q.extract j (j + s)).data.toList = (run s t (p - 1 + s - 1 - j) (it (nx s t) j 1)).take s := by
                rw [ByteArray.data_extract, Array.toList_extract, HQ.out.list, List.extract_eq_take_drop, run_drop _ _ _ _ _ (by omega), Nat.add_sub_cancel_left]
              have C5 := Lib.hid fun w => rfrom_yes s t (Q.extract j (j + s)) w (by rw [hEs]; unfold maxLen; omega) (tv_of HV.out) (by rw [hEl]; unfold bitsB; rw [okB_take _ _ (okB_run _ _ _ _)]; simp; omega) hEs
              rw [hEl, hvy.frm _ (by omega)] at C5
              clear hEl hEs
              have hyp : it (nx s t) j 1 < p := by rw [HP.out]; exact hvy.2.2.2.2
              have hy0 := H0.out j
              have HNV := Lib.hid (seenL_no p (nx s t) 1 j (it (nx s t) j 1) hyp (fun i hi => HD.out i j hi hlt))
              have HOS : Hid (odds s t (j + 1) = odds s t j + it (nx s t) j 1 % 2) := Lib.hid rfl
              have HSS : Hid (seenL p (nx s t) 1 (j + 1) = (seenL p (nx s t) 1 j).set (it (nx s t) j 1) true) := Lib.hid rfl
              generalize it (nx s t) j 1 = y at *
              clear hvy
              have hyb : ((y : Int) == 0) = false := by rw [beq_eq_false_iff_ne]; omega
              have hjs1 : (0 : Int) ≤ (j : Int) := by omega
              have hjs : (j + s : Nat) ≤ Q.size := by omega
              go_wp2_with fail
              refine (C5.out _).mono ?_
              rintro e w6 ⟨rfl, hq6⟩
              have bx := B3.new w6 24 (.int .i64 s) (.int .i64 t) (.int .i64 y)
              have bo6 := (bo.belowS hq6).alloc (.cells #[.int .i64 s, .int .i64 t, .int .i64 y] 24)
              have hne : w5.heap.size ≠ w6.heap.size := by have := (bo.belowS hq6).lt; omega
              replace hw := afterB hw hq6 hw.size
              replace hw := hw.alloc hw.size (.cells #[.int .i64 s, .int .i64 t, .int .i64 y] 24)
              have hsz := hq6.size
              clear hq6 bo
              have cs := bo6.cell _ _ HNV.out
              have fs := bo6.frozen y
              have BS := Lib.hid (bo6.set y true)
              rw [← HSS.out] at BS
              obtain ⟨x0, x1, x2, _, _, _, _⟩ := bx.facts
              go_wp2
              go_roundw
              case rel => exact ⟨j + 1, by omega, by go_num, by rw [HOS.out]; go_num, BS.out, hw.setCell hz5 _⟩
              case measure => simp [intOf]; omega
            · skip
              obtain rfl : j = p - 1 := by omega
              have hod := HOD.out
              generalize odds s t (p - 1) = od at hod hodl
              have hob : ((2 * (od : Int)) == (p : Int)) = true := by rw [beq_iff_eq]; omega
              clear hod
              go_wp2_with fail
              refine (C4.out _).mono ?_
              rintro e w7 ⟨rfl, rfl⟩
              go_wp2
              go_ret
              exact ⟨rfl, hw⟩
    · have d1 : decide ((1048576 : Int) < (len1 : Int)) = true := by simp; omega
      go_enter Try.func7, Try.ntmps7
      go_wp2
      go_ret
      exact ⟨rfl, Below.refl _ _⟩
  · have d0 : decide ((1048576 : Int) < (len0 : Int)) = true := by simp; omega
    go_enter Try.func7, Try.ntmps7
    go_wp2
    go_ret
    exact ⟨rfl, Below.refl _ _⟩
end Go.Proofs.Ytgmagocpacpafaa
