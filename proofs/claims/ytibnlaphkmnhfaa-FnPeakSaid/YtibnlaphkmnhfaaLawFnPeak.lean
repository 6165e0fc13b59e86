/- The walk of the law on greatest correlations. -/
import Derived.Test.YtibnlaphkmnhfaaWDrawU
import Derived.Test.YtibnlaphkmnhfaaWPeak2
import Derived.Test.YtibnlaphkmnhfaaWTab
import Derived.Test.YtibnlaphkmnhfaaPlainCor
import Derived.Test.YtibnlaphkmnhfaaWTail
import Derived.Test.YtibnlaphkmnhfaaWQuiet
namespace Go.Proofs.Ytibnlaphkmnhfaa
open Go.RowKit SS
set_option maxRecDepth 100000
set_option maxHeartbeats 2000000 in
theorem walk_FnPeak (a0 : Option Addr) (len0 cap0 : Nat) (z0 : List Int) (a1 : Option Addr) (len1 cap1 : Nat) (z1 : List Int) (w : World) (h0 : IsRow .u8 w a0 len0 cap0 z0) (h1 : IsRow .u8 w a1 len1 cap1 z1) :
    Calls Try.prog 6 #[.slice a0 len0 cap0, .slice a1 len1 cap1] w fun e w' => e = .returned (.bool true) ∧ Below w.heap.size w w' := by
  obtain ⟨c0, l0, m0⟩ := h0.code
  obtain ⟨c1, l1, m1⟩ := h1.code
  clear h0 h1
  by_cases hs0 : len0 ≤ 1048576
  · have d0 : decide ((1048576 : Int) < (len0 : Int)) = false := by simp; omega
    by_cases hs1 : len1 ≤ 1048576
    · have d1 : decide ((1048576 : Int) < (len1 : Int)) = false := by simp; omega
      have D1 := Lib.hid (drawPeak a0 len0 cap0 w c0 l0 m0)
      clear c0 l0 m0 c1 l1 m1
      have hw := Below.refl w.heap.size w
      go_enter Try.func6, Try.ntmps6
      go_wp2_with fail
      refine (D1.out).mono ?_
      rintro e w1 ⟨a, b, rfl, hsa, hsb, hq⟩
      replace hw := afterB hw hq hw.size
      clear hq
      clear D1
      have hma : a.size ≤ maxLen := by unfold maxLen; omega
      have hmb : b.size ≤ maxLen := by unfold maxLen; omega
      cases hp : pv a b with
      | false =>
        have C1 := Lib.hid fun w => peak_impl_no a b w hma hmb hp
        have C2 := Lib.hid fun w => peak_spec_no a b w hma hmb hp
        clear hp hma hmb hsa hsb
        go_wp2_with fail
        refine (C1.out _).mono ?_
        rintro e w2 ⟨rfl, hq⟩
        replace hw := afterB hw hq hw.size
        clear hq
        go_wp2_with fail
        refine (C2.out _).mono ?_
        rintro e w3 ⟨rfl, hq⟩
        replace hw := afterB hw hq hw.size
        clear hq
        go_wp2_with fail
        refine (C2.out _).mono ?_
        rintro e w4 ⟨rfl, hq⟩
        replace hw := afterB hw hq hw.size
        clear hq
        go_wp2
        go_ret
        exact ⟨rfl, hw⟩
      | true =>
        obtain ⟨ha, hb, hz⟩ := pv_yes hp
        obtain ⟨h1, h2⟩ := sv_size ha
        obtain ⟨_, _, hoa⟩ := sv_yes ha
        obtain ⟨_, _, hob⟩ := sv_yes hb
        have hll : a.data.toList.length = b.data.toList.length := by rw [size_list, size_list, hz]
        have C1 := Lib.hid fun w => peak_impl a b w hp
        have C2 := Lib.hid fun w => peak_spec a b w hp
        have C3 := Lib.hid fun w => ctab_impl a b w hp
        obtain ⟨K, hK, hKs, hKm, hKl⟩ := peak_nat a b h1
        rw [hK] at C1 C2
        obtain ⟨P, hLP⟩ := LP.ex a h1
        have hP1 : 1 ≤ P := hLP.pos
        have hP2 := hLP.le
        have C4 := Lib.hid fun w => peak_impl a a w (pv_mk ha ha rfl)
        rw [peak_self a P hLP hoa] at C4
        obtain ⟨s, hs, hs3⟩ : ∃ s : Nat, ((len1 : Int) % (a.size : Int)) = (s : Int) ∧ s < a.size := ⟨len1 % a.size, by simp, Nat.mod_lt _ (by omega)⟩
        have C5 := Lib.hid fun w => ssShift_yes a (s : Int) w ha
        have hsh : shf (s : Int) a = rotS s a := by unfold shf; rw [md_nat s a.size hs3]
        rw [hsh] at C5
        have hpr : pv a (rotS s a) = true := pv_mk ha (by rw [rotS_list]; exact sv_rot s _ (by rw [size_list]; omega) ha) (rotS_size s a (by omega)).symm
        have C6 := Lib.hid fun w => peak_impl a (rotS s a) w hpr
        rw [peak_shift a P s hLP hoa hs3] at C6
        have C7 := Lib.hid fun w => quiet_below (lp_impl a P w ha hLP)
        have hll2 := ctab_length a.data.toList b.data.toList a.size
        have HCT : Hid (∀ i : Nat, i < a.size → ∃ x y : Int, (ctab a.data.toList b.data.toList a.size)[i]? = some x ∧ (ctab a.data.toList b.data.toList a.size)[K]? = some y ∧ x ≤ y ∧ (i < K → x < y)) := by
          intro i hi
          exact ⟨_, _, ctab_at _ _ _ _ hi, ctab_at _ _ _ _ hKs, hKm i hi, hKl i⟩
        have hr1 : s % P < P := Nat.mod_lt _ (by omega)
        have htm1 : ((s : Int)).tmod (P : Int) = ((s % P : Nat) : Int) := by rw [Int.tmod_eq_emod_of_nonneg (by omega)]; simp
        have htm2 : (((P - s % P : Nat) : Int)).tmod (P : Int) = (((P - s % P) % P : Nat) : Int) := by rw [Int.tmod_eq_emod_of_nonneg (by omega)]; simp
        generalize s % P = r at *
        have hsub : IntKind.i64.wrap ((P : Int) - (r : Int)) = ((P - r : Nat) : Int) := by rw [IntKind.wrap_i64]; omega
        generalize (P - r) % P = q at *
        generalize P - r = u at *
        have hPz : ((P : Int) == 0) = false := by rw [beq_eq_false_iff_ne]; omega
        have haz : ((a.size : Int) == 0) = false := by rw [beq_eq_false_iff_ne]; omega
        have dK : decide ((K : Int) < 0) = false := by simp
        have HTM1 := Lib.hid htm1
        have HTM2 := Lib.hid htm2
        have HSUB := Lib.hid hsub
        clear htm1 htm2 hsub hr1 hpr hsh hLP hK hKm hKl hP2 ha hb hoa hob hll hp hma hmb hsa hsb hz
        generalize rotS s a = y at C5 C6
        generalize (ctab a.data.toList b.data.toList a.size) = TT at *
        go_wp2_with fail
        refine (C1.out _).mono ?_
        rintro e w2 ⟨rfl, hq⟩
        replace hw := afterB hw hq hw.size
        clear hq
        go_wp2_with fail
        refine (C2.out _).mono ?_
        rintro e w3 ⟨rfl, hq⟩
        replace hw := afterB hw hq hw.size
        clear hq
        go_wp2_with fail
        refine (C3.out _).mono ?_
        rintro e w5 ⟨v0, rfl, o0, hq⟩
        have HR := Lib.hid o0.row
        clear o0
        replace hw := afterB hw hq hw.size
        clear hq
        have hne : TT ≠ [] := List.ne_nil_of_length_pos (by omega)
        obtain ⟨g0, k0, rfl, hg0, hcell⟩ := HR.out.form hne
        have HCELL := Lib.hid hcell
        clear HR C1 C2 C3 hcell hne
        rw [hll2]
        clear hll2
        have HW := Lib.hid hw
        clear hw
        go_wp2_with fail
        go_loopw [9] (fun i wr => ∃ j n : Nat, j ≤ a.size ∧ i = .int .i64 (j : Int) ∧ wr = w5.drewN n) (fun i _ => a.size - (intOf i).toNat)
        case atStart => exact ⟨0, 0, Nat.zero_le _, rfl, rfl⟩
        case round =>
          obtain ⟨j, n, hj, rfl, rfl⟩ := hrel
          by_cases hlt : j < a.size
          · skip
            obtain ⟨x, y2, hx, hy, hxy, hxl⟩ := HCT.out j hlt
            have cx : w5.cell? ⟨g0, j, none⟩ = some (.int .i64 x) := HCELL.out j x hx
            have cy : w5.cell? ⟨g0, K, none⟩ = some (.int .i64 y2) := HCELL.out K y2 hy
            have b1 : decide (y2 < x) = false := by simp; omega
            have hjs : decide (a.size ≤ j) = false := by simp; omega
            have hks : decide (a.size ≤ K) = false := by simp; omega
            clear hx hy hxy
            by_cases hjK : j < K
            · skip
              have b2 : decide (j < K) = true := decide_eq_true hjK
              have b3 : (x == y2) = false := by rw [beq_eq_false_iff_ne]; have := hxl hjK; omega
              clear hxl hjK
              go_wp2_with fail
              go_quiet (fail)
              go_wp2
              go_roundw
              case rel => exact ⟨j + 1, _, by omega, by go_num, rfl⟩
              case measure => first | (simp [intOf]; done) | (simp [intOf]; omega)
            · skip
              have b2 : decide (j < K) = false := decide_eq_false hjK
              clear hxl hjK
              go_wp2_with fail
              go_quiet (fail)
              go_wp2
              go_roundw
              case rel => exact ⟨j + 1, _, by omega, by go_num, rfl⟩
              case measure => first | (simp [intOf]; done) | (simp [intOf]; omega)
          · skip
            obtain rfl : j = a.size := by omega
            have hw := below_drewN HW.out n
            have htm1 := HTM1.out
            have htm2 := HTM2.out
            have hsub := HSUB.out
            go_wp2_with fail
            refine (C4.out _).mono ?_
            rintro e w21 ⟨rfl, hq⟩
            replace hw := afterB hw hq hw.size
            clear hq
            have hwr := below_drewN hw 1
            have hPz2 : ¬ (P : Int) = 0 := by omega
            have hPz3 : ¬ P = 0 := by omega
            have hPz4 : (P == 0) = false := by rw [beq_eq_false_iff_ne]; omega
            go_wp2_with fail
            go_region_held3 (fun _ => True) (go_keep) (first | (go_at_call 18; (with_reducible refine (C5.out _).mono ?_); rintro e wv ⟨rfl, hq⟩; replace hwr := afterB hwr hq hwr.size; clear hq) | (go_at_call 31; (with_reducible refine (C6.out _).mono ?_); rintro e wv ⟨rfl, hq⟩; replace hwr := afterB hwr hq hwr.size; clear hq) | (go_at_call 33; (with_reducible refine (C7.out _).mono ?_); rintro e wv ⟨rfl, hq⟩; replace hwr := afterB hwr hq hwr.size; clear hq))
            all_goals (go_wp2_with fail; go_ret; exact ⟨rfl, hwr⟩)
    · have d1 : decide ((1048576 : Int) < (len1 : Int)) = true := by simp; omega
      go_enter Try.func6, Try.ntmps6
      go_wp2
      go_ret
      exact ⟨rfl, Below.refl _ _⟩
  · have d0 : decide ((1048576 : Int) < (len0 : Int)) = true := by simp; omega
    go_enter Try.func6, Try.ntmps6
    go_wp2
    go_ret
    exact ⟨rfl, Below.refl _ _⟩
end Go.Proofs.Ytibnlaphkmnhfaa
