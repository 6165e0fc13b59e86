/- The walk of the law that each bit is a sum of earlier ones. -/
import Derived.Test.YtmlmbinpkmdjjaaWDrawL
import Derived.Test.YtmlmbinpkmdjjaaWTail
import Derived.Test.YtmlmbinpkmdjjaaWRunS
import Derived.Test.YtmlmbinpkmdjjaaPlainBits
namespace Go.Proofs.Ytmlmbinpkmdjjaa
open Go.RowKit SS
set_option maxRecDepth 100000 in
set_option maxHeartbeats 2000000 in
theorem walk_FnStepBits (a0 : Option Addr) (len0 cap0 : Nat) (z0 : List Int) (w : World) (h0 : IsRow .u8 w a0 len0 cap0 z0) :
    Calls Try.prog 11 #[.slice a0 len0 cap0] w fun e w' => e = .returned (.bool true) ∧ Below w.heap.size w w' := by
  obtain ⟨c0, l0, m0⟩ := h0.code
  clear h0
  by_cases hs0 : len0 ≤ 1048576
  · have d0 : decide ((1048576 : Int) < (len0 : Int)) = false := by simp; omega
    have D1 := Lib.hid (drawRun a0 len0 cap0 w c0 l0 m0)
    clear c0 l0 m0
    have hw := Below.refl w.heap.size w
    go_enter Try.func11, Try.ntmps11
    go_wp2_with fail
    refine (D1.out).mono ?_
    rintro e w1 ⟨s, t, x, n, rfl, hq⟩
    replace hw := afterB hw hq hw.size
    clear hq
    clear D1
    cases hr : nv s t x n with
    | false =>
      have C1 := Lib.hid fun w => run_no s t x n w hr
      have C2 := Lib.hid fun w => srun_no s t x n w hr
      clear hr
      have b3 := B3.new w1 35 (.int .i64 s) (.int .i64 t) (.int .i64 x)
      replace hw := hw.alloc hw.size (.cells #[.int .i64 s, .int .i64 t, .int .i64 x] 35)
      obtain ⟨b3_0, b3_1, b3_2, b3_3, b3_4, b3_5, b3_6⟩ := b3.facts
      go_wp2_with fail
      refine (C1.out _).mono ?_
      rintro e w2 ⟨rfl, hq⟩
      clear b3_0 b3_1 b3_2 b3_3 b3_4 b3_5 b3_6
      replace b3 := b3.belowS hq
      replace hw := afterB hw hq hw.size
      clear hq
      obtain ⟨b3_0, b3_1, b3_2, b3_3, b3_4, b3_5, b3_6⟩ := b3.facts
      go_wp2_with fail
      refine (C2.out _).mono ?_
      rintro e w3 ⟨rfl, hq⟩
      clear b3_0 b3_1 b3_2 b3_3 b3_4 b3_5 b3_6
      replace b3 := b3.belowS hq
      replace hw := afterB hw hq hw.size
      clear hq
      obtain ⟨b3_0, b3_1, b3_2, b3_3, b3_4, b3_5, b3_6⟩ := b3.facts
      go_wp2
      go_ret
      exact ⟨rfl, hw⟩
    | true =>
      unfold nv at hr
      rw [Bool.and_eq_true, decide_eq_true_eq] at hr
      obtain ⟨s', t', x', rfl, rfl, rfl, hv⟩ := rv_nat hr.1
      obtain ⟨n', rfl⟩ := Int.eq_ofNat_of_zero_le hr.2.1
      have hn6 : n' ≤ 600 := by omega
      clear hr
      have C1 := Lib.hid fun w => run_yes s' t' x' n' w hv hn6
      have C2 := Lib.hid fun w => srun_yes s' t' x' n' w hv hn6
      obtain ⟨Q, hQ⟩ : ∃ Q, IsRun Q s' t' n' x' := ⟨_, rfl⟩
      rw [← (show Q = ⟨(run s' t' n' x').toArray⟩ from hQ)] at C1 C2
      have hsz := hQ.size
      have HQ := Lib.hid hQ
      clear hQ
      subst hsz
      have HV := Lib.hid hv
      have h8 := hv.2.1
      have h2 := hv.1
      obtain ⟨hx256, ht256⟩ := (show x' < 256 ∧ t' < 256 from ⟨lt256 hv.2.1 hv.2.2.2.2, lt256 hv.2.1 hv.2.2.2.1⟩)
      clear hv
      have b3 := B3.new w1 35 (.int .i64 s') (.int .i64 t') (.int .i64 x')
      replace hw := hw.alloc hw.size (.cells #[.int .i64 s', .int .i64 t', .int .i64 x'] 35)
      obtain ⟨b3_0, b3_1, b3_2, b3_3, b3_4, b3_5, b3_6⟩ := b3.facts
      go_wp2_with fail
      refine (C1.out _).mono ?_
      rintro e w2 ⟨rfl, hq⟩
      clear b3_0 b3_1 b3_2 b3_3 b3_4 b3_5 b3_6
      replace b3 := b3.belowS hq
      replace hw := afterB hw hq hw.size
      clear hq
      obtain ⟨b3_0, b3_1, b3_2, b3_3, b3_4, b3_5, b3_6⟩ := b3.facts
      go_wp2_with fail
      refine (C2.out _).mono ?_
      rintro e w3 ⟨rfl, hq⟩
      clear b3_0 b3_1 b3_2 b3_3 b3_4 b3_5 b3_6
      replace b3 := b3.belowS hq
      replace hw := afterB hw hq hw.size
      clear hq
      obtain ⟨b3_0, b3_1, b3_2, b3_3, b3_4, b3_5, b3_6⟩ := b3.facts
      have HW := Lib.hid hw
      clear hw b3 C1 C2
      go_wp2_with fail
      go_loopw [9] (fun i wr => ∃ j n : Nat, j ≤ Q.size ∧ i = .int .i64 (j : Int) ∧ wr = w3.drewN n) (fun i _ => Q.size - (intOf i).toNat)
      case atStart => exact ⟨0, 0, Nat.zero_le _, rfl, rfl⟩
      case round =>
        obtain ⟨j, n, hj, rfl, rfl⟩ := hrel
        by_cases hlt : j < Q.size
        · skip
          by_cases hjs : j < s'
          · skip
            have djs : decide ((j : Int) < (s' : Int)) = true := by simp; omega
            have hq := HQ.out.look j hlt
            rw [bit_low s' t' x' j (by omega) hjs HV.out.2.2.2.2] at hq
            obtain ⟨p, HP⟩ : ∃ p, Hid (p = 2 ^ j) := ⟨2 ^ j, Lib.hid rfl⟩
            have hp1 : 1 ≤ p := by rw [HP.out]; exact Nat.one_le_two_pow
            have hp2 : p ≤ 256 := by rw [HP.out]; exact Nat.pow_le_pow_right (n := 2) (by decide) (show j ≤ 8 by omega)
            rw [← HP.out] at hq
            have hsh : IntKind.i64.wrap (2 ^ j) = (p : Int) := by rw [show ((2 : Int) ^ j) = (p : Int) by rw [HP.out]; simp, IntKind.wrap_i64]; omega
            obtain ⟨y, hy, hyb⟩ : ∃ y : Nat, ((x' : Int)).tdiv (p : Int) = (y : Int) ∧ y = x' / p := ⟨x' / p, by rw [Int.tdiv_eq_ediv_of_nonneg (by omega)]; exact (Int.natCast_ediv x' p).symm, rfl⟩
            rw [← hyb] at hq
            have hy2 : y ≤ 255 := by rw [hyb]; exact Nat.le_trans (Nat.div_le_self _ _) (by omega)
            clear hyb
            have hyw : IntKind.i64.wrap (y : Int) = (y : Int) := by rw [IntKind.wrap_i64]; omega
            have hju : IntKind.u64.wrap (j : Int) = (j : Int) := by rw [IntKind.wrap_u64]; omega
            rcases (show y % 2 = 0 ∨ y % 2 = 1 by omega) with hb | hb
            · skip
              have hqb : Q[j].toNat = 48 := by omega
              have hmy : ((y : Int)).tmod 2 = 0 := by rw [Int.tmod_eq_emod_of_nonneg (by omega)]; omega
              clear hq hb
              go_wp2_with fail
              go_quiet (fail)
              clear hmy hqb hsh hy hju hyw
              go_wp2
              go_roundw
              case rel => exact ⟨j + 1, _, by omega, by go_num, rfl⟩
              case measure => simp [intOf]; omega
            · skip
              have hqb : Q[j].toNat = 49 := by omega
              have hmy : ((y : Int)).tmod 2 = 1 := by rw [Int.tmod_eq_emod_of_nonneg (by omega)]; omega
              clear hq hb
              go_wp2_with fail
              go_quiet (fail)
              clear hmy hqb hsh hy hju hyw
              go_wp2
              go_roundw
              case rel => exact ⟨j + 1, _, by omega, by go_num, rfl⟩
              case measure => simp [intOf]; omega
          · skip
            have djs : decide ((j : Int) < (s' : Int)) = false := by simp; omega
            obtain ⟨y, hy⟩ : ∃ y, Hid (y = it (nx s' t') (j - s') x') := ⟨_, Lib.hid rfl⟩
            have hyv : VR s' t' y := by rw [hy.out]; exact HV.out.itnx _
            have hqj : Q[j].toNat = 48 + psum y t' s' % 2 := by
              rw [HQ.out.look j hlt, psum_all s' t' y h8 hyv.2.2.2.2, ← bit_next s' t' y (by omega) hyv.2.2.2.2, hy.out, ← it_add, show j - s' + s' = j by omega]
            have HQJ := Lib.hid hqj
            clear hqj
            have HYB : Hid (∀ i, i < s' → ∀ h, Q[j - s' + i].toNat = 48 + y / 2 ^ i % 2) := by
              intro i hi h
              rw [HQ.out.look _ h, ← bit_low s' t' y i (by omega) hi hyv.2.2.2.2, hy.out, ← it_add]
            clear hyv
            obtain ⟨wo, hwo⟩ : ∃ wo : World, wo = w3.drewN n := ⟨_, rfl⟩
            clear hwo wo
            go_wp2_with fail
            go_loop [10, 11] (fun sm i => ∃ k : Nat, k ≤ s' ∧ i = .int .i64 (k : Int) ∧ sm = .int .i64 ((psum y t' k : Nat) : Int)) (fun _ i => s' - (intOf i).toNat)
            case atStart => exact ⟨0, Nat.zero_le _, rfl, rfl⟩
            case round =>
              obtain ⟨k, hk, rfl, rfl⟩ := hrel
              have hpl := psum_le y t' k
              by_cases hks : k < s'
              · skip
                have hidx : j - s' + k < Q.size := by omega
                have hq := HYB.out k hks hidx
                have HPS : Hid (psum y t' (k + 1) = psum y t' k + if t' / 2 ^ k % 2 = 1 then y / 2 ^ k % 2 else 0) := Lib.hid rfl
                obtain ⟨p, HP⟩ : ∃ p, Hid (p = 2 ^ k) := ⟨2 ^ k, Lib.hid rfl⟩
                have hp1 : 1 ≤ p := by rw [HP.out]; exact Nat.one_le_two_pow
                have hp2 : p ≤ 256 := by rw [HP.out]; exact Nat.pow_le_pow_right (n := 2) (by decide) (show k ≤ 8 by omega)
                have hpi : ((2 : Int) ^ k) = (p : Int) := by rw [HP.out]; simp
                rw [← HP.out] at HPS hq
                have hdv : ((t' : Int) / (p : Int)) = ((t' / p : Nat) : Int) := (Int.natCast_ediv t' p).symm
                generalize y / p % 2 = b at hq HPS
                have hzl : t' / p ≤ 255 := Nat.le_trans (Nat.div_le_self _ _) (by omega)
                have hb1 : Q[j - s' + k].toNat ≤ 255 := by have := UInt8.toNat_lt Q[j - s' + k]; omega
                by_cases hb : t' / p % 2 = 1
                · skip
                  have he : (((t' / p : Nat) : Int) % 2 == 1) = true := by rw [beq_iff_eq]; omega
                  rw [if_pos hb] at HPS
                  clear hb
                  generalize t' / p = z at hdv he hzl
                  go_wp2
                  go_round
                  case rel => exact ⟨k + 1, by omega, by go_num, by rw [HPS.out]; go_num⟩
                  case measure => simp [intOf]; omega
                · skip
                  have he : (((t' / p : Nat) : Int) % 2 == 1) = false := by rw [beq_eq_false_iff_ne]; omega
                  rw [if_neg hb] at HPS
                  clear hb
                  generalize t' / p = z at hdv he hzl
                  go_wp2
                  go_round
                  case rel => exact ⟨k + 1, by omega, by go_num, by rw [HPS.out]; rfl⟩
                  case measure => simp [intOf]; omega
              · skip
                obtain rfl : k = s' := by omega
                have hqj := HQJ.out
                generalize psum y t' k = P at hqj hpl
                rcases (show P % 2 = 0 ∨ P % 2 = 1 by omega) with hb | hb
                · skip
                  have hqb : Q[j].toNat = 48 := by omega
                  have hmy : ((P : Int)) % 2 = 0 := by omega
                  clear hqj hb
                  go_wp2
                  go_roundw
                  case rel => exact ⟨j + 1, _, by omega, by go_num, rfl⟩
                  case measure => simp [intOf]; omega
                · skip
                  have hqb : Q[j].toNat = 49 := by omega
                  have hmy : ((P : Int)) % 2 = 1 := by omega
                  clear hqj hb
                  go_wp2
                  go_roundw
                  case rel => exact ⟨j + 1, _, by omega, by go_num, rfl⟩
                  case measure => simp [intOf]; omega
        · skip
          obtain rfl : j = Q.size := by omega
          go_wp2
          go_ret
          exact ⟨rfl, below_drewN HW.out n⟩
  · have d0 : decide ((1048576 : Int) < (len0 : Int)) = true := by simp; omega
    go_enter Try.func11, Try.ntmps11
    go_wp2
    go_ret
    exact ⟨rfl, Below.refl _ _⟩
end Go.Proofs.Ytmlmbinpkmdjjaa
