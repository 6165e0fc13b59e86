/- The walk of the law on all correlations of two sequences. -/
import Derived.Test.YtibnlaphkmnhfaaWDrawU
import Derived.Test.YtibnlaphkmnhfaaWMany
import Derived.Test.YtibnlaphkmnhfaaWCross
import Derived.Test.YtibnlaphkmnhfaaWTab
import Derived.Test.YtibnlaphkmnhfaaPlainCor
import Derived.Test.YtibnlaphkmnhfaaWTail
import Derived.Test.YtibnlaphkmnhfaaWQuiet
namespace Go.Proofs.Ytibnlaphkmnhfaa
open Go.RowKit SS
set_option maxRecDepth 100000
set_option maxHeartbeats 2000000 in
theorem walk_FnCrossTable (a0 : Option Addr) (len0 cap0 : Nat) (z0 : List Int) (w : World) (h0 : IsRow .u8 w a0 len0 cap0 z0) :
    Calls Try.prog 5 #[.slice a0 len0 cap0] w fun e w' => e = .returned (.bool true) ∧ Below w.heap.size w w' := by
  obtain ⟨c0, l0, m0⟩ := h0.code
  clear h0
  by_cases hs0 : len0 ≤ 1048576
  · have d0 : decide ((1048576 : Int) < (len0 : Int)) = false := by simp; omega
    have D1 := Lib.hid (drawCrossTable a0 len0 cap0 w c0 l0 m0)
    clear c0 l0 m0
    have hw := Below.refl w.heap.size w
    go_enter Try.func5, Try.ntmps5
    go_wp2_with fail
    refine (D1.out).mono ?_
    rintro e w1 ⟨a, b, rfl, hsa, hsb, hq⟩
    replace hw := afterB hw hq hw.size
    clear hq
    clear D1
    have hma : a.size ≤ maxLen := by unfold maxLen; omega
    have hmb : b.size ≤ maxLen := by unfold maxLen; omega
    cases hp : pv a b with
    | false =>
      have C1 := Lib.hid fun w => ctab_impl_no a b w hma hmb hp
      have C2 := Lib.hid fun w => ctab_spec_no a b w hma hmb hp
      clear hp hma hmb hsa hsb
      go_wp2_with fail
      refine (C1.out _).mono ?_
      rintro e w2 ⟨v0, rfl, o0, hq⟩
      have HR := Lib.hid o0.row
      clear o0
      replace hw := afterB hw hq hw.size
      clear hq
      go_wp2_with fail
      refine (C2.out _).mono ?_
      rintro e w3 ⟨v1, rfl, o1, hq⟩
      have HR1 := Lib.hid o1.row
      clear o1
      have hq2 := hq.size
      replace HR := Lib.hid ((HR.out.below hq).mono hq2)
      replace hw := afterB hw hq hw.size
      clear hq hq2
      go_wp2_with fail
      refine (ssInts_yes v0 v1 _ _ _ HR.out HR1.out (by simp)).mono ?_
      rintro e w4 ⟨rfl, n4, rfl⟩
      replace HR := Lib.hid (HR.out.drewN n4)
      replace hw := below_drewN hw n4
      clear HR1
      obtain ⟨A0, k0, rfl⟩ := HR.out.nil
      go_wp2_with fail
      refine (C2.out _).mono ?_
      rintro e w5 ⟨v2, rfl, o2, hq⟩
      have HR2 := Lib.hid o2.row
      clear o2
      have hq2 := hq.size
      have HR5 := Lib.hid ((HR.out.below hq).mono hq2)
      replace hw := afterB hw hq hw.size
      clear hq hq2
      go_wp2_with fail
      refine (ssInts_yes _ v2 _ _ _ HR5.out HR2.out (by simp)).mono ?_
      rintro e w6 ⟨rfl, n6, rfl⟩
      go_wp2
      go_ret
      exact ⟨rfl, below_drewN hw n6⟩
    | true =>
      obtain ⟨ha, hb, hz⟩ := pv_yes hp
      obtain ⟨h1, h2⟩ := sv_size ha
      obtain ⟨_, _, hoa⟩ := sv_yes ha
      obtain ⟨_, _, hob⟩ := sv_yes hb
      have hll : a.data.toList.length = b.data.toList.length := by rw [size_list, size_list, hz]
      have C1 := Lib.hid fun w => ctab_impl a b w hp
      have C2 := Lib.hid fun w => ctab_spec a b w hp
      have C3 := Lib.hid fun (k : Int) w => ssCross_quiet a b k w hp
      have C4 := Lib.hid fun w => bal_impl a w ha
      have C5 := Lib.hid fun w => bal_impl b w hb
      have hall := cor_all a.data.toList b.data.toList hll
      rw [size_list] at hall
      have HCB := Lib.hid fun k => cor_bd a.data.toList b.data.toList k
      have HSB : Hid (∀ k : Nat, k ≤ 255 → -(k : Int) * 255 ≤ sumTo k (fun k => cor a.data.toList b.data.toList k) ∧ sumTo k (fun k => cor a.data.toList b.data.toList k) ≤ (k : Int) * 255) := by
        intro k hk
        induction k with
        | zero => exact ⟨by simp [sumTo], by simp [sumTo]⟩
        | succ k ih =>
          have h := ih (by omega)
          have hc := cor_bd a.data.toList b.data.toList k
          rw [size_list] at hc
          rw [sumTo]
          omega
      have hsb2 := HSB.out a.size h2
      have hba := bal_bd a.data.toList
      have hbb := bal_bd b.data.toList
      rw [size_list] at hba hbb
      have hx1 : -255 ≤ bal a.data.toList ∧ bal a.data.toList ≤ 255 := by omega
      have hx2 : -255 ≤ bal b.data.toList ∧ bal b.data.toList ≤ 255 := by omega
      have HALL := Lib.hid hall
      have HCT : Hid (∀ k : Nat, k < a.size → ∃ x : Int, (ctab a.data.toList b.data.toList a.size)[k]? = some x ∧ cor a.data.toList b.data.toList (md (k : Int) b.size) = x ∧ -255 ≤ x ∧ x ≤ 255 ∧ sumTo (k + 1) (fun k => cor a.data.toList b.data.toList k) = sumTo k (fun k => cor a.data.toList b.data.toList k) + x) := by
        intro k hk
        have hc := cor_bd a.data.toList b.data.toList k
        rw [size_list] at hc
        exact ⟨_, ctab_at _ _ _ _ hk, by rw [md_nat k b.size (by omega)], by omega, by omega, rfl⟩
      have hll2 := ctab_length a.data.toList b.data.toList a.size
      rw [hall] at hsb2
      have hpb0 : -65025 ≤ bal a.data.toList * bal b.data.toList := by omega
      have hpb1 : bal a.data.toList * bal b.data.toList ≤ 65025 := by omega
      clear hall hba hbb hsb2 ha hb hoa hob hll hp hma hmb hsa hsb hz
      generalize bal a.data.toList = ba at *
      generalize bal b.data.toList = bb at *
      generalize hTT : (ctab a.data.toList b.data.toList a.size) = TT at *
      have HTT := Lib.hid hTT
      clear hTT
      obtain ⟨F, hF⟩ : ∃ F : Nat → Int, F = fun k => sumTo k (fun k => cor a.data.toList b.data.toList k) := ⟨_, rfl⟩
      have HF0 : Hid (F 0 = 0) := Lib.hid (by rw [hF]; rfl)
      have HSB2 : Hid (∀ k : Nat, k ≤ 255 → -65025 ≤ F k ∧ F k ≤ 65025) := Lib.hid fun k hk => by have := HSB.out k hk; rw [hF]; show _ ≤ sumTo k _ ∧ sumTo k _ ≤ _; omega
      have HCT2 : Hid (∀ k : Nat, k < a.size → ∃ x : Int, TT[k]? = some x ∧ cor a.data.toList b.data.toList (md (k : Int) b.size) = x ∧ -255 ≤ x ∧ x ≤ 255 ∧ F (k + 1) = F k + x) := Lib.hid (by rw [hF]; exact HCT.out)
      have HALL2 : Hid (F a.size = ba * bb) := Lib.hid (by rw [hF]; exact HALL.out)
      clear HSB HCT HALL HCB hF
      go_wp2_with fail
      refine (C1.out _).mono ?_
      rintro e w2 ⟨v0, rfl, o0, hq⟩
      have HR := Lib.hid o0.row
      clear o0
      replace hw := afterB hw hq hw.size
      clear hq
      go_wp2_with fail
      refine (C2.out _).mono ?_
      rintro e w3 ⟨v1, rfl, o1, hq⟩
      have HR1 := Lib.hid o1.row
      clear o1
      have hq2 := hq.size
      replace HR := Lib.hid ((HR.out.below hq).mono hq2)
      replace hw := afterB hw hq hw.size
      clear hq hq2
      go_wp2_with fail
      refine (ssInts_yes v0 v1 _ _ _ HR.out HR1.out (by omega)).mono ?_
      rintro e w4 ⟨rfl, n4, rfl⟩
      replace HR := Lib.hid (HR.out.drewN n4)
      replace hw := below_drewN hw n4
      clear HR1
      have hne : TT ≠ [] := List.ne_nil_of_length_pos (by omega)
      obtain ⟨g0, k0, rfl, hg0, hcell⟩ := HR.out.form hne
      have HCELL := Lib.hid hcell
      clear HR C1 C2 hcell hne
      obtain ⟨wo, hwo⟩ : ∃ wo : World, wo = (w3.drewN n4) := ⟨_, rfl⟩
      rw [← hwo] at hw HCELL ⊢
      have HW := Lib.hid hw
      clear hw hwo
      have hlz : ((TT.length : Nat) : Int) = (a.size : Int) := by rw [hll2]
      rw [hll2]
      have dl : ((a.size : Int) == 0) = false := by rw [beq_eq_false_iff_ne]; omega
      clear hll2 hlz
      go_wp2_with fail
      go_loopw [6, 7] (fun sm i wr => ∃ j n : Nat, j ≤ a.size ∧ i = .int .i64 (j : Int) ∧ sm = .int .i64 (F j) ∧ wr = wo.drewN n) (fun _ i _ => a.size - (intOf i).toNat)
      case atStart => exact ⟨0, 0, Nat.zero_le _, rfl, by rw [HF0.out], rfl⟩
      case round =>
        obtain ⟨j, n, hj, rfl, rfl, rfl⟩ := hrel
        obtain ⟨f1, f2⟩ := HSB2.out j (by omega)
        by_cases hlt : j < a.size
        · skip
          obtain ⟨x, hx, hcx, hx1, hx2, hs⟩ := HCT2.out j hlt
          have hc : wo.cell? ⟨g0, j, none⟩ = some (.int .i64 x) := HCELL.out j x hx
          have C6 := Lib.hid fun w => C3.out (j : Int) w
          rw [hcx] at C6
          have HS := Lib.hid hs
          clear hx hcx hs
          have hjs : decide (a.size ≤ j) = false := by simp; omega
          generalize F j = S at *
          go_wp2_with fail
          go_quiet ((go_at_call 24; first | exact quiet_ex (C6.out _) | exact quiet_exN (C6.out _)))
          go_wp2
          go_roundw
          case rel => exact ⟨j + 1, _, by omega, by go_num, by rw [HS.out], by first | rfl | (simp only [World.drewN_drewN])⟩
          case measure => first | (simp [intOf]; done) | (simp [intOf]; omega)
        · skip
          obtain rfl : j = a.size := by omega
          have hfe : (F a.size == ba * bb) = true := by rw [beq_iff_eq]; exact HALL2.out
          generalize F a.size = S at *
          go_wp2_with fail
          refine (C4.out _).mono ?_
          rintro e w8 ⟨rfl, rfl⟩
          go_wp2_with fail
          refine (C5.out _).mono ?_
          rintro e w9 ⟨rfl, rfl⟩
          go_wp2
          go_ret
          exact ⟨rfl, below_drewN HW.out n⟩
  · have d0 : decide ((1048576 : Int) < (len0 : Int)) = true := by simp; omega
    go_enter Try.func5, Try.ntmps5
    go_wp2
    go_ret
    exact ⟨rfl, Below.refl _ _⟩
end Go.Proofs.Ytibnlaphkmnhfaa
