/- Contracts of the functions that draw the arguments of RegisterFrom and of ShortestRegister. -/
import Derived.Test.YtgmagocpacpafaaWDrawS
import Derived.Test.YtgmagocpacpafaaWDrawT
import Derived.Test.YtgmagocpacpafaaWDrawC
namespace Go.Proofs.Ytgmagocpacpafaa
open Go.RowKit SS
set_option maxRecDepth 100000
set_option maxHeartbeats 2000000 in
theorem drawShortest (A : Option Addr) (len cap : Nat) (w : World) (h : CodeB w w.heap.size A len) (hl : len ≤ cap) (hm : len ≤ maxLen) :
    Calls Try.prog 41 #[.slice A len cap] w (SomeT w) := by
  have C := Lib.hid (open_any A len cap w.heap.size w h (Nat.le_refl _) hl hm)
  clear h hl hm
  go_enter Try.func41, Try.ntmps41
  go_wp2_with fail
  refine C.out.mono ?_
  rintro e w1 ⟨rfl, hr, hb⟩
  have HD := Lib.hid (Dr.start hr)
  have HB := Lib.hid hb
  clear hr hb C
  go_wp2_with fail
  refine (some_any _ _ _ _ HD.out.1 (by omega)).mono ?_
  rintro e w2 ⟨s, t, x, rfl, hv, hd⟩
  have HD2 := Lib.hid (HD.out.draw hd.1 hd.2.1)
  have HV := Lib.hid hv
  clear hd HD hv
  go_wp2_with fail
  refine (pick_any 20 _ _ _ _ HD2.out.1 (by omega)).mono ?_
  rintro e w3 ⟨n, rfl, hn0, hn1, hr, hk⟩
  have HD3 := Lib.hid (HD2.out.draw hr hk)
  have hn2 := hn1 (by omega)
  obtain ⟨k, rfl⟩ := Int.eq_ofNat_of_zero_le hn0
  clear hr hk HD2 hn0 hn1
  have C1 := Lib.hid fun w => l1run s t x (8 + k) w HV.out (by omega)
  rw [show ((8 + k : Nat) : Int) = 8 + (k : Int) by omega] at C1
  go_wp2_with fail
  refine (C1.out _).mono ?_
  rintro e w4 ⟨rfl, hb4⟩
  have HD4 := Lib.hid (HD3.out.call hb4)
  obtain ⟨q, hq⟩ : ∃ q : ByteArray, q = ⟨(run s t (8 + k) x).toArray⟩ := ⟨_, rfl⟩
  have hq1 : q.size = 8 + k := by rw [hq, ← size_list]; simp [run_length]
  have hq2 : 8 ≤ q.size := by omega
  have hq3 : q.size ≤ 28 := by omega
  rw [← hq]
  clear hb4 HD3 C1 hq hq1 HV
  go_wp2_with fail
  refine (pick_any 8 _ _ _ _ HD4.out.1 (by omega)).mono ?_
  rintro e w5 ⟨v, rfl, _, _, hr, hk⟩
  have HD5 := Lib.hid (HD4.out.draw hr hk)
  have hR := hr.lt.1
  clear hr hk HD4
  by_cases h0 : v = 0
  · subst h0
    go_wp2_with fail
    refine (string_any 20 _ _ _ _ HD5.out.1 (by omega) (by omega)).mono ?_
    rintro e w6 ⟨p, rfl, _, hp, hd⟩
    have HD6 := Lib.hid (HD5.out.draw hd.1 hd.2.1)
    clear hd HD5
    go_wp2
    go_ret
    exact ⟨p, rfl, by omega, HD6.out.shut HB.out⟩
  · have d0 : (v == 0) = false := by rw [beq_eq_false_iff_ne]; exact h0
    by_cases h1 : v = 1
    · subst h1
      go_wp2_with fail
      refine (pick_any q.size _ _ _ _ HD5.out.1 (by omega)).mono ?_
      rintro e w6 ⟨b, rfl, hb0, hb1, hr, hk⟩
      have HD6 := Lib.hid (HD5.out.draw hr hk)
      have hb2 := hb1 (by omega)
      obtain ⟨j, rfl⟩ := Int.eq_ofNat_of_zero_le hb0
      clear hr hk HD5 hb0 hb1
      have hj : j < q.size := by omega
      obtain ⟨x1, x2, x3, x4⟩ := cut_one q j hj (by omega)
      have HX := Lib.hid x4
      clear x4
      have g1 : ¬ 9223372036854775807 < (q.extract 0 j).size + (⟨#[49]⟩ : ByteArray).size := no_over x1 (show (⟨#[49]⟩ : ByteArray).size ≤ 1 by decide) (by omega)
      have g2 : ¬ 9223372036854775807 < (q.extract 0 j ++ (⟨#[49]⟩ : ByteArray)).size + (q.extract (j + 1) q.size).size := no_over x2 x3 (by omega)
      have hj1 : IntKind.i64.wrap ((j : Int) + 1) = ((j + 1 : Nat) : Int) := by rw [IntKind.wrap_i64]; omega
      clear x1 x2 x3 hb2
      go_wp2_with fail
      go_quiet (fail)
      go_wp2
      go_ret
      exact ⟨_, rfl, by have := HX.out; omega, (HD6.out.drewN _).shut HB.out⟩
    · have d1 : (v == 1) = false := by rw [beq_eq_false_iff_ne]; exact h1
      by_cases h2 : v = 2
      · subst h2
        have g := Lib.hid (BI.lit w5 3 [44, 60])
        have HD6 := Lib.hid (HD5.out.alloc (.cells #[.int .i64 44, .int .i64 60] 3))
        go_wp2_with fail
        refine (num_any [44, 60] w5.heap.size 2 _ _ _ _ HD6.out.1 (by omega) g.out (by omega) (by decide) (by decide)).mono ?_
        rintro e w6 ⟨z, rfl, hz, hr, hk⟩
        have HD7 := Lib.hid (HD6.out.draw hr hk)
        have hz0 := mem_2 (p := fun x => 0 ≤ x ∧ x ≤ 60) hz (by omega) (by omega)
        obtain ⟨n, rfl⟩ := Int.eq_ofNat_of_zero_le hz0.1
        have hn : n ≤ 60 := by omega
        clear hr hk hz hz0
        have C := Lib.hid fun w => many_spec ⟨#[48]⟩ n w (by decide) (by omega)
        have HS : Hid ((repS n ⟨#[48]⟩).size ≤ 60) := by
          show _ ≤ _
          rw [repS_size, show (⟨#[48]⟩ : ByteArray).size = 1 from rfl]
          omega
        have g1 : ¬ 9223372036854775807 < q.size + (repS n ⟨#[48]⟩).size := no_over hq3 HS.out (by omega)
        have HQS := Lib.hid (ByteArray.size_append (a := q) (b := repS n ⟨#[48]⟩))
        go_wp2_with fail
        refine (C.out _).mono ?_
        rintro e w' ⟨rfl, rfl⟩
        go_wp2
        go_ret
        exact ⟨_, rfl, by rw [HQS.out]; have := HS.out; omega, HD7.out.shut HB.out⟩
      · have d2 : (v == 2) = false := by rw [beq_eq_false_iff_ne]; exact h2
        go_wp2
        go_ret
        exact ⟨_, rfl, by omega, HD5.out.shut HB.out⟩
end Go.Proofs.Ytgmagocpacpafaa
