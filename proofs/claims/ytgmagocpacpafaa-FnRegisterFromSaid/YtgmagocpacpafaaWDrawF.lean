/- Contracts of the function that draws the arguments of RegisterFrom. -/
import Derived.Test.YtgmagocpacpafaaWDrawC
namespace Go.Proofs.Ytgmagocpacpafaa
open Go.RowKit SS
set_option maxRecDepth 100000
/-- a size, taps and a string come back -/
def SomeIIT (w : World) (e : Ending) (w' : World) : Prop := ∃ (s t : Int) (q : ByteArray), e = .returned (.tuple #[.int .i64 s, .int .i64 t, .string q]) ∧ q.size ≤ 1000 ∧ Below w.heap.size w w'
theorem l8_ok : 0 < ([⟨#[]⟩, ⟨#[]⟩, ⟨#[]⟩, ⟨#[]⟩, ⟨#[]⟩, ⟨#[]⟩, ⟨#[]⟩, ⟨#[50]⟩] : List ByteArray).length ∧ ([⟨#[]⟩, ⟨#[]⟩, ⟨#[]⟩, ⟨#[]⟩, ⟨#[]⟩, ⟨#[]⟩, ⟨#[]⟩, ⟨#[50]⟩] : List ByteArray).length ≤ 1000 ∧ ∀ y ∈ ([⟨#[]⟩, ⟨#[]⟩, ⟨#[]⟩, ⟨#[]⟩, ⟨#[]⟩, ⟨#[]⟩, ⟨#[]⟩, ⟨#[50]⟩] : List ByteArray), y.size ≤ 1 := ⟨by decide, by decide, by decide⟩
set_option maxHeartbeats 4000000 in
theorem drawFrom (A : Option Addr) (len cap : Nat) (w : World) (h : CodeB w w.heap.size A len) (hl : len ≤ cap) (hm : len ≤ maxLen) :
    Calls Try.prog 23 #[.slice A len cap] w (SomeIIT w) := by
  have C := Lib.hid (open_any A len cap w.heap.size w h (Nat.le_refl _) hl hm)
  clear h hl hm
  go_enter Try.func23, Try.ntmps23
  go_wp2_with fail
  refine C.out.mono ?_
  rintro e w1 ⟨rfl, hr, hb⟩
  have HD := Lib.hid (Dr.start hr)
  have HB := Lib.hid hb
  clear hr hb C
  go_wp2_with fail
  refine (l1open_any _ _ _ _ HD.out.1 (by omega)).mono ?_
  rintro e w2 ⟨s, t, x, rfl, hd⟩
  have HD2 := Lib.hid ((HD.out.draw hd.1 hd.2.1).alloc (.cells #[.int .i64 s, .int .i64 t, .int .i64 x] 24))
  have HX2 := Lib.hid (B3.new w2 24 (.int .i64 s) (.int .i64 t) (.int .i64 x))
  have hR2 := hd.1.lt.1
  clear hd HD
  go_wp2_with fail
  refine (string_any 8 _ _ _ _ HD2.out.1 (by omega) (by omega)).mono ?_
  rintro e w3 ⟨q, rfl, -, hq, hd⟩
  have HD3 := Lib.hid (HD2.out.draw hd.1 hd.2.1)
  have HX3 := Lib.hid (HX2.out.kp hd.2.1 (by omega))
  clear hd HD2 HX2
  obtain ⟨c0, c1, c2, f0, f1, f2, hz⟩ := HX3.out.facts
  go_wp2_with fail
  go_loop [7] (fun b => ∃ q : ByteArray, q.size ≤ 8 ∧ b = .string q) (fun b => 8 - strLen b)
  case atStart => exact ⟨q, hq, rfl⟩
  case round =>
    obtain ⟨p, hp, rfl⟩ := hrel
    have g1 : ¬ 9223372036854775807 < p.size + (⟨#[49]⟩ : ByteArray).size := no_over hp (show (⟨#[49]⟩ : ByteArray).size ≤ 1 by decide) (by omega)
    have hqs : (p ++ (⟨#[49]⟩ : ByteArray)).size = p.size + 1 := by rw [ByteArray.size_append]; rfl
    have HQS := Lib.hid hqs
    clear hqs
    by_cases hc : (p.size : Int) < s ∧ p.size < 8
    · have d1 : decide ((p.size : Int) < s) = true := by simp; omega
      have d2 : decide ((p.size : Int) < 8) = true := by simp; omega
      go_wp2_with fail
      go_round
      case rel => exact ⟨_, by rw [HQS.out]; omega, rfl⟩
      case measure => simp only [strLen]; rw [HQS.out]; omega
    · have HC := Lib.hid hc
      clear hc g1 HQS
      by_cases hc1 : (p.size : Int) < s
      · have d1 : decide ((p.size : Int) < s) = true := decide_eq_true hc1
        have d2 : decide ((p.size : Int) < 8) = false := by simp; have := HC.out; omega
        clear HC
        go_wp2_with fail
        refine (pick_any 6 _ _ _ _ HD3.out.1 (by omega)).mono ?_
        rintro e w4 ⟨v, rfl, hv0, _, hr, hk⟩
        have HD4 := Lib.hid (HD3.out.draw hr hk)
        have HX4 := Lib.hid (HX3.out.kp hk (by omega))
        have hR4 := hr.lt.1
        have hk4 := hk.size
        clear hr hk HD3 HX3 c0 c1 c2 f0 f1 f2
        obtain ⟨c0, c1, c2, f0, f1, f2, hz4⟩ := HX4.out.facts
        by_cases hv : 0 < v
        · have dv : decide (0 < v) = true := decide_eq_true hv
          by_cases hs : 0 ≤ s ∧ s ≤ p.size
          · exact absurd hs.2 (by omega)
          · have C := Lib.hid fun w => in_of s 0 p.size false (decide_eq_false hs) w
            clear hs
            go_wp2_with fail
            refine (C.out _).mono ?_
            rintro e w5 ⟨rfl, rfl⟩
            have g := Lib.hid (BT.lit w4.drew 9 [⟨#[]⟩, ⟨#[]⟩, ⟨#[]⟩, ⟨#[]⟩, ⟨#[]⟩, ⟨#[]⟩, ⟨#[]⟩, ⟨#[50]⟩])
            have HD5 := Lib.hid ((HD4.out.drewN 1).alloc (.cells #[.string ⟨#[]⟩, .string ⟨#[]⟩, .string ⟨#[]⟩, .string ⟨#[]⟩, .string ⟨#[]⟩, .string ⟨#[]⟩, .string ⟨#[]⟩, .string ⟨#[50]⟩] 9))
            have HL8 := Lib.hid l8_ok
            have hgR : w4.heap.size ≠ w.heap.size := by omega
            go_wp2_with fail
            go_region_held3 (fun w' => w'.cell? ⟨w2.heap.size, 0, none⟩ = some (.int .i64 s) ∧ w'.cell? ⟨w2.heap.size, 1, none⟩ = some (.int .i64 t) ∧ w'.cell? ⟨w2.heap.size, 2, none⟩ = some (.int .i64 x)) (go_keep) ((go_at_call 74; (refine (of_any [⟨#[]⟩, ⟨#[]⟩, ⟨#[]⟩, ⟨#[]⟩, ⟨#[]⟩, ⟨#[]⟩, ⟨#[]⟩, ⟨#[50]⟩] 1 w4.heap.size 8 _ _ _ _ HD5.out.1 (by omega) g.out hgR HL8.out.1 HL8.out.2.1 HL8.out.2.2).mono ?_); rintro e w5 ⟨r5, rfl, _, hr5, hd⟩; have HX5 := ((HX4.out.drewN 1).alloc (.cells #[.string ⟨#[]⟩, .string ⟨#[]⟩, .string ⟨#[]⟩, .string ⟨#[]⟩, .string ⟨#[]⟩, .string ⟨#[]⟩, .string ⟨#[]⟩, .string ⟨#[50]⟩] 9)).kp hd.2.1 (by omega); have HD6 := Lib.hid (HD5.out.draw hd.1 hd.2.1); obtain ⟨q3, q4, q5, _, _, _, _⟩ := HX5.facts; have g2 : ¬ 9223372036854775807 < p.size + r5.size := no_over hp hr5 (by omega)))
            all_goals
              go_wp2_with fail
              go_ret3
              exact ⟨_, t, _, rfl, by rw [ByteArray.size_append]; omega, HB.out.trans (HD6.out.below (Nat.le_refl _))⟩
        · have dv : decide (0 < v) = false := decide_eq_false hv
          have g := Lib.hid (BT.lit w4.drew 9 [⟨#[]⟩, ⟨#[]⟩, ⟨#[]⟩, ⟨#[]⟩, ⟨#[]⟩, ⟨#[]⟩, ⟨#[]⟩, ⟨#[50]⟩])
          have HD5 := Lib.hid ((HD4.out.drewN 1).alloc (.cells #[.string ⟨#[]⟩, .string ⟨#[]⟩, .string ⟨#[]⟩, .string ⟨#[]⟩, .string ⟨#[]⟩, .string ⟨#[]⟩, .string ⟨#[]⟩, .string ⟨#[50]⟩] 9))
          have HL8 := Lib.hid l8_ok
          have hgR : w4.heap.size ≠ w.heap.size := by omega
          go_wp2_with fail
          go_region_held3 (fun w' => w'.cell? ⟨w2.heap.size, 0, none⟩ = some (.int .i64 s) ∧ w'.cell? ⟨w2.heap.size, 1, none⟩ = some (.int .i64 t) ∧ w'.cell? ⟨w2.heap.size, 2, none⟩ = some (.int .i64 x)) (go_keep) ((go_at_call 74; (refine (of_any [⟨#[]⟩, ⟨#[]⟩, ⟨#[]⟩, ⟨#[]⟩, ⟨#[]⟩, ⟨#[]⟩, ⟨#[]⟩, ⟨#[50]⟩] 1 w4.heap.size 8 _ _ _ _ HD5.out.1 (by omega) g.out hgR HL8.out.1 HL8.out.2.1 HL8.out.2.2).mono ?_); rintro e w5 ⟨r5, rfl, _, hr5, hd⟩; have HX5 := ((HX4.out.drewN 1).alloc (.cells #[.string ⟨#[]⟩, .string ⟨#[]⟩, .string ⟨#[]⟩, .string ⟨#[]⟩, .string ⟨#[]⟩, .string ⟨#[]⟩, .string ⟨#[]⟩, .string ⟨#[50]⟩] 9)).kp hd.2.1 (by omega); have HD6 := Lib.hid (HD5.out.draw hd.1 hd.2.1); obtain ⟨q3, q4, q5, _, _, _, _⟩ := HX5.facts; have g2 : ¬ 9223372036854775807 < p.size + r5.size := no_over hp hr5 (by omega)))
          all_goals
            go_wp2_with fail
            go_ret3
            exact ⟨_, t, _, rfl, by rw [ByteArray.size_append]; omega, HB.out.trans (HD6.out.below (Nat.le_refl _))⟩
      · have d1 : decide ((p.size : Int) < s) = false := decide_eq_false hc1
        clear HC
        go_wp2_with fail
        refine (pick_any 6 _ _ _ _ HD3.out.1 (by omega)).mono ?_
        rintro e w4 ⟨v, rfl, hv0, _, hr, hk⟩
        have HD4 := Lib.hid (HD3.out.draw hr hk)
        have HX4 := Lib.hid (HX3.out.kp hk (by omega))
        have hR4 := hr.lt.1
        have hk4 := hk.size
        clear hr hk HD3 HX3 c0 c1 c2 f0 f1 f2
        obtain ⟨c0, c1, c2, f0, f1, f2, hz4⟩ := HX4.out.facts
        by_cases hv : 0 < v
        · have dv : decide (0 < v) = true := decide_eq_true hv
          by_cases hs : 0 ≤ s ∧ s ≤ p.size
          · have C := Lib.hid fun w => in_of s 0 p.size true (decide_eq_true hs) w
            have hs0 := hs.1
            have hs1 := hs.2
            clear hs
            obtain ⟨n, rfl⟩ := Int.eq_ofNat_of_zero_le hs0
            have hsl : n ≤ p.size := by omega
            have hex : (p.extract 0 n).size ≤ 8 := by rw [ByteArray.size_extract]; omega
            clear hs0 hs1
            go_wp2_with fail
            refine (C.out _).mono ?_
            rintro e w5 ⟨rfl, rfl⟩
            have g := Lib.hid (BT.lit w4.drew 9 [⟨#[]⟩, ⟨#[]⟩, ⟨#[]⟩, ⟨#[]⟩, ⟨#[]⟩, ⟨#[]⟩, ⟨#[]⟩, ⟨#[50]⟩])
            have HD5 := Lib.hid ((HD4.out.drewN 1).alloc (.cells #[.string ⟨#[]⟩, .string ⟨#[]⟩, .string ⟨#[]⟩, .string ⟨#[]⟩, .string ⟨#[]⟩, .string ⟨#[]⟩, .string ⟨#[]⟩, .string ⟨#[50]⟩] 9))
            have HL8 := Lib.hid l8_ok
            have hgR : w4.heap.size ≠ w.heap.size := by omega
            go_wp2_with fail
            generalize p.extract 0 n = p5 at hex ⊢
            go_region_held3 (fun w' => w'.cell? ⟨w2.heap.size, 0, none⟩ = some (.int .i64 (n : Int)) ∧ w'.cell? ⟨w2.heap.size, 1, none⟩ = some (.int .i64 t) ∧ w'.cell? ⟨w2.heap.size, 2, none⟩ = some (.int .i64 x)) (go_keep) ((go_at_call 74; (refine (of_any [⟨#[]⟩, ⟨#[]⟩, ⟨#[]⟩, ⟨#[]⟩, ⟨#[]⟩, ⟨#[]⟩, ⟨#[]⟩, ⟨#[50]⟩] 1 w4.heap.size 8 _ _ _ _ HD5.out.1 (by omega) g.out hgR HL8.out.1 HL8.out.2.1 HL8.out.2.2).mono ?_); rintro e w5 ⟨r5, rfl, _, hr5, hd⟩; have HX5 := ((HX4.out.drewN 1).alloc (.cells #[.string ⟨#[]⟩, .string ⟨#[]⟩, .string ⟨#[]⟩, .string ⟨#[]⟩, .string ⟨#[]⟩, .string ⟨#[]⟩, .string ⟨#[]⟩, .string ⟨#[50]⟩] 9)).kp hd.2.1 (by omega); have HD6 := Lib.hid (HD5.out.draw hd.1 hd.2.1); obtain ⟨q3, q4, q5, _, _, _, _⟩ := HX5.facts; have g2 : ¬ 9223372036854775807 < p5.size + r5.size := no_over hex hr5 (by omega)))
            all_goals
              go_wp2_with fail
              go_ret3
              exact ⟨_, t, _, rfl, by rw [ByteArray.size_append]; omega, HB.out.trans (HD6.out.below (Nat.le_refl _))⟩
          · have C := Lib.hid fun w => in_of s 0 p.size false (decide_eq_false hs) w
            clear hs
            go_wp2_with fail
            refine (C.out _).mono ?_
            rintro e w5 ⟨rfl, rfl⟩
            have g := Lib.hid (BT.lit w4.drew 9 [⟨#[]⟩, ⟨#[]⟩, ⟨#[]⟩, ⟨#[]⟩, ⟨#[]⟩, ⟨#[]⟩, ⟨#[]⟩, ⟨#[50]⟩])
            have HD5 := Lib.hid ((HD4.out.drewN 1).alloc (.cells #[.string ⟨#[]⟩, .string ⟨#[]⟩, .string ⟨#[]⟩, .string ⟨#[]⟩, .string ⟨#[]⟩, .string ⟨#[]⟩, .string ⟨#[]⟩, .string ⟨#[50]⟩] 9))
            have HL8 := Lib.hid l8_ok
            have hgR : w4.heap.size ≠ w.heap.size := by omega
            go_wp2_with fail
            go_region_held3 (fun w' => w'.cell? ⟨w2.heap.size, 0, none⟩ = some (.int .i64 s) ∧ w'.cell? ⟨w2.heap.size, 1, none⟩ = some (.int .i64 t) ∧ w'.cell? ⟨w2.heap.size, 2, none⟩ = some (.int .i64 x)) (go_keep) ((go_at_call 74; (refine (of_any [⟨#[]⟩, ⟨#[]⟩, ⟨#[]⟩, ⟨#[]⟩, ⟨#[]⟩, ⟨#[]⟩, ⟨#[]⟩, ⟨#[50]⟩] 1 w4.heap.size 8 _ _ _ _ HD5.out.1 (by omega) g.out hgR HL8.out.1 HL8.out.2.1 HL8.out.2.2).mono ?_); rintro e w5 ⟨r5, rfl, _, hr5, hd⟩; have HX5 := ((HX4.out.drewN 1).alloc (.cells #[.string ⟨#[]⟩, .string ⟨#[]⟩, .string ⟨#[]⟩, .string ⟨#[]⟩, .string ⟨#[]⟩, .string ⟨#[]⟩, .string ⟨#[]⟩, .string ⟨#[50]⟩] 9)).kp hd.2.1 (by omega); have HD6 := Lib.hid (HD5.out.draw hd.1 hd.2.1); obtain ⟨q3, q4, q5, _, _, _, _⟩ := HX5.facts; have g2 : ¬ 9223372036854775807 < p.size + r5.size := no_over hp hr5 (by omega)))
            all_goals
              go_wp2_with fail
              go_ret3
              exact ⟨_, t, _, rfl, by rw [ByteArray.size_append]; omega, HB.out.trans (HD6.out.below (Nat.le_refl _))⟩
        · have dv : decide (0 < v) = false := decide_eq_false hv
          have g := Lib.hid (BT.lit w4.drew 9 [⟨#[]⟩, ⟨#[]⟩, ⟨#[]⟩, ⟨#[]⟩, ⟨#[]⟩, ⟨#[]⟩, ⟨#[]⟩, ⟨#[50]⟩])
          have HD5 := Lib.hid ((HD4.out.drewN 1).alloc (.cells #[.string ⟨#[]⟩, .string ⟨#[]⟩, .string ⟨#[]⟩, .string ⟨#[]⟩, .string ⟨#[]⟩, .string ⟨#[]⟩, .string ⟨#[]⟩, .string ⟨#[50]⟩] 9))
          have HL8 := Lib.hid l8_ok
          have hgR : w4.heap.size ≠ w.heap.size := by omega
          go_wp2_with fail
          go_region_held3 (fun w' => w'.cell? ⟨w2.heap.size, 0, none⟩ = some (.int .i64 s) ∧ w'.cell? ⟨w2.heap.size, 1, none⟩ = some (.int .i64 t) ∧ w'.cell? ⟨w2.heap.size, 2, none⟩ = some (.int .i64 x)) (go_keep) ((go_at_call 74; (refine (of_any [⟨#[]⟩, ⟨#[]⟩, ⟨#[]⟩, ⟨#[]⟩, ⟨#[]⟩, ⟨#[]⟩, ⟨#[]⟩, ⟨#[50]⟩] 1 w4.heap.size 8 _ _ _ _ HD5.out.1 (by omega) g.out hgR HL8.out.1 HL8.out.2.1 HL8.out.2.2).mono ?_); rintro e w5 ⟨r5, rfl, _, hr5, hd⟩; have HX5 := ((HX4.out.drewN 1).alloc (.cells #[.string ⟨#[]⟩, .string ⟨#[]⟩, .string ⟨#[]⟩, .string ⟨#[]⟩, .string ⟨#[]⟩, .string ⟨#[]⟩, .string ⟨#[]⟩, .string ⟨#[50]⟩] 9)).kp hd.2.1 (by omega); have HD6 := Lib.hid (HD5.out.draw hd.1 hd.2.1); obtain ⟨q3, q4, q5, _, _, _, _⟩ := HX5.facts; have g2 : ¬ 9223372036854775807 < p.size + r5.size := no_over hp hr5 (by omega)))
          all_goals
            go_wp2_with fail
            go_ret3
            exact ⟨_, t, _, rfl, by rw [ByteArray.size_append]; omega, HB.out.trans (HD6.out.below (Nat.le_refl _))⟩
end Go.Proofs.Ytgmagocpacpafaa
