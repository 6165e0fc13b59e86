/- Contracts of the functions that draw two sequences. -/
import Derived.Test.YtibnlaphkmnhfaaWDrawT
import Derived.Test.YtibnlaphkmnhfaaWDrawC
namespace Go.Proofs.Ytibnlaphkmnhfaa
open Go.RowKit SS
set_option maxRecDepth 100000
set_option maxHeartbeats 1000000 in
theorem dec_bit (b : Int) (w : World) (h0 : 0 ≤ b) (h1 : b < 2) :
    Calls Try.prog 99 #[.int .i64 b] w fun e w' => (∃ q : ByteArray, q.size = 1 ∧ e = .returned (.string q)) ∧ Below w.heap.size w w' := by
  have HE : Hid (∃ c : UInt8, ((c.toNat : Nat) : Int) = 48 + b) := by
    rcases (show b = 0 ∨ b = 1 by omega) with rfl | rfl
    · exact ⟨48, rfl⟩
    · exact ⟨49, rfl⟩
  obtain ⟨c, hc⟩ := HE.out
  have r1 : BB (w.alloc (.cells #[.int .u8 (48 + b)] 5)) w.heap.size 5 [c] := by
    have := heap_alloc_new w (.cells #[.int .u8 (48 + b)] 5)
    unfold BB bv
    rw [this, ← hc]
    rfl
  have hcv := r1.conv (P := Try.prog) 22 9 1 1 Try.underlying22 Try.underlying5 Try.underlying9 rfl
  obtain ⟨q, hq⟩ : ∃ q : ByteArray, q = ⟨[c].toArray⟩ := ⟨_, rfl⟩
  rw [← hq] at hcv
  have hz1 : q.size = 1 := by rw [hq]; rfl
  have hz0 : (⟨#[]⟩ : ByteArray).size = 0 := rfl
  have hz : (q ++ (⟨#[]⟩ : ByteArray)).size = 1 := by rw [ByteArray.size_append, hz1, hz0]
  have g1 : ¬ 9223372036854775807 < q.size + (⟨#[]⟩ : ByteArray).size := by rw [hz1, hz0]; decide
  have d1 : decide (b < -9223372036854775807) = false := by simp; omega
  have d2 : decide (b < 0) = false := by simp; omega
  have d3 : decide (9 < b) = false := by simp; omega
  have hw := (Below.refl w.heap.size w).alloc (Nat.le_refl _) (.cells #[.int .u8 (48 + b)] 5)
  have HW := Lib.hid hw
  have HZ := Lib.hid hz
  clear r1 HE hc hz hw hq hz1 hz0
  go_enter Try.func99, Try.ntmps99
  go_wp2_with fail
  go_loop [0, 3] (fun n x => n = .int .i64 b ∧ x = .string ⟨#[]⟩) (fun _ _ => 0)
  case atStart => exact ⟨rfl, rfl⟩
  case round =>
    obtain ⟨rfl, rfl⟩ := hrel
    go_wp2
    go_ret
    exact ⟨⟨_, HZ.out, rfl⟩, HW.out⟩
set_option maxHeartbeats 4000000 in
theorem l2two_any (R B N : Nat) (w : World) (h : Rd w R B N) (hN : N ≤ 300000) :
    Calls Try.prog 60 #[.pointer (some ⟨R, 0, none⟩)] w (SomeDD R B (N + 200) w) := by
  have HD := Lib.hid (Dr.start h)
  clear h
  go_enter Try.func60, Try.ntmps60
  go_wp2_with fail
  refine (l2some_any _ _ _ _ HD.out.1 (by omega)).mono ?_
  rintro e w1 ⟨a, rfl, ha1, ha2, hd⟩
  have HD1 := Lib.hid (HD.out.draw hd.1 hd.2.1)
  clear hd HD
  go_wp2_with fail
  refine (pick_any 20 _ _ _ _ HD1.out.1 (by omega)).mono ?_
  rintro e w2 ⟨n, rfl, _, _, hr, hk⟩
  have HD2 := Lib.hid (HD1.out.draw hr hk)
  clear hr hk HD1
  have CS := Lib.hid fun w => shift_spec a n w (by omega) (by omega)
  have hbz := rotS_size (md n a.size) a (Nat.le_of_lt (md_lt n a.size ha1))
  change Hid (∀ w, Calls Try.prog 76 #[.string a, .int .i64 n] w fun e w' => e = .returned (.string (rotS (md n a.size) a)) ∧ ∃ n, w' = w.drewN n) at CS
  generalize rotS (md n a.size) a = b at CS hbz
  have hb1 : 1 ≤ b.size := by omega
  have hb2 : b.size ≤ 40 := by omega
  clear hbz
  go_wp2_with fail
  refine (CS.out _).mono ?_
  rintro e w3 ⟨rfl, n3, rfl⟩
  have HD3 := Lib.hid (HD2.out.drewN n3)
  clear CS HD2
  go_wp2_with fail
  refine (pick_any 4 _ _ _ _ HD3.out.1 (by omega)).mono ?_
  rintro e w4 ⟨v, rfl, _, _, hr, hk⟩
  have HD4 := Lib.hid (HD3.out.draw hr hk)
  clear hr hk HD3
  by_cases h0 : v = 0
  · subst h0
    go_wp2_with fail
    refine (pick_any b.size _ _ _ _ HD4.out.1 (by omega)).mono ?_
    rintro e w5 ⟨k, rfl, hk0, hk1, hr, hk⟩
    have HD5 := Lib.hid (HD4.out.draw hr hk)
    have hk2 := hk1 (by omega)
    obtain ⟨j, rfl⟩ := Int.eq_ofNat_of_zero_le hk0
    clear hr hk HD4 hk0 hk1
    have hj : j < b.size := by omega
    obtain ⟨x1, x2, x3, x4⟩ := cut_one b j hj (by omega)
    have HX := Lib.hid x4
    clear x4
    have g1 : ¬ 9223372036854775807 < (b.extract 0 j).size + (⟨#[49]⟩ : ByteArray).size := no_over x1 (show (⟨#[49]⟩ : ByteArray).size ≤ 1 by decide) (by omega)
    have g2 : ¬ 9223372036854775807 < (b.extract 0 j ++ (⟨#[49]⟩ : ByteArray)).size + (b.extract (j + 1) b.size).size := no_over x2 x3 (by omega)
    have hj1 : IntKind.i64.wrap ((j : Int) + 1) = ((j + 1 : Nat) : Int) := by rw [IntKind.wrap_i64]; omega
    clear x1 x2 x3 hk2
    go_wp2_with fail
    go_quiet (fail)
    skip
    generalize hb5 : b.extract 0 j ++ (⟨#[49]⟩ : ByteArray) ++ b.extract (j + 1) b.size = b5 at HX ⊢
    clear hb5
    have hb52 : b5.size ≤ 40 := by have := HX.out; omega
    clear hj1 g1 g2
    go_wp2_with fail
    refine (pick_any 16 _ _ _ _ (HD5.out.drewN _).1 (by omega)).mono ?_
    rintro e w8 ⟨v8, rfl, _, _, hr, hk⟩
    have HD8 := Lib.hid ((HD5.out.drewN _).draw hr hk)
    clear hr hk HD5
    by_cases h16 : v8 = 0
    · subst h16
      go_wp2_with fail
      refine (l2some_any _ _ _ _ HD8.out.1 (by omega)).mono ?_
      rintro e w9 ⟨b9, rfl, _, hb9, hd⟩
      have HD9 := Lib.hid (HD8.out.draw hd.1 hd.2.1)
      clear hd HD8
      go_wp2_with fail
      refine (l2bad_any a _ _ _ _ HD9.out.1 (by omega) (by omega)).mono ?_
      rintro e w10 ⟨a10, rfl, _, ha10, hd⟩
      have HD10 := Lib.hid (HD9.out.draw hd.1 hd.2.1)
      clear hd HD9
      go_wp2_with fail
      refine (l2bad_any b9 _ _ _ _ HD10.out.1 (by omega) (by omega)).mono ?_
      rintro e w11 ⟨b11, rfl, _, hb11, hd⟩
      have HD11 := Lib.hid (HD10.out.draw hd.1 hd.2.1)
      clear hd HD10
      go_wp2
      go_ret2
      exact ⟨a10, b11, rfl, by omega, by omega, HD11.out.mono (by omega)⟩
    · have d16 : (v8 == 0) = false := by rw [beq_eq_false_iff_ne]; exact h16
      go_wp2_with fail
      refine (l2bad_any a _ _ _ _ HD8.out.1 (by omega) (by omega)).mono ?_
      rintro e w10 ⟨a10, rfl, _, ha10, hd⟩
      have HD10 := Lib.hid (HD8.out.draw hd.1 hd.2.1)
      clear hd HD8
      go_wp2_with fail
      refine (l2bad_any b5 _ _ _ _ HD10.out.1 (by omega) (by omega)).mono ?_
      rintro e w11 ⟨b11, rfl, _, hb11, hd⟩
      have HD11 := Lib.hid (HD10.out.draw hd.1 hd.2.1)
      clear hd HD10
      go_wp2
      go_ret2
      exact ⟨a10, b11, rfl, by omega, by omega, HD11.out.mono (by omega)⟩
  · have d0 : (v == 0) = false := by rw [beq_eq_false_iff_ne]; exact h0
    by_cases h1 : v = 1
    · subst h1
      go_wp2_with fail
      go_loopw [5] (fun x wr => ∃ q : ByteArray, q.size ≤ a.size ∧ x = .string q ∧ Dr w R B (N + 40 + q.size) wr) (fun x _ => a.size - strLen x)
      case atStart => exact ⟨⟨#[]⟩, Nat.zero_le _, rfl, HD4.out.mono (by omega)⟩
      case round =>
        clear HD4
        obtain ⟨q, hq, rfl, hd⟩ := hrel
        have HD5 := Lib.hid hd
        clear hd
        by_cases hlt : q.size < a.size
        · have dl : decide (q.size < a.size) = true := by simp; omega
          go_wp2_with fail
          refine (pick_any 2 _ _ _ _ HD5.out.1 (by omega)).mono ?_
          rintro e w6 ⟨u, rfl, hu0, hu1, hr, hk⟩
          have HD6 := Lib.hid (HD5.out.draw hr hk)
          have hu2 := hu1 (by omega)
          clear hr hk HD5 hu1
          go_wp2_with fail
          refine (dec_bit u _ hu0 hu2).mono ?_
          rintro e w7 ⟨⟨c, hc, rfl⟩, hb7⟩
          have HD7 := Lib.hid (HD6.out.call hb7)
          clear hb7 HD6
          have hqs : (q ++ c).size = q.size + 1 := by rw [ByteArray.size_append, hc]
          have HQS := Lib.hid hqs
          have hc1 : c.size ≤ 1 := by omega
          have g1 : ¬ 9223372036854775807 < q.size + c.size := by omega
          clear hqs hc
          go_wp2
          go_roundw
          case rel => exact ⟨q ++ c, by rw [HQS.out]; omega, rfl, HD7.out.mono (by rw [HQS.out]; omega)⟩
          case measure => simp only [strLen]; rw [HQS.out]; omega
        · have dl : decide (q.size < a.size) = false := by simp; omega
          have hq2 : q.size ≤ 40 := by omega
          go_wp2_with fail
          refine (pick_any 16 _ _ _ _ HD5.out.1 (by omega)).mono ?_
          rintro e w8 ⟨v8, rfl, _, _, hr, hk⟩
          have HD8 := Lib.hid (HD5.out.draw hr hk)
          clear hr hk HD5
          by_cases h16 : v8 = 0
          · subst h16
            go_wp2_with fail
            refine (l2some_any _ _ _ _ HD8.out.1 (by omega)).mono ?_
            rintro e w9 ⟨b9, rfl, _, hb9, hd⟩
            have HD9 := Lib.hid (HD8.out.draw hd.1 hd.2.1)
            clear hd HD8
            go_wp2_with fail
            refine (l2bad_any a _ _ _ _ HD9.out.1 (by omega) (by omega)).mono ?_
            rintro e w10 ⟨a10, rfl, _, ha10, hd⟩
            have HD10 := Lib.hid (HD9.out.draw hd.1 hd.2.1)
            clear hd HD9
            go_wp2_with fail
            refine (l2bad_any b9 _ _ _ _ HD10.out.1 (by omega) (by omega)).mono ?_
            rintro e w11 ⟨b11, rfl, _, hb11, hd⟩
            have HD11 := Lib.hid (HD10.out.draw hd.1 hd.2.1)
            clear hd HD10
            go_wp2
            go_ret2
            exact ⟨a10, b11, rfl, by omega, by omega, HD11.out.mono (by omega)⟩
          · have d16 : (v8 == 0) = false := by rw [beq_eq_false_iff_ne]; exact h16
            go_wp2_with fail
            refine (l2bad_any a _ _ _ _ HD8.out.1 (by omega) (by omega)).mono ?_
            rintro e w10 ⟨a10, rfl, _, ha10, hd⟩
            have HD10 := Lib.hid (HD8.out.draw hd.1 hd.2.1)
            clear hd HD8
            go_wp2_with fail
            refine (l2bad_any q _ _ _ _ HD10.out.1 (by omega) (by omega)).mono ?_
            rintro e w11 ⟨b11, rfl, _, hb11, hd⟩
            have HD11 := Lib.hid (HD10.out.draw hd.1 hd.2.1)
            clear hd HD10
            go_wp2
            go_ret2
            exact ⟨a10, b11, rfl, by omega, by omega, HD11.out.mono (by omega)⟩
    · have d1 : (v == 1) = false := by rw [beq_eq_false_iff_ne]; exact h1
      go_wp2_with fail
      refine (pick_any 16 _ _ _ _ HD4.out.1 (by omega)).mono ?_
      rintro e w8 ⟨v8, rfl, _, _, hr, hk⟩
      have HD8 := Lib.hid (HD4.out.draw hr hk)
      clear hr hk HD4
      by_cases h16 : v8 = 0
      · subst h16
        go_wp2_with fail
        refine (l2some_any _ _ _ _ HD8.out.1 (by omega)).mono ?_
        rintro e w9 ⟨b9, rfl, _, hb9, hd⟩
        have HD9 := Lib.hid (HD8.out.draw hd.1 hd.2.1)
        clear hd HD8
        go_wp2_with fail
        refine (l2bad_any a _ _ _ _ HD9.out.1 (by omega) (by omega)).mono ?_
        rintro e w10 ⟨a10, rfl, _, ha10, hd⟩
        have HD10 := Lib.hid (HD9.out.draw hd.1 hd.2.1)
        clear hd HD9
        go_wp2_with fail
        refine (l2bad_any b9 _ _ _ _ HD10.out.1 (by omega) (by omega)).mono ?_
        rintro e w11 ⟨b11, rfl, _, hb11, hd⟩
        have HD11 := Lib.hid (HD10.out.draw hd.1 hd.2.1)
        clear hd HD10
        go_wp2
        go_ret2
        exact ⟨a10, b11, rfl, by omega, by omega, HD11.out.mono (by omega)⟩
      · have d16 : (v8 == 0) = false := by rw [beq_eq_false_iff_ne]; exact h16
        go_wp2_with fail
        refine (l2bad_any a _ _ _ _ HD8.out.1 (by omega) (by omega)).mono ?_
        rintro e w10 ⟨a10, rfl, _, ha10, hd⟩
        have HD10 := Lib.hid (HD8.out.draw hd.1 hd.2.1)
        clear hd HD8
        go_wp2_with fail
        refine (l2bad_any b _ _ _ _ HD10.out.1 (by omega) (by omega)).mono ?_
        rintro e w11 ⟨b11, rfl, _, hb11, hd⟩
        have HD11 := Lib.hid (HD10.out.draw hd.1 hd.2.1)
        clear hd HD10
        go_wp2
        go_ret2
        exact ⟨a10, b11, rfl, by omega, by omega, HD11.out.mono (by omega)⟩
theorem drawAddBits (A : Option Addr) (len cap : Nat) (w : World) (h : CodeB w w.heap.size A len) (hl : len ≤ cap) (hm : len ≤ maxLen) :
    Calls Try.prog 15 #[.slice A len cap] w (SomeTT w) := by
  have C := Lib.hid (open_any A len cap w.heap.size w h (Nat.le_refl _) hl hm)
  clear h hl hm
  go_enter Try.func15, Try.ntmps15
  go_wp2_with fail
  refine C.out.mono ?_
  rintro e w1 ⟨rfl, hr, hb⟩
  have HD := Lib.hid (Dr.start hr)
  have HB := Lib.hid hb
  clear hr hb C
  go_wp2_with fail
  refine (l2two_any _ _ _ _ HD.out.1 (by omega)).mono ?_
  rintro e w2 ⟨q, p, rfl, hq, hp, hd⟩
  have HD2 := Lib.hid (HD.out.draw hd.1 hd.2.1)
  clear hd HD
  go_wp2
  go_ret2
  exact ⟨q, p, rfl, hq, hp, HD2.out.shut HB.out⟩
theorem drawCrossTable (A : Option Addr) (len cap : Nat) (w : World) (h : CodeB w w.heap.size A len) (hl : len ≤ cap) (hm : len ≤ maxLen) :
    Calls Try.prog 25 #[.slice A len cap] w (SomeTT w) := by
  have C := Lib.hid (open_any A len cap w.heap.size w h (Nat.le_refl _) hl hm)
  clear h hl hm
  go_enter Try.func25, Try.ntmps25
  go_wp2_with fail
  refine C.out.mono ?_
  rintro e w1 ⟨rfl, hr, hb⟩
  have HD := Lib.hid (Dr.start hr)
  have HB := Lib.hid hb
  clear hr hb C
  go_wp2_with fail
  refine (l2two_any _ _ _ _ HD.out.1 (by omega)).mono ?_
  rintro e w2 ⟨q, p, rfl, hq, hp, hd⟩
  have HD2 := Lib.hid (HD.out.draw hd.1 hd.2.1)
  clear hd HD
  go_wp2
  go_ret2
  exact ⟨q, p, rfl, hq, hp, HD2.out.shut HB.out⟩
theorem drawPeak (A : Option Addr) (len cap : Nat) (w : World) (h : CodeB w w.heap.size A len) (hl : len ≤ cap) (hm : len ≤ maxLen) :
    Calls Try.prog 30 #[.slice A len cap] w (SomeTT w) := by
  have C := Lib.hid (open_any A len cap w.heap.size w h (Nat.le_refl _) hl hm)
  clear h hl hm
  go_enter Try.func30, Try.ntmps30
  go_wp2_with fail
  refine C.out.mono ?_
  rintro e w1 ⟨rfl, hr, hb⟩
  have HD := Lib.hid (Dr.start hr)
  have HB := Lib.hid hb
  clear hr hb C
  go_wp2_with fail
  refine (l2two_any _ _ _ _ HD.out.1 (by omega)).mono ?_
  rintro e w2 ⟨q, p, rfl, hq, hp, hd⟩
  have HD2 := Lib.hid (HD.out.draw hd.1 hd.2.1)
  clear hd HD
  go_wp2
  go_ret2
  exact ⟨q, p, rfl, hq, hp, HD2.out.shut HB.out⟩
/-- two strings and some number come back -/
def SomeTTI (w : World) (e : Ending) (w' : World) : Prop := ∃ (q p : ByteArray) (k : Int), e = .returned (.tuple #[.string q, .string p, .int .i64 k]) ∧ q.size ≤ 1000 ∧ p.size ≤ 1000 ∧ Below w.heap.size w w'
theorem drawCross (A : Option Addr) (len cap : Nat) (w : World) (h : CodeB w w.heap.size A len) (hl : len ≤ cap) (hm : len ≤ maxLen) :
    Calls Try.prog 21 #[.slice A len cap] w (SomeTTI w) := by
  have C := Lib.hid (open_any A len cap w.heap.size w h (Nat.le_refl _) hl hm)
  clear h hl hm
  go_enter Try.func21, Try.ntmps21
  go_wp2_with fail
  refine C.out.mono ?_
  rintro e w1 ⟨rfl, hr, hb⟩
  have HD := Lib.hid (Dr.start hr)
  have HB := Lib.hid hb
  clear hr hb C
  go_wp2_with fail
  refine (l2two_any _ _ _ _ HD.out.1 (by omega)).mono ?_
  rintro e w2 ⟨q, p, rfl, hq, hp, hd⟩
  have HD2 := Lib.hid (HD.out.draw hd.1 hd.2.1)
  clear hd HD
  go_wp2_with fail
  refine (l2number_any _ _ _ _ HD2.out.1 (by omega)).mono ?_
  rintro e w3 ⟨k, rfl, hd⟩
  have HD3 := Lib.hid (HD2.out.draw hd.1 hd.2.1)
  clear hd HD2
  go_wp2
  go_ret3
  exact ⟨q, p, k, rfl, hq, hp, HD3.out.shut HB.out⟩
end Go.Proofs.Ytibnlaphkmnhfaa
