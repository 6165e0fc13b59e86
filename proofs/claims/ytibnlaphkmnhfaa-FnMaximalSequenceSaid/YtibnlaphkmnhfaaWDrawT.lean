/- Contracts of the functions that draw the arguments of the laws on sequences. -/
import Derived.Test.YtibnlaphkmnhfaaWDrawS
import Derived.Test.YtibnlaphkmnhfaaWPair
namespace Go.Proofs.Ytibnlaphkmnhfaa
open Go.RowKit SS
set_option maxRecDepth 100000
/-- some string comes back -/
def SomeT (w : World) (e : Ending) (w' : World) : Prop := ∃ q : ByteArray, e = .returned (.string q) ∧ q.size ≤ 1000 ∧ Below w.heap.size w w'
/-- some string and some number come back -/
def SomeTI (w : World) (e : Ending) (w' : World) : Prop := ∃ (q : ByteArray) (k : Int), e = .returned (.tuple #[.string q, .int .i64 k]) ∧ q.size ≤ 1000 ∧ Below w.heap.size w w'
/-- two strings come back -/
def SomeTT (w : World) (e : Ending) (w' : World) : Prop := ∃ q p : ByteArray, e = .returned (.tuple #[.string q, .string p]) ∧ q.size ≤ 1000 ∧ p.size ≤ 1000 ∧ Below w.heap.size w w'
def SomeDI (R B N : Nat) (w : World) (e : Ending) (w' : World) : Prop := ∃ n : Int, e = .returned (.int .i64 n) ∧ Dr w R B N w'
def SomeDD (R B N : Nat) (w : World) (e : Ending) (w' : World) : Prop := ∃ q p : ByteArray, e = .returned (.tuple #[.string q, .string p]) ∧ q.size ≤ 1000 ∧ p.size ≤ 1000 ∧ Dr w R B N w'
theorem mem_2 {x a b : Int} {p : Int → Prop} (h : x ∈ [a, b]) (ha : p a) (hb : p b) : p x := by
  simp at h
  rcases h with rfl | rfl <;> assumption
set_option maxHeartbeats 2000000 in
theorem l2bad_any (q : ByteArray) (R B N : Nat) (w : World) (h : Rd w R B N) (hN : N ≤ 800000) (hq : q.size ≤ 100) :
    Calls Try.prog 100 #[.pointer (some ⟨R, 0, none⟩), .string q] w (SomeS 0 1000 R B (N + 2) w) := by
  have HD := Lib.hid (Dr.start h)
  clear h
  go_enter Try.func100, Try.ntmps100
  go_wp2_with fail
  refine (pick_any 40 _ _ _ _ HD.out.1 (by omega)).mono ?_
  rintro e w1 ⟨v, rfl, hv0, _, hr, hk⟩
  have HD1 := Lib.hid (HD.out.draw hr hk)
  have hR1 := hr.lt.1
  clear hr hk HD
  by_cases h0 : v = 0
  · subst h0
    have g := Lib.hid (BT.lit w1 9 [⟨#[50]⟩, ⟨#[120]⟩, ⟨#[32]⟩])
    have HD2 := Lib.hid (HD1.out.alloc (.cells #[.string ⟨#[50]⟩, .string ⟨#[120]⟩, .string ⟨#[32]⟩] 9))
    go_wp2_with fail
    refine (of_any [⟨#[50]⟩, ⟨#[120]⟩, ⟨#[32]⟩] 1 w1.heap.size 3 _ _ _ _ HD2.out.1 (by omega) g.out (by omega) (by decide) (by decide) (by intro s hs; simp at hs; rcases hs with rfl | rfl | rfl <;> decide)).mono ?_
    rintro e w2 ⟨p, rfl, _, hp, hd⟩
    have HD3 := Lib.hid (HD2.out.draw hd.1 hd.2.1)
    clear hd
    have g1 := no_over hq hp (by omega)
    have HQS := Lib.hid (ByteArray.size_append (a := q) (b := p))
    go_wp2
    go_ret
    exact ⟨_, rfl, Nat.zero_le _, by rw [HQS.out]; omega, HD3.out.mono (by omega)⟩
  · have d0 : (v == 0) = false := by rw [beq_eq_false_iff_ne]; exact h0
    by_cases h1 : v = 1
    · subst h1
      go_wp2
      go_ret
      exact ⟨⟨#[]⟩, rfl, Nat.zero_le _, by decide, HD1.out.mono (by omega)⟩
    · have d1 : (v == 1) = false := by rw [beq_eq_false_iff_ne]; exact h1
      by_cases h2 : v = 2
      · subst h2
        have g := Lib.hid (BI.lit w1 3 [255, 256])
        have HD2 := Lib.hid (HD1.out.alloc (.cells #[.int .i64 255, .int .i64 256] 3))
        go_wp2_with fail
        refine (num_any [255, 256] w1.heap.size 2 _ _ _ _ HD2.out.1 (by omega) g.out (by omega) (by decide) (by decide)).mono ?_
        rintro e w2 ⟨z, rfl, hz, hr, hk⟩
        have HD3 := Lib.hid (HD2.out.draw hr hk)
        have hz0 := mem_2 (p := fun x => 0 ≤ x ∧ x ≤ 256) hz (by omega) (by omega)
        obtain ⟨n, rfl⟩ := Int.eq_ofNat_of_zero_le hz0.1
        have hn : n ≤ 256 := by omega
        clear hr hk hz hz0
        have C := Lib.hid fun w => many_spec ⟨#[49]⟩ n w (by decide) (by omega)
        have HS : Hid ((repS n ⟨#[49]⟩).size ≤ 1000) := by
          show _ ≤ _
          rw [repS_size, show (⟨#[49]⟩ : ByteArray).size = 1 from rfl]
          omega
        go_wp2_with fail
        refine (C.out _).mono ?_
        rintro e w' ⟨rfl, rfl⟩
        go_wp2
        go_ret
        exact ⟨_, rfl, Nat.zero_le _, HS.out, HD3.out.mono (by omega)⟩
      · have d2 : (v == 2) = false := by rw [beq_eq_false_iff_ne]; exact h2
        go_wp2
        go_ret
        exact ⟨_, rfl, Nat.zero_le _, by omega, HD1.out.mono (by omega)⟩
theorem l2open_any (R B N : Nat) (w : World) (h : Rd w R B N) (hN : N ≤ 600000) :
    Calls Try.prog 91 #[.pointer (some ⟨R, 0, none⟩)] w (SomeS 0 1000 R B (N + 32) w) := by
  have HD := Lib.hid (Dr.start h)
  clear h
  go_enter Try.func91, Try.ntmps91
  go_wp2_with fail
  refine (l2some_any _ _ _ _ HD.out.1 (by omega)).mono ?_
  rintro e w1 ⟨q, rfl, _, hq, hd⟩
  have HD1 := Lib.hid (HD.out.draw hd.1 hd.2.1)
  clear hd HD
  go_wp2_with fail
  refine (l2bad_any q _ _ _ _ HD1.out.1 (by omega) (by omega)).mono ?_
  rintro e w2 ⟨p, rfl, _, hp, hd⟩
  have HD2 := Lib.hid (HD1.out.draw hd.1 hd.2.1)
  clear hd HD1
  go_wp2
  go_ret
  exact ⟨p, rfl, Nat.zero_le _, hp, HD2.out⟩
set_option maxHeartbeats 1000000 in
theorem l2number_any (R B N : Nat) (w : World) (h : Rd w R B N) (hN : N ≤ 800000) :
    Calls Try.prog 69 #[.pointer (some ⟨R, 0, none⟩)] w (SomeDI R B (N + 2) w) := by
  have HD := Lib.hid (Dr.start h)
  clear h
  go_enter Try.func69, Try.ntmps69
  go_wp2_with fail
  refine (pick_any 12 _ _ _ _ HD.out.1 (by omega)).mono ?_
  rintro e w1 ⟨v, rfl, _, _, hr, hk⟩
  have HD1 := Lib.hid (HD.out.draw hr hk)
  have hR1 := hr.lt.1
  clear hr hk HD
  by_cases hv : v = 0
  · subst hv
    have g := Lib.hid (BI.lit w1 3 [-1, 255, 256, 1000, 9223372036854775807, -9223372036854775808])
    have HD2 := Lib.hid (HD1.out.alloc (.cells #[.int .i64 (-1), .int .i64 255, .int .i64 256, .int .i64 1000, .int .i64 9223372036854775807, .int .i64 (-9223372036854775808)] 3))
    go_wp2_with fail
    refine (num_any [-1, 255, 256, 1000, 9223372036854775807, -9223372036854775808] w1.heap.size 6 _ _ _ _ HD2.out.1 (by omega) g.out (by omega) (by decide) (by decide)).mono ?_
    rintro e w3 ⟨y, rfl, _, hr, hk⟩
    have HD3 := Lib.hid (HD2.out.draw hr hk)
    clear hr hk
    go_wp2
    go_ret
    exact ⟨y, rfl, HD3.out⟩
  · have d0 : (v == 0) = false := by rw [beq_eq_false_iff_ne]; exact hv
    go_wp2_with fail
    refine (pick_any 70 _ _ _ _ HD1.out.1 (by omega)).mono ?_
    rintro e w3 ⟨y, rfl, _, _, hr, hk⟩
    have HD3 := Lib.hid (HD1.out.draw hr hk)
    clear hr hk
    go_wp2
    go_ret
    exact ⟨_, rfl, HD3.out⟩
/-- the beginning and the end of a call that draws out of bytes -/
theorem Dr.shut {w w1 wr : World} {N : Nat} (h : Dr w1 w.heap.size w.heap.size N wr) (hb : Below w.heap.size w w1) : Below w.heap.size w wr := hb.trans (h.below (Nat.le_refl _))
theorem drawRevBits (A : Option Addr) (len cap : Nat) (w : World) (h : CodeB w w.heap.size A len) (hl : len ≤ cap) (hm : len ≤ maxLen) :
    Calls Try.prog 51 #[.slice A len cap] w (SomeT w) := by
  have C := Lib.hid (open_any A len cap w.heap.size w h (Nat.le_refl _) hl hm)
  clear h hl hm
  go_enter Try.func51, Try.ntmps51
  go_wp2_with fail
  refine C.out.mono ?_
  rintro e w1 ⟨rfl, hr, hb⟩
  have HD := Lib.hid (Dr.start hr)
  have HB := Lib.hid hb
  clear hr hb C
  go_wp2_with fail
  refine (l2open_any _ _ _ _ HD.out.1 (by omega)).mono ?_
  rintro e w2 ⟨q, rfl, _, hq, hd⟩
  have HD2 := Lib.hid (HD.out.draw hd.1 hd.2.1)
  clear hd HD
  go_wp2
  go_ret
  exact ⟨q, rfl, hq, HD2.out.shut HB.out⟩
end Go.Proofs.Ytibnlaphkmnhfaa
