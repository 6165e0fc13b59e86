/- Contracts of the functions that find the shortest register with given bits. -/
import Derived.Test.YtgmagocpacpafaaWRun
import Derived.Test.YtgmagocpacpafaaWAfter
import Derived.Test.YtgmagocpacpafaaWFrom
import Derived.Test.YtgmagocpacpafaaWRot
import Derived.Test.YtgmagocpacpafaaPlainShort
namespace Go.Proofs.Ytgmagocpacpafaa
open Go.RowKit SS
set_option maxRecDepth 100000
theorem hit_no {s : ByteArray} {a b : Nat} (h : hit s.data.toList a b = false) : ((⟨(run a b s.size (frm (s.data.toList.take a))).toArray⟩ : ByteArray).toList == s.toList) = false := by
  refine ba_no fun e => ?_
  unfold hit at h
  rw [beq_eq_false_iff_ne, size_list] at h
  apply h
  have := congrArg (fun q : ByteArray => q.data.toList) e
  simpa using this
theorem hit_yes {s : ByteArray} {a b : Nat} (h : hit s.data.toList a b = true) : ((⟨(run a b s.size (frm (s.data.toList.take a))).toArray⟩ : ByteArray).toList == s.toList) = true := by
  refine ba_yes ?_
  unfold hit at h
  rw [beq_iff_eq, size_list] at h
  apply ByteArray.ext
  apply Array.ext'
  simpa using h
/-- the state of the search that is kept from round to round -/
def Sea (w wr : World) : Prop := B3 wr w.heap.size 24 (.int .i64 0) (.int .i64 0) (.int .i64 0) ∧ Below w.heap.size w wr
theorem Sea.start (w : World) : Sea w (w.alloc (.cells #[.int .i64 0, .int .i64 0, .int .i64 0] 24)) := ⟨B3.new _ _ _ _ _, (Below.refl _ _).alloc (Nat.le_refl _) _⟩
theorem Sea.call {w w1 w2 : World} (h : Sea w w1) (hb : Below w1.heap.size w1 w2) : Sea w w2 := ⟨h.1.belowS hb, next h.2 hb (Nat.le_refl _)⟩
theorem Sea.alloc {w w1 : World} (h : Sea w w1) (o : Obj) : Sea w (w1.alloc o) := ⟨h.1.alloc o, h.2.alloc h.2.size o⟩
set_option maxHeartbeats 2000000 in
theorem short_no (s : ByteArray) (w : World) (h8 : 8 ≤ s.size) (h64 : s.size ≤ 64) (hb : okB s.data.toList = true) (hn : NoShort s.data.toList) :
    Calls Try.prog 34 #[.string s] w fun e w' => e = .returned (.tuple #[.agg #[.int .i64 0, .int .i64 0, .int .i64 0], .bool false]) ∧ Below w.heap.size w w' := by
  have hbits : bitsB s.data.toList = true := by unfold bitsB; rw [hb, size_list]; simp; omega
  have C := Lib.hid fun w => isBits_impl s w (by unfold maxLen; omega)
  rw [hbits] at C
  clear hbits
  have k1 : decide ((s.size : Int) < 8) = false := by simp; omega
  have k2 : decide (64 < (s.size : Int)) = false := by simp; omega
  have HS := Lib.hid (Sea.start w)
  have HB := Lib.hid hb
  have HN := Lib.hid hn
  clear hb hn
  go_enter Try.func34, Try.ntmps34
  go_wp2_with fail
  refine (C.out _).mono ?_
  rintro e w1 ⟨rfl, rfl⟩
  go_wp2_with fail
  go_loopw [4] (fun i wr => ∃ a : Nat, 2 ≤ a ∧ a ≤ 9 ∧ i = .int .i64 (a : Int) ∧ Sea w wr) (fun i _ => 9 - (intOf i).toNat)
  case atStart => exact ⟨2, by omega, by omega, rfl, HS.out⟩
  case round =>
    clear HS
    obtain ⟨a, ha2, ha9, rfl, hs⟩ := hrel
    have HS := Lib.hid hs
    clear hs
    by_cases hlt : a ≤ 8
    · obtain ⟨wo, rfl⟩ : ∃ wo : World, wo = wr := ⟨_, rfl⟩
      obtain ⟨p, HP⟩ : ∃ p, Hid (p = 2 ^ a) := ⟨2 ^ a, Lib.hid rfl⟩
      have hp : p ≤ 256 := by rw [HP.out]; exact Nat.pow_le_pow_right (n := 2) (by decide) hlt
      have hp4 : 4 ≤ p := by rw [HP.out]; exact Nat.pow_le_pow_right (n := 2) (by decide) ha2
      have hpi : ((2 : Int) ^ a) = (p : Int) := by rw [HP.out]; simp
      have ha8 : decide ((a : Int) ≤ 8) = true := by simp; omega
      go_wp2_with fail
      go_loopw [5] (fun i wr => ∃ b : Nat, 1 ≤ b ∧ b ≤ p ∧ i = .int .i64 (b : Int) ∧ Sea w wr) (fun i _ => p - (intOf i).toNat)
      case atStart => exact ⟨1, by omega, by omega, rfl, HS.out⟩
      case round =>
        clear HS
        obtain ⟨b, hb1, hbp, rfl, hs⟩ := hrel
        have HS := Lib.hid hs
        clear hs
        by_cases hbl : b < p
        · have hv := short_vr s.data.toList a b ha2 hlt hb1 (by rw [← HP.out]; exact hbl) (by rw [size_list]; exact h8) HB.out
          have D1 := Lib.hid fun w => registerOf_impl a b s w hlt (by omega) HB.out
          have D2 := Lib.hid fun w => run_yes a b _ s.size w hv (by omega)
          have hc := hit_no (HN.out a b ha2 hlt hb1 (by rw [← HP.out]; exact hbl))
          generalize frm (s.data.toList.take a) = x at D1 D2 hc
          generalize (⟨(run a b s.size x).toArray⟩ : ByteArray) = q at D2 hc
          clear hv
          go_wp2_with fail
          refine (D1.out _).mono ?_
          rintro e w1 ⟨rfl, hb1'⟩
          have HS1 := Lib.hid (HS.out.call hb1')
          clear HS hb1'
          go_wp2_with fail
          refine (D2.out _).mono ?_
          rintro e w2 ⟨rfl, hb2'⟩
          have HS2 := Lib.hid ((HS1.out.alloc _).call hb2')
          clear HS1 hb2'
          go_wp2
          go_roundw
          case rel => exact ⟨b + 1, by omega, by omega, by go_num, HS2.out⟩
          case measure => simp [intOf]; omega
        · go_wp2
          go_roundw
          case rel => exact ⟨a + 1, by omega, by omega, by go_num, HS.out⟩
          case measure => simp [intOf]; omega
    · obtain ⟨b1, hw⟩ := HS.out
      obtain ⟨c0, c1, c2, f0, f1, f2, hz⟩ := b1.facts
      go_wp2
      refine bodyPost_ret (v := .tuple #[.agg #[.int .i64 0, .int .i64 0, .int .i64 0], .bool false]) (by simp [results, Try.results34, go_sem, c0, c1, c2]) rfl ⟨rfl, ?_⟩
      exact ((hw.setCell (by simp) _).setCell (by simp) _).setCell (by simp) _
set_option maxHeartbeats 2000000 in
theorem short_yes (s : ByteArray) (S T : Nat) (w : World) (h8 : 8 ≤ s.size) (h64 : s.size ≤ 64) (hb : okB s.data.toList = true) (hn : Short s.data.toList S T) :
    Calls Try.prog 34 #[.string s] w fun e w' => e = .returned (.tuple #[.agg #[.int .i64 S, .int .i64 T, .int .i64 (frm (s.data.toList.take S))], .bool true]) ∧ Below w.heap.size w w' := by
  have hbits : bitsB s.data.toList = true := by unfold bitsB; rw [hb, size_list]; simp; omega
  have C := Lib.hid fun w => isBits_impl s w (by unfold maxLen; omega)
  rw [hbits] at C
  clear hbits
  have k1 : decide ((s.size : Int) < 8) = false := by simp; omega
  have k2 : decide (64 < (s.size : Int)) = false := by simp; omega
  have HS := Lib.hid (Sea.start w)
  have HB := Lib.hid hb
  obtain ⟨S2, S8, T1, TS, hT, hT', hS'⟩ := hn
  have HTS := Lib.hid TS
  have HT := Lib.hid hT
  have HT' := Lib.hid hT'
  have HS' := Lib.hid hS'
  clear hb TS hT hT' hS'
  go_enter Try.func34, Try.ntmps34
  go_wp2_with fail
  refine (C.out _).mono ?_
  rintro e w1 ⟨rfl, rfl⟩
  go_wp2_with fail
  go_loopw [4] (fun i wr => ∃ a : Nat, 2 ≤ a ∧ a ≤ S ∧ i = .int .i64 (a : Int) ∧ Sea w wr) (fun i _ => 9 - (intOf i).toNat)
  case atStart => exact ⟨2, by omega, by omega, rfl, HS.out⟩
  case round =>
    clear HS
    obtain ⟨a, ha2, ha9, rfl, hs⟩ := hrel
    have HS := Lib.hid hs
    clear hs
    have hlt : a ≤ 8 := by omega
    by_cases haS : a < S
    · obtain ⟨wo, rfl⟩ : ∃ wo : World, wo = wr := ⟨_, rfl⟩
      obtain ⟨p, HP⟩ : ∃ p, Hid (p = 2 ^ a) := ⟨2 ^ a, Lib.hid rfl⟩
      have hp : p ≤ 256 := by rw [HP.out]; exact Nat.pow_le_pow_right (n := 2) (by decide) hlt
      have hp4 : 4 ≤ p := by rw [HP.out]; exact Nat.pow_le_pow_right (n := 2) (by decide) ha2
      have hpi : ((2 : Int) ^ a) = (p : Int) := by rw [HP.out]; simp
      have ha8 : decide ((a : Int) ≤ 8) = true := by simp; omega
      go_wp2_with fail
      go_loopw [5] (fun i wr => ∃ b : Nat, 1 ≤ b ∧ b ≤ p ∧ i = .int .i64 (b : Int) ∧ Sea w wr) (fun i _ => p - (intOf i).toNat)
      case atStart => exact ⟨1, by omega, by omega, rfl, HS.out⟩
      case round =>
        clear HS
        obtain ⟨b, hb1, hbp, rfl, hs⟩ := hrel
        have HS := Lib.hid hs
        clear hs
        by_cases hbl : b < p
        · have hv := short_vr s.data.toList a b ha2 hlt hb1 (by rw [← HP.out]; exact hbl) (by rw [size_list]; exact h8) HB.out
          have D1 := Lib.hid fun w => registerOf_impl a b s w hlt (by omega) HB.out
          have D2 := Lib.hid fun w => run_yes a b _ s.size w hv (by omega)
          have hc := hit_no (HS'.out a b ha2 haS hb1 (by rw [← HP.out]; exact hbl))
          generalize frm (s.data.toList.take a) = x at D1 D2 hc
          generalize (⟨(run a b s.size x).toArray⟩ : ByteArray) = q at D2 hc
          clear hv
          go_wp2_with fail
          refine (D1.out _).mono ?_
          rintro e w1 ⟨rfl, hb1'⟩
          have HS1 := Lib.hid (HS.out.call hb1')
          clear HS hb1'
          go_wp2_with fail
          refine (D2.out _).mono ?_
          rintro e w2 ⟨rfl, hb2'⟩
          have HS2 := Lib.hid ((HS1.out.alloc _).call hb2')
          clear HS1 hb2'
          go_wp2
          go_roundw
          case rel => exact ⟨b + 1, by omega, by omega, by go_num, HS2.out⟩
          case measure => simp [intOf]; omega
        · go_wp2
          go_roundw
          case rel => exact ⟨a + 1, by omega, by omega, by go_num, HS.out⟩
          case measure => simp [intOf]; omega
    · obtain rfl : a = S := by omega
      obtain ⟨wo, rfl⟩ : ∃ wo : World, wo = wr := ⟨_, rfl⟩
      obtain ⟨p, HP⟩ : ∃ p, Hid (p = 2 ^ a) := ⟨2 ^ a, Lib.hid rfl⟩
      have hp : p ≤ 256 := by rw [HP.out]; exact Nat.pow_le_pow_right (n := 2) (by decide) hlt
      have hp4 : 4 ≤ p := by rw [HP.out]; exact Nat.pow_le_pow_right (n := 2) (by decide) ha2
      have hpi : ((2 : Int) ^ a) = (p : Int) := by rw [HP.out]; simp
      have htp : T < p := by rw [HP.out]; exact HTS.out
      have ha8 : decide ((a : Int) ≤ 8) = true := by simp; omega
      go_wp2_with fail
      go_loopw [5] (fun i wr => ∃ b : Nat, 1 ≤ b ∧ b ≤ T ∧ i = .int .i64 (b : Int) ∧ Sea w wr) (fun i _ => T - (intOf i).toNat)
      case atStart => exact ⟨1, by omega, by omega, rfl, HS.out⟩
      case round =>
        clear HS
        obtain ⟨b, hb1, hbp, rfl, hs⟩ := hrel
        have HS := Lib.hid hs
        clear hs
        have hbp' : b < p := by omega
        by_cases hbl : b < T
        · have hv := short_vr s.data.toList a b ha2 hlt hb1 (by rw [← HP.out]; exact hbp') (by rw [size_list]; exact h8) HB.out
          have D1 := Lib.hid fun w => registerOf_impl a b s w hlt (by omega) HB.out
          have D2 := Lib.hid fun w => run_yes a b _ s.size w hv (by omega)
          have hc := hit_no (HT'.out b hb1 hbl)
          generalize frm (s.data.toList.take a) = x at D1 D2 hc
          generalize (⟨(run a b s.size x).toArray⟩ : ByteArray) = q at D2 hc
          clear hv
          go_wp2_with fail
          refine (D1.out _).mono ?_
          rintro e w1 ⟨rfl, hb1'⟩
          have HS1 := Lib.hid (HS.out.call hb1')
          clear HS hb1'
          go_wp2_with fail
          refine (D2.out _).mono ?_
          rintro e w2 ⟨rfl, hb2'⟩
          have HS2 := Lib.hid ((HS1.out.alloc _).call hb2')
          clear HS1 hb2'
          go_wp2
          go_roundw
          case rel => exact ⟨b + 1, by omega, by omega, by go_num, HS2.out⟩
          case measure => simp [intOf]; omega
        · obtain rfl : b = T := by omega
          have hv := short_vr s.data.toList a b ha2 hlt hb1 (by rw [← HP.out]; exact hbp') (by rw [size_list]; exact h8) HB.out
          have D1 := Lib.hid fun w => registerOf_impl a b s w hlt (by omega) HB.out
          have D2 := Lib.hid fun w => run_yes a b _ s.size w hv (by omega)
          have hc := hit_yes HT.out
          generalize hx : frm (s.data.toList.take a) = x at D1 D2 hc
          have HX := Lib.hid hx
          clear hx
          generalize (⟨(run a b s.size x).toArray⟩ : ByteArray) = q at D2 hc
          clear hv
          go_wp2_with fail
          refine (D1.out _).mono ?_
          rintro e w1 ⟨rfl, hb1'⟩
          have HS1 := Lib.hid (HS.out.call hb1')
          clear HS hb1'
          go_wp2_with fail
          have bx := Lib.hid (B3.new w1 24 (.int .i64 a) (.int .i64 b) (.int .i64 x))
          refine (D2.out _).mono ?_
          rintro e w2 ⟨rfl, hb2'⟩
          have HS2 := (HS1.out.alloc _).call hb2'
          have b2 := bx.out.belowS hb2'
          have hne : w.heap.size < w1.heap.size := HS1.out.1.facts.2.2.2.2.2.2
          clear HS1 hb2' bx
          obtain ⟨b1, hw⟩ := HS2
          obtain ⟨c0, c1, c2, f0, f1, f2, hz⟩ := b1.facts
          obtain ⟨c3, c4, c5, f3, f4, f5, hz3⟩ := b2.facts
          go_wp2
          refine bodyPost_ret (v := .tuple #[.agg #[.int .i64 a, .int .i64 b, .int .i64 x], .bool true]) (by simp [results, Try.results34, go_sem, c0, c1, c2]) rfl ⟨by rw [HX.out], ?_⟩
          exact ((hw.setCell (by simp) _).setCell (by simp) _).setCell (by simp) _
set_option maxHeartbeats 1000000 in
theorem short_bad (s : ByteArray) (w : World) (hs : s.size ≤ maxLen) (h : bitsB s.data.toList = false ∨ s.size < 8 ∨ 64 < s.size) :
    Calls Try.prog 34 #[.string s] w fun e w' => e = .returned (.tuple #[.agg #[.int .i64 0, .int .i64 0, .int .i64 0], .bool false]) ∧ Below w.heap.size w w' := by
  have C := Lib.hid fun w => isBits_impl s w hs
  have HS := Lib.hid (Sea.start w)
  cases hb : bitsB s.data.toList with
  | false =>
    rw [hb] at C
    clear hb h
    obtain ⟨b1, hw⟩ := HS.out
    obtain ⟨c0, c1, c2, f0, f1, f2, hz⟩ := b1.facts
    clear b1
    go_enter Try.func34, Try.ntmps34
    go_wp2_with fail
    refine (C.out _).mono ?_
    rintro e w1 ⟨rfl, rfl⟩
    go_wp2
    refine bodyPost_ret (v := .tuple #[.agg #[.int .i64 0, .int .i64 0, .int .i64 0], .bool false]) (by simp [results, Try.results34, go_sem]) rfl ⟨rfl, ?_⟩
    exact HS.out.2
  | true =>
    rw [hb] at C h
    clear hb
    by_cases h8 : s.size < 8
    · have k1 : decide ((s.size : Int) < 8) = true := by simp; omega
      clear h
      go_enter Try.func34, Try.ntmps34
      go_wp2_with fail
      refine (C.out _).mono ?_
      rintro e w1 ⟨rfl, rfl⟩
      go_wp2
      refine bodyPost_ret (v := .tuple #[.agg #[.int .i64 0, .int .i64 0, .int .i64 0], .bool false]) (by simp [results, Try.results34, go_sem]) rfl ⟨rfl, ?_⟩
      exact HS.out.2
    · have k1 : decide ((s.size : Int) < 8) = false := by simp; omega
      have k2 : decide (64 < (s.size : Int)) = true := by simp at h; simp; omega
      clear h
      go_enter Try.func34, Try.ntmps34
      go_wp2_with fail
      refine (C.out _).mono ?_
      rintro e w1 ⟨rfl, rfl⟩
      go_wp2
      refine bodyPost_ret (v := .tuple #[.agg #[.int .i64 0, .int .i64 0, .int .i64 0], .bool false]) (by simp [results, Try.results34, go_sem]) rfl ⟨rfl, ?_⟩
      exact HS.out.2
theorem in_yes (n l h : Int) (w : World) (h1 : l ≤ n) (h2 : n ≤ h) :
    Calls Try.prog 73 #[.int .i64 n, .int .i64 l, .int .i64 h] w fun e w' => e = .returned (.bool true) ∧ w = w' :=
  (in_spec n l h w).mono fun _ _ ⟨he, hw⟩ => ⟨by rw [he, decide_eq_true ⟨h1, h2⟩], hw⟩
theorem in_no (n l h : Int) (w : World) (h1 : ¬ (l ≤ n ∧ n ≤ h)) :
    Calls Try.prog 73 #[.int .i64 n, .int .i64 l, .int .i64 h] w fun e w' => e = .returned (.bool false) ∧ w = w' :=
  (in_spec n l h w).mono fun _ _ ⟨he, hw⟩ => ⟨by rw [he, decide_eq_false h1], hw⟩
theorem two_nat (s p : Nat) (w : World) (h8 : s ≤ 8) (hp : Hid (p = 2 ^ s)) :
    Calls Try.prog 82 #[.int .i64 (s : Int)] w fun e w' => e = .returned (.int .i64 p) ∧ w = w' :=
  (two_spec (s : Int) w (by omega) (by omega)).mono fun e w' ⟨he, hw⟩ => ⟨by rw [he, hp.out, Int.toNat_natCast]; simp, hw⟩
set_option maxHeartbeats 2000000 in
theorem sshort_no (s : ByteArray) (w : World) (h8 : 8 ≤ s.size) (h64 : s.size ≤ 64) (hb : okB s.data.toList = true) (hn : NoShort s.data.toList) :
    Calls Try.prog 35 #[.string s] w fun e w' => e = .returned (.tuple #[.agg #[.int .i64 0, .int .i64 0, .int .i64 0], .bool false]) ∧ Below w.heap.size w w' := by
  have hbits : bitsB s.data.toList = true := by unfold bitsB; rw [hb, size_list]; simp; omega
  have C := Lib.hid fun w => bits_spec s w (by unfold maxLen; omega)
  rw [hbits] at C
  clear hbits
  have E1 := Lib.hid fun w => in_yes (s.size : Int) 8 64 w (by omega) (by omega)
  have HS := Lib.hid (Sea.start w)
  have HB := Lib.hid hb
  have HN := Lib.hid hn
  clear hb hn
  go_enter Try.func35, Try.ntmps35
  go_wp2_with fail
  refine (C.out _).mono ?_
  rintro e w1 ⟨rfl, rfl⟩
  go_wp2_with fail
  refine (E1.out _).mono ?_
  rintro e w1 ⟨rfl, rfl⟩
  go_wp2_with fail
  go_loopw [4] (fun i wr => ∃ a : Nat, 2 ≤ a ∧ a ≤ 9 ∧ i = .int .i64 (a : Int) ∧ Sea w wr) (fun i _ => 9 - (intOf i).toNat)
  case atStart => exact ⟨2, by omega, by omega, rfl, HS.out⟩
  case round =>
    clear HS
    obtain ⟨a, ha2, ha9, rfl, hs⟩ := hrel
    have HS := Lib.hid hs
    clear hs
    by_cases hlt : a ≤ 8
    · obtain ⟨wo, rfl⟩ : ∃ wo : World, wo = wr := ⟨_, rfl⟩
      obtain ⟨p, HP⟩ : ∃ p, Hid (p = 2 ^ a) := ⟨2 ^ a, Lib.hid rfl⟩
      have hp : p ≤ 256 := by rw [HP.out]; exact Nat.pow_le_pow_right (n := 2) (by decide) hlt
      have hp4 : 4 ≤ p := by rw [HP.out]; exact Nat.pow_le_pow_right (n := 2) (by decide) ha2
      have E2 := Lib.hid fun w => two_nat a p w hlt HP
      have ha8 : decide ((a : Int) ≤ 8) = true := by simp; omega
      go_wp2_with fail
      go_loopw [5] (fun i wr => ∃ b : Nat, 1 ≤ b ∧ b ≤ p ∧ i = .int .i64 (b : Int) ∧ Sea w wr) (fun i _ => p - (intOf i).toNat)
      case atStart => exact ⟨1, by omega, by omega, rfl, HS.out⟩
      case round =>
        clear HS
        obtain ⟨b, hb1, hbp, rfl, hs⟩ := hrel
        have HS := Lib.hid hs
        clear hs
        by_cases hbl : b < p
        · have hv := short_vr s.data.toList a b ha2 hlt hb1 (by rw [← HP.out]; exact hbl) (by rw [size_list]; exact h8) HB.out
          have D1 := Lib.hid fun w => from_spec a b s w hlt (by omega) HB.out
          have D2 := Lib.hid fun w => l1run a b _ s.size w hv (by omega)
          have hc := hit_no (HN.out a b ha2 hlt hb1 (by rw [← HP.out]; exact hbl))
          generalize frm (s.data.toList.take a) = x at D1 D2 hc
          generalize (⟨(run a b s.size x).toArray⟩ : ByteArray) = q at D2 hc
          clear hv
          go_wp2_with fail
          refine (E2.out _).mono ?_
          rintro e w1 ⟨rfl, rfl⟩
          go_wp2_with fail
          refine (D1.out _).mono ?_
          rintro e w1 ⟨rfl, hb1'⟩
          have HS1 := Lib.hid (HS.out.call hb1')
          clear HS hb1'
          go_wp2_with fail
          refine (D2.out _).mono ?_
          rintro e w2 ⟨rfl, hb2'⟩
          have HS2 := Lib.hid ((HS1.out.alloc _).call hb2')
          clear HS1 hb2'
          go_wp2
          go_roundw
          case rel => exact ⟨b + 1, by omega, by omega, by go_num, HS2.out⟩
          case measure => simp [intOf]; omega
        · go_wp2_with fail
          refine (E2.out _).mono ?_
          rintro e w1 ⟨rfl, rfl⟩
          go_wp2
          go_roundw
          case rel => exact ⟨a + 1, by omega, by omega, by go_num, HS.out⟩
          case measure => simp [intOf]; omega
    · obtain ⟨b1, hw⟩ := HS.out
      obtain ⟨c0, c1, c2, f0, f1, f2, hz⟩ := b1.facts
      go_wp2
      refine bodyPost_ret (v := .tuple #[.agg #[.int .i64 0, .int .i64 0, .int .i64 0], .bool false]) (by simp [results, Try.results35, go_sem, c0, c1, c2]) rfl ⟨rfl, ?_⟩
      exact ((hw.setCell (by simp) _).setCell (by simp) _).setCell (by simp) _
set_option maxHeartbeats 2000000 in
theorem sshort_yes (s : ByteArray) (S T : Nat) (w : World) (h8 : 8 ≤ s.size) (h64 : s.size ≤ 64) (hb : okB s.data.toList = true) (hn : Short s.data.toList S T) :
    Calls Try.prog 35 #[.string s] w fun e w' => e = .returned (.tuple #[.agg #[.int .i64 S, .int .i64 T, .int .i64 (frm (s.data.toList.take S))], .bool true]) ∧ Below w.heap.size w w' := by
  have hbits : bitsB s.data.toList = true := by unfold bitsB; rw [hb, size_list]; simp; omega
  have C := Lib.hid fun w => bits_spec s w (by unfold maxLen; omega)
  rw [hbits] at C
  clear hbits
  have E1 := Lib.hid fun w => in_yes (s.size : Int) 8 64 w (by omega) (by omega)
  have HS := Lib.hid (Sea.start w)
  have HB := Lib.hid hb
  obtain ⟨S2, S8, T1, TS, hT, hT', hS'⟩ := hn
  have HTS := Lib.hid TS
  have HT := Lib.hid hT
  have HT' := Lib.hid hT'
  have HS' := Lib.hid hS'
  clear hb TS hT hT' hS'
  go_enter Try.func35, Try.ntmps35
  go_wp2_with fail
  refine (C.out _).mono ?_
  rintro e w1 ⟨rfl, rfl⟩
  go_wp2_with fail
  refine (E1.out _).mono ?_
  rintro e w1 ⟨rfl, rfl⟩
  go_wp2_with fail
  go_loopw [4] (fun i wr => ∃ a : Nat, 2 ≤ a ∧ a ≤ S ∧ i = .int .i64 (a : Int) ∧ Sea w wr) (fun i _ => 9 - (intOf i).toNat)
  case atStart => exact ⟨2, by omega, by omega, rfl, HS.out⟩
  case round =>
    clear HS
    obtain ⟨a, ha2, ha9, rfl, hs⟩ := hrel
    have HS := Lib.hid hs
    clear hs
    have hlt : a ≤ 8 := by omega
    by_cases haS : a < S
    · obtain ⟨wo, rfl⟩ : ∃ wo : World, wo = wr := ⟨_, rfl⟩
      obtain ⟨p, HP⟩ : ∃ p, Hid (p = 2 ^ a) := ⟨2 ^ a, Lib.hid rfl⟩
      have hp : p ≤ 256 := by rw [HP.out]; exact Nat.pow_le_pow_right (n := 2) (by decide) hlt
      have hp4 : 4 ≤ p := by rw [HP.out]; exact Nat.pow_le_pow_right (n := 2) (by decide) ha2
      have E2 := Lib.hid fun w => two_nat a p w hlt HP
      have ha8 : decide ((a : Int) ≤ 8) = true := by simp; omega
      go_wp2_with fail
      go_loopw [5] (fun i wr => ∃ b : Nat, 1 ≤ b ∧ b ≤ p ∧ i = .int .i64 (b : Int) ∧ Sea w wr) (fun i _ => p - (intOf i).toNat)
      case atStart => exact ⟨1, by omega, by omega, rfl, HS.out⟩
      case round =>
        clear HS
        obtain ⟨b, hb1, hbp, rfl, hs⟩ := hrel
        have HS := Lib.hid hs
        clear hs
        by_cases hbl : b < p
        · have hv := short_vr s.data.toList a b ha2 hlt hb1 (by rw [← HP.out]; exact hbl) (by rw [size_list]; exact h8) HB.out
          have D1 := Lib.hid fun w => from_spec a b s w hlt (by omega) HB.out
          have D2 := Lib.hid fun w => l1run a b _ s.size w hv (by omega)
          have hc := hit_no (HS'.out a b ha2 haS hb1 (by rw [← HP.out]; exact hbl))
          generalize frm (s.data.toList.take a) = x at D1 D2 hc
          generalize (⟨(run a b s.size x).toArray⟩ : ByteArray) = q at D2 hc
          clear hv
          go_wp2_with fail
          refine (E2.out _).mono ?_
          rintro e w1 ⟨rfl, rfl⟩
          go_wp2_with fail
          refine (D1.out _).mono ?_
          rintro e w1 ⟨rfl, hb1'⟩
          have HS1 := Lib.hid (HS.out.call hb1')
          clear HS hb1'
          go_wp2_with fail
          refine (D2.out _).mono ?_
          rintro e w2 ⟨rfl, hb2'⟩
          have HS2 := Lib.hid ((HS1.out.alloc _).call hb2')
          clear HS1 hb2'
          go_wp2
          go_roundw
          case rel => exact ⟨b + 1, by omega, by omega, by go_num, HS2.out⟩
          case measure => simp [intOf]; omega
        · go_wp2_with fail
          refine (E2.out _).mono ?_
          rintro e w1 ⟨rfl, rfl⟩
          go_wp2
          go_roundw
          case rel => exact ⟨a + 1, by omega, by omega, by go_num, HS.out⟩
          case measure => simp [intOf]; omega
    · obtain rfl : a = S := by omega
      obtain ⟨wo, rfl⟩ : ∃ wo : World, wo = wr := ⟨_, rfl⟩
      obtain ⟨p, HP⟩ : ∃ p, Hid (p = 2 ^ a) := ⟨2 ^ a, Lib.hid rfl⟩
      have hp : p ≤ 256 := by rw [HP.out]; exact Nat.pow_le_pow_right (n := 2) (by decide) hlt
      have hp4 : 4 ≤ p := by rw [HP.out]; exact Nat.pow_le_pow_right (n := 2) (by decide) ha2
      have E2 := Lib.hid fun w => two_nat a p w hlt HP
      have htp : T < p := by rw [HP.out]; exact HTS.out
      have ha8 : decide ((a : Int) ≤ 8) = true := by simp; omega
      go_wp2_with fail
      go_loopw [5] (fun i wr => ∃ b : Nat, 1 ≤ b ∧ b ≤ T ∧ i = .int .i64 (b : Int) ∧ Sea w wr) (fun i _ => T - (intOf i).toNat)
      case atStart => exact ⟨1, by omega, by omega, rfl, HS.out⟩
      case round =>
        clear HS
        obtain ⟨b, hb1, hbp, rfl, hs⟩ := hrel
        have HS := Lib.hid hs
        clear hs
        have hbp' : b < p := by omega
        by_cases hbl : b < T
        · have hv := short_vr s.data.toList a b ha2 hlt hb1 (by rw [← HP.out]; exact hbp') (by rw [size_list]; exact h8) HB.out
          have D1 := Lib.hid fun w => from_spec a b s w hlt (by omega) HB.out
          have D2 := Lib.hid fun w => l1run a b _ s.size w hv (by omega)
          have hc := hit_no (HT'.out b hb1 hbl)
          generalize frm (s.data.toList.take a) = x at D1 D2 hc
          generalize (⟨(run a b s.size x).toArray⟩ : ByteArray) = q at D2 hc
          clear hv
          go_wp2_with fail
          refine (E2.out _).mono ?_
          rintro e w1 ⟨rfl, rfl⟩
          go_wp2_with fail
          refine (D1.out _).mono ?_
          rintro e w1 ⟨rfl, hb1'⟩
          have HS1 := Lib.hid (HS.out.call hb1')
          clear HS hb1'
          go_wp2_with fail
          refine (D2.out _).mono ?_
          rintro e w2 ⟨rfl, hb2'⟩
          have HS2 := Lib.hid ((HS1.out.alloc _).call hb2')
          clear HS1 hb2'
          go_wp2
          go_roundw
          case rel => exact ⟨b + 1, by omega, by omega, by go_num, HS2.out⟩
          case measure => simp [intOf]; omega
        · obtain rfl : b = T := by omega
          have hv := short_vr s.data.toList a b ha2 hlt hb1 (by rw [← HP.out]; exact hbp') (by rw [size_list]; exact h8) HB.out
          have D1 := Lib.hid fun w => from_spec a b s w hlt (by omega) HB.out
          have D2 := Lib.hid fun w => l1run a b _ s.size w hv (by omega)
          have hc := hit_yes HT.out
          generalize hx : frm (s.data.toList.take a) = x at D1 D2 hc
          have HX := Lib.hid hx
          clear hx
          generalize (⟨(run a b s.size x).toArray⟩ : ByteArray) = q at D2 hc
          clear hv
          go_wp2_with fail
          refine (E2.out _).mono ?_
          rintro e w1 ⟨rfl, rfl⟩
          go_wp2_with fail
          refine (D1.out _).mono ?_
          rintro e w1 ⟨rfl, hb1'⟩
          have HS1 := Lib.hid (HS.out.call hb1')
          clear HS hb1'
          go_wp2_with fail
          have bx := Lib.hid (B3.new w1 24 (.int .i64 a) (.int .i64 b) (.int .i64 x))
          refine (D2.out _).mono ?_
          rintro e w2 ⟨rfl, hb2'⟩
          have HS2 := (HS1.out.alloc _).call hb2'
          have b2 := bx.out.belowS hb2'
          have hne : w.heap.size < w1.heap.size := HS1.out.1.facts.2.2.2.2.2.2
          clear HS1 hb2' bx
          obtain ⟨b1, hw⟩ := HS2
          obtain ⟨c0, c1, c2, f0, f1, f2, hz⟩ := b1.facts
          obtain ⟨c3, c4, c5, f3, f4, f5, hz3⟩ := b2.facts
          go_wp2
          refine bodyPost_ret (v := .tuple #[.agg #[.int .i64 a, .int .i64 b, .int .i64 x], .bool true]) (by simp [results, Try.results35, go_sem, c0, c1, c2]) rfl ⟨by rw [HX.out], ?_⟩
          exact ((hw.setCell (by simp) _).setCell (by simp) _).setCell (by simp) _
set_option maxHeartbeats 1000000 in
theorem sshort_bad (s : ByteArray) (w : World) (hs : s.size ≤ maxLen) (h : bitsB s.data.toList = false ∨ s.size < 8 ∨ 64 < s.size) :
    Calls Try.prog 35 #[.string s] w fun e w' => e = .returned (.tuple #[.agg #[.int .i64 0, .int .i64 0, .int .i64 0], .bool false]) ∧ Below w.heap.size w w' := by
  have C := Lib.hid fun w => bits_spec s w hs
  have HS := Lib.hid (Sea.start w)
  cases hb : bitsB s.data.toList with
  | false =>
    rw [hb] at C
    clear hb h
    obtain ⟨b1, hw⟩ := HS.out
    obtain ⟨c0, c1, c2, f0, f1, f2, hz⟩ := b1.facts
    clear b1
    go_enter Try.func35, Try.ntmps35
    go_wp2_with fail
    refine (C.out _).mono ?_
    rintro e w1 ⟨rfl, rfl⟩
    go_wp2
    refine bodyPost_ret (v := .tuple #[.agg #[.int .i64 0, .int .i64 0, .int .i64 0], .bool false]) (by simp [results, Try.results35, go_sem]) rfl ⟨rfl, ?_⟩
    exact HS.out.2
  | true =>
    rw [hb] at C h
    clear hb
    by_cases h8 : s.size < 8
    · have E1 := Lib.hid fun w => in_no (s.size : Int) 8 64 w (by omega)
      clear h
      go_enter Try.func35, Try.ntmps35
      go_wp2_with fail
      refine (C.out _).mono ?_
      rintro e w1 ⟨rfl, rfl⟩
      go_wp2_with fail
      refine (E1.out _).mono ?_
      rintro e w1 ⟨rfl, rfl⟩
      go_wp2
      refine bodyPost_ret (v := .tuple #[.agg #[.int .i64 0, .int .i64 0, .int .i64 0], .bool false]) (by simp [results, Try.results35, go_sem]) rfl ⟨rfl, ?_⟩
      exact HS.out.2
    · have E1 := Lib.hid fun w => in_no (s.size : Int) 8 64 w (by simp at h; omega)
      clear h
      go_enter Try.func35, Try.ntmps35
      go_wp2_with fail
      refine (C.out _).mono ?_
      rintro e w1 ⟨rfl, rfl⟩
      go_wp2_with fail
      refine (E1.out _).mono ?_
      rintro e w1 ⟨rfl, rfl⟩
      go_wp2
      refine bodyPost_ret (v := .tuple #[.agg #[.int .i64 0, .int .i64 0, .int .i64 0], .bool false]) (by simp [results, Try.results35, go_sem]) rfl ⟨rfl, ?_⟩
      exact HS.out.2
end Go.Proofs.Ytgmagocpacpafaa
