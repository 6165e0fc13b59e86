/- Contracts of the functions that make a register of bits. -/
import Derived.Test.YtgmagocpacpafaaWBits
import Derived.Test.YtgmagocpacpafaaWJump
import Derived.Test.YtgmagocpacpafaaPlainFrom
namespace Go.Proofs.Ytgmagocpacpafaa
open Go.RowKit SS
set_option maxRecDepth 100000

set_option maxHeartbeats 1000000 in
theorem registerOf_impl (z t : Nat) (s : ByteArray) (w : World) (hz : z ≤ 8) (hs : z ≤ s.size) (hb : okB s.data.toList = true) :
    Calls Try.prog 76 #[.int .i64 z, .int .i64 t, .string s] w fun e w' => e = .returned (.agg #[.int .i64 z, .int .i64 t, .int .i64 (frm (s.data.toList.take z))]) ∧ Below w.heap.size w w' := by
  have b1 := (B3.new w 24 (.int .i64 0) (.int .i64 0) (.int .i64 0)).alloc (.cells #[.int .i64 z, .int .i64 t, .int .i64 0] 24)
  have b2 := B3.new (w.alloc (.cells #[.int .i64 0, .int .i64 0, .int .i64 0] 24)) 24 (.int .i64 z) (.int .i64 t) (.int .i64 0)
  rw [World.size_alloc] at b2
  have hw := shutBox2 (Below.refl ((w.alloc (.cells #[.int .i64 0, .int .i64 0, .int .i64 0] 24)).alloc (.cells #[.int .i64 z, .int .i64 t, .int .i64 0] 24)).heap.size _)
  have B1 := Lib.hid b1
  have B2 := Lib.hid b2
  have HW := Lib.hid hw
  have HB := Lib.hid hb
  clear b1 b2 hw hb
  go_enter Try.func76, Try.ntmps76
  go_wp2_with fail
  go_loopw [13] (fun i wr => ∃ k : Nat, k ≤ z ∧ i = .int .i64 (k : Int) ∧ B3 wr w.heap.size 24 (.int .i64 0) (.int .i64 0) (.int .i64 0) ∧ B3 wr (w.heap.size + 1) 24 (.int .i64 z) (.int .i64 t) (.int .i64 (frm (s.data.toList.take k))) ∧ Below w.heap.size w wr) (fun i _ => z - (intOf i).toNat)
  case atStart => exact ⟨0, Nat.zero_le _, rfl, B1.out, B2.out, HW.out⟩
  case round =>
    clear B1 B2 HW
    obtain ⟨k, hk, rfl, b1, b2, hwr⟩ := hrel
    by_cases hlt : k < z
    · have hll : k < s.data.toList.length := by rw [size_list]; omega
      have hks : k < s.size := by omega
      have hat := byte_at s k (by omega)
      have hfl := frm_take_lt s.data.toList k HB.out (by omega)
      have hpw : 2 ^ k ≤ 2 ^ 7 := Nat.pow_le_pow_right (by decide) (by omega)
      rcases okB_at _ HB.out k hll with h8 | h9
      · have e1 := Lib.hid (frm_zero s.data.toList k hll h8)
        rw [← hat] at h8
        have b9 : ((s[k].toNat : Int) == 49) = false := by rw [h8]; rfl
        clear hat h8 hfl hpw
        go_wp2
        go_roundw
        case rel => exact ⟨k + 1, by omega, by go_num, b1, by rw [e1.out]; exact b2, hwr⟩
        case measure => simp [intOf]; omega
      · have e1 := Lib.hid (frm_one s.data.toList k HB.out hll h9)
        rw [← hat] at h9
        have b9 : ((s[k].toNat : Int) == 49) = true := by rw [h9]; rfl
        have eo : bits .or .i64 ((frm (s.data.toList.take k) : Nat) : Int) (IntKind.i64.wrap (2 ^ k)) = ((frm (s.data.toList.take k) ||| 2 ^ k : Nat) : Int) := by
          rw [show (2 : Int) ^ k = ((2 ^ k : Nat) : Int) by simp, show IntKind.i64.wrap ((2 ^ k : Nat) : Int) = ((2 ^ k : Nat) : Int) by rw [IntKind.wrap_i64]; omega]
          exact or_i64 _ _ (by omega) (by omega)
        clear hat h9 hfl hpw
        go_wp2_with fail
        refine still_tail 6 (by kernel_rfl) (by kernel_rfl) fun W HW => ?_
        have b1' : B3 W w.heap.size 24 (.int .i64 0) (.int .i64 0) (.int .i64 0) := by rw [HW.out]; exact b1
        have b2' : B3 W (w.heap.size + 1) 24 (.int .i64 z) (.int .i64 t) (.int .i64 (frm (s.data.toList.take k))) := by rw [HW.out]; exact b2
        have hwr' : Below w.heap.size w W := by rw [HW.out]; exact hwr.drew
        clear HW b1 b2 hwr
        obtain ⟨c0, c1, c2, f0, f1, f2, hz2⟩ := b2'.facts
        simp only [List.take_succ_cons, List.take_zero, List.drop_succ_cons, List.drop_zero]
        repeat still_step
        refine wpStill_nil ?_
        go_wp2
        go_roundw
        case rel => exact ⟨k + 1, by omega, by go_num, b1'.other (by simp) _, by rw [e1.out]; exact b2'.set2 _, hwr'.setCell (by simp) _⟩
        case measure => simp [intOf]; omega
    · obtain rfl : k = z := by omega
      obtain ⟨c0, c1, c2, f0, f1, f2, hz2⟩ := b2.facts
      obtain ⟨c3, c4, c5, f3, f4, f5, hz3⟩ := b1.facts
      go_wp2
      refine bodyPost_ret (v := .agg #[.int .i64 k, .int .i64 t, .int .i64 (frm (s.data.toList.take k))]) (by simp [results, Try.results76, go_sem, c3, c4, c5]) rfl ⟨rfl, ?_⟩
      exact ((hwr.setCell (by simp) _).setCell (by simp) _).setCell (by simp) _
set_option maxHeartbeats 1000000 in
theorem from_spec (z t : Nat) (s : ByteArray) (w : World) (hz : z ≤ 8) (hs : z ≤ s.size) (hb : okB s.data.toList = true) :
    Calls Try.prog 79 #[.int .i64 z, .int .i64 t, .string s] w fun e w' => e = .returned (.agg #[.int .i64 z, .int .i64 t, .int .i64 (frm (s.data.toList.take z))]) ∧ Below w.heap.size w w' := by
  have b1 := (B3.new w 24 (.int .i64 0) (.int .i64 0) (.int .i64 0)).alloc (.cells #[.int .i64 z, .int .i64 t, .int .i64 0] 24)
  have b2 := B3.new (w.alloc (.cells #[.int .i64 0, .int .i64 0, .int .i64 0] 24)) 24 (.int .i64 z) (.int .i64 t) (.int .i64 0)
  rw [World.size_alloc] at b2
  have hw := shutBox2 (Below.refl ((w.alloc (.cells #[.int .i64 0, .int .i64 0, .int .i64 0] 24)).alloc (.cells #[.int .i64 z, .int .i64 t, .int .i64 0] 24)).heap.size _)
  have hll : (s.data.toList.take z).length = z := by rw [List.length_take, size_list]; omega
  have hot := okB_take s.data.toList z hb
  have hat : ∀ k (h : k < (s.data.toList.take z).length) (h' : k < s.size), (s.data.toList.take z)[k] = s[k] := fun k h h' => by rw [byte_at s k h', List.getElem_take]
  generalize s.data.toList.take z = L at *
  have B1 := Lib.hid b1
  have B2 := Lib.hid b2
  have HW := Lib.hid hw
  have HO := Lib.hid hot
  have HL := Lib.hid hll
  have HA := Lib.hid hat
  clear b1 b2 hw hb hot hll hat
  go_enter Try.func79, Try.ntmps79
  go_wp2_with fail
  go_loopw [8] (fun i wr => ∃ k : Nat, k ≤ z ∧ i = .int .i64 ((k : Int) - 1) ∧ B3 wr w.heap.size 24 (.int .i64 0) (.int .i64 0) (.int .i64 0) ∧ B3 wr (w.heap.size + 1) 24 (.int .i64 z) (.int .i64 t) (.int .i64 (frm (L.drop k))) ∧ Below w.heap.size w wr) (fun i _ => (intOf i + 1).toNat)
  case atStart => exact ⟨z, Nat.le_refl _, rfl, B1.out, by rw [List.drop_eq_nil_of_le (by rw [HL.out]; exact Nat.le_refl _)]; exact B2.out, HW.out⟩
  case round =>
    clear B1 B2 HW
    obtain ⟨k, hk, rfl, b1, b2, hwr⟩ := hrel
    by_cases hlt : 0 < k
    · obtain ⟨j, rfl⟩ : ∃ j, k = j + 1 := ⟨k - 1, by omega⟩
      have hj : j < L.length := by rw [HL.out]; omega
      have hjs : j < s.size := by omega
      have h89 := okB_at L HO.out j hj
      rw [HA.out j hj hjs] at h89
      have e1 := frm_drop L j hj
      rw [HA.out j hj hjs] at e1
      have hfl := frm_lt (L.drop (j + 1)) (okB_drop L (j + 1) HO.out)
      rw [List.length_drop, HL.out] at hfl
      have hpw : 2 ^ (z - (j + 1)) ≤ 2 ^ 8 := Nat.pow_le_pow_right (by decide) (by omega)
      have hf8 : frm (L.drop (j + 1)) ≤ 256 := by omega
      have E1 : Hid (2 * ((frm (L.drop (j + 1)) : Nat) : Int) + (s[j].toNat : Int) - 48 = ((frm (L.drop j) : Nat) : Int)) := by
        show _ = _
        rw [e1]; omega
      have ej : ((j + 1 : Nat) : Int) - 1 = (j : Int) := by omega
      rw [ej]
      clear e1 hfl hpw hj ej
      have hn0 : 48 ≤ s[j].toNat := by omega
      have hn1 : s[j].toNat ≤ 49 := by omega
      clear h89
      go_wp2_with fail
      refine still_tail 10 (by kernel_rfl) (by kernel_rfl) fun W HW => ?_
      have b1' : B3 W w.heap.size 24 (.int .i64 0) (.int .i64 0) (.int .i64 0) := by rw [HW.out]; exact b1
      have b2' : B3 W (w.heap.size + 1) 24 (.int .i64 z) (.int .i64 t) (.int .i64 (frm (L.drop (j + 1)))) := by rw [HW.out]; exact b2
      have hwr' : Below w.heap.size w W := by rw [HW.out]; exact hwr.drew
      clear HW b1 b2 hwr
      obtain ⟨c0, c1, c2, f0, f1, f2, hz2⟩ := b2'.facts
      simp only [List.take_succ_cons, List.take_zero, List.drop_succ_cons, List.drop_zero]
      repeat still_step
      refine wpStill_nil ?_
      go_wp2
      go_roundw
      case rel => exact ⟨j, by omega, rfl, b1'.other (by simp) _, by rw [← E1.out]; exact b2'.set2 _, hwr'.setCell (by simp) _⟩
      case measure => simp [intOf]
    · obtain rfl : k = 0 := by omega
      obtain ⟨c0, c1, c2, f0, f1, f2, hz2⟩ := b2.facts
      obtain ⟨c3, c4, c5, f3, f4, f5, hz3⟩ := b1.facts
      go_wp2
      refine bodyPost_ret (v := .agg #[.int .i64 z, .int .i64 t, .int .i64 (frm L)]) (by simp [results, Try.results79, go_sem, c3, c4, c5]) rfl ⟨rfl, ?_⟩
      exact ((hwr.setCell (by simp) _).setCell (by simp) _).setCell (by simp) _
set_option maxHeartbeats 1000000 in
theorem rfrom_yes (z t : Nat) (s : ByteArray) (w : World) (hs : s.size ≤ maxLen) (ht : tv z t = true) (hb : bitsB s.data.toList = true) (hl : s.size = z) :
    Calls Try.prog 24 #[.int .i64 z, .int .i64 t, .string s] w fun e w' => e = .returned (.tuple #[.agg #[.int .i64 z, .int .i64 t, .int .i64 (frm s.data.toList)], .bool true]) ∧ Below w.heap.size w w' := by
  have hz := (tv_yes ht).2.1
  have hok : Hid (okB s.data.toList = true) := by
    unfold bitsB at hb; rw [Bool.and_eq_true] at hb; exact hb.2
  have et : Hid (s.data.toList.take z = s.data.toList) := by rw [← hl, ← size_list]; exact List.take_length
  have HLE : Hid (z ≤ s.size) := by rw [hl]; exact Nat.le_refl z
  have hne : ((s.size : Int) != (z : Int)) = false := by rw [hl]; simp
  clear hl
  go_enter Try.func24, Try.ntmps24
  go_wp2_with fail
  refine (taps_impl _ _ _).mono ?_
  rintro e w1 ⟨rfl, rfl⟩
  go_wp2_with fail
  refine (isBits_impl _ _ hs).mono ?_
  rintro e w1 ⟨rfl, rfl⟩
  go_wp2_with fail
  refine (registerOf_impl z t s _ (by omega) HLE.out hok.out).mono ?_
  rintro e w2 ⟨rfl, hb2⟩
  rw [et.out]
  have b1 := (B3.new w 24 (.int .i64 0) (.int .i64 0) (.int .i64 0)).below hb2 (by simp)
  have hw := shutBox hb2
  clear hb2
  obtain ⟨c3, c4, c5, f3, f4, f5, hz3⟩ := b1.facts
  go_wp2
  refine bodyPost_ret (v := .tuple #[.agg #[.int .i64 z, .int .i64 t, .int .i64 (frm s.data.toList)], .bool true]) (by simp [results, Try.results24, go_sem, c3, c4, c5]) rfl ⟨rfl, ?_⟩
  exact ((hw.setCell (by simp) _).setCell (by simp) _).setCell (by simp) _
set_option maxHeartbeats 1000000 in
theorem rfrom_no (z t : Int) (s : ByteArray) (w : World) (hs : s.size ≤ maxLen) (hn : ¬ (tv z t = true ∧ bitsB s.data.toList = true ∧ (s.size : Int) = z)) :
    Calls Try.prog 24 #[.int .i64 z, .int .i64 t, .string s] w fun e w' => e = .returned (.tuple #[.agg #[.int .i64 0, .int .i64 0, .int .i64 0], .bool false]) ∧ Below w.heap.size w w' := by
  cases ht : tv z t with
  | false =>
    clear hn
    go_enter Try.func24, Try.ntmps24
    go_wp2_with fail
    refine (taps_impl _ _ _).mono ?_
    rintro e w1 ⟨rfl, rfl⟩
    go_wp2
    refine bodyPost_ret (v := .tuple #[.agg #[.int .i64 0, .int .i64 0, .int .i64 0], .bool false]) (by simp [results, Try.results24, go_sem]) rfl ⟨rfl, ?_⟩
    exact (Below.refl _ _).alloc (Nat.le_refl _) _
  | true =>
    cases hb : bitsB s.data.toList with
    | false =>
      clear hn
      go_enter Try.func24, Try.ntmps24
      go_wp2_with fail
      refine (taps_impl _ _ _).mono ?_
      rintro e w1 ⟨rfl, rfl⟩
      go_wp2_with fail
      refine (isBits_impl _ _ hs).mono ?_
      rintro e w1 ⟨rfl, rfl⟩
      go_wp2
      refine bodyPost_ret (v := .tuple #[.agg #[.int .i64 0, .int .i64 0, .int .i64 0], .bool false]) (by simp [results, Try.results24, go_sem]) rfl ⟨rfl, ?_⟩
      exact (Below.refl _ _).alloc (Nat.le_refl _) _
    | true =>
      have hne : ((s.size : Int) != z) = true := by
        rw [bne_iff_ne]
        exact fun h => hn ⟨ht, hb, h⟩
      clear hn
      go_enter Try.func24, Try.ntmps24
      go_wp2_with fail
      refine (taps_impl _ _ _).mono ?_
      rintro e w1 ⟨rfl, rfl⟩
      go_wp2_with fail
      refine (isBits_impl _ _ hs).mono ?_
      rintro e w1 ⟨rfl, rfl⟩
      go_wp2
      refine bodyPost_ret (v := .tuple #[.agg #[.int .i64 0, .int .i64 0, .int .i64 0], .bool false]) (by simp [results, Try.results24, go_sem]) rfl ⟨rfl, ?_⟩
      exact (Below.refl _ _).alloc (Nat.le_refl _) _
set_option maxHeartbeats 1000000 in
theorem srfrom_yes (z t : Nat) (s : ByteArray) (w : World) (hs : s.size ≤ maxLen) (ht : tv z t = true) (hb : bitsB s.data.toList = true) (hl : s.size = z) :
    Calls Try.prog 25 #[.int .i64 z, .int .i64 t, .string s] w fun e w' => e = .returned (.tuple #[.agg #[.int .i64 z, .int .i64 t, .int .i64 (frm s.data.toList)], .bool true]) ∧ Below w.heap.size w w' := by
  have hz := (tv_yes ht).2.1
  have hok : Hid (okB s.data.toList = true) := by
    unfold bitsB at hb; rw [Bool.and_eq_true] at hb; exact hb.2
  have et : Hid (s.data.toList.take z = s.data.toList) := by rw [← hl, ← size_list]; exact List.take_length
  have HLE : Hid (z ≤ s.size) := by rw [hl]; exact Nat.le_refl z
  have hne : ((s.size : Int) != (z : Int)) = false := by rw [hl]; simp
  clear hl
  go_enter Try.func25, Try.ntmps25
  go_wp2_with fail
  refine (taps_spec _ _ _).mono ?_
  rintro e w1 ⟨rfl, rfl⟩
  go_wp2_with fail
  refine (bits_spec _ _ hs).mono ?_
  rintro e w1 ⟨rfl, rfl⟩
  go_wp2_with fail
  refine (from_spec z t s _ (by omega) HLE.out hok.out).mono ?_
  rintro e w2 ⟨rfl, hb2⟩
  rw [et.out]
  have b1 := (B3.new w 24 (.int .i64 0) (.int .i64 0) (.int .i64 0)).below hb2 (by simp)
  have hw := shutBox hb2
  clear hb2
  obtain ⟨c3, c4, c5, f3, f4, f5, hz3⟩ := b1.facts
  go_wp2
  refine bodyPost_ret (v := .tuple #[.agg #[.int .i64 z, .int .i64 t, .int .i64 (frm s.data.toList)], .bool true]) (by simp [results, Try.results25, go_sem, c3, c4, c5]) rfl ⟨rfl, ?_⟩
  exact ((hw.setCell (by simp) _).setCell (by simp) _).setCell (by simp) _
set_option maxHeartbeats 1000000 in
theorem srfrom_no (z t : Int) (s : ByteArray) (w : World) (hs : s.size ≤ maxLen) (hn : ¬ (tv z t = true ∧ bitsB s.data.toList = true ∧ (s.size : Int) = z)) :
    Calls Try.prog 25 #[.int .i64 z, .int .i64 t, .string s] w fun e w' => e = .returned (.tuple #[.agg #[.int .i64 0, .int .i64 0, .int .i64 0], .bool false]) ∧ Below w.heap.size w w' := by
  cases ht : tv z t with
  | false =>
    clear hn
    go_enter Try.func25, Try.ntmps25
    go_wp2_with fail
    refine (taps_spec _ _ _).mono ?_
    rintro e w1 ⟨rfl, rfl⟩
    go_wp2
    refine bodyPost_ret (v := .tuple #[.agg #[.int .i64 0, .int .i64 0, .int .i64 0], .bool false]) (by simp [results, Try.results25, go_sem]) rfl ⟨rfl, ?_⟩
    exact (Below.refl _ _).alloc (Nat.le_refl _) _
  | true =>
    cases hb : bitsB s.data.toList with
    | false =>
      clear hn
      go_enter Try.func25, Try.ntmps25
      go_wp2_with fail
      refine (taps_spec _ _ _).mono ?_
      rintro e w1 ⟨rfl, rfl⟩
      go_wp2_with fail
      refine (bits_spec _ _ hs).mono ?_
      rintro e w1 ⟨rfl, rfl⟩
      go_wp2
      refine bodyPost_ret (v := .tuple #[.agg #[.int .i64 0, .int .i64 0, .int .i64 0], .bool false]) (by simp [results, Try.results25, go_sem]) rfl ⟨rfl, ?_⟩
      exact (Below.refl _ _).alloc (Nat.le_refl _) _
    | true =>
      have hne : ((s.size : Int) != z) = true := by
        rw [bne_iff_ne]
        exact fun h => hn ⟨ht, hb, h⟩
      clear hn
      go_enter Try.func25, Try.ntmps25
      go_wp2_with fail
      refine (taps_spec _ _ _).mono ?_
      rintro e w1 ⟨rfl, rfl⟩
      go_wp2_with fail
      refine (bits_spec _ _ hs).mono ?_
      rintro e w1 ⟨rfl, rfl⟩
      go_wp2
      refine bodyPost_ret (v := .tuple #[.agg #[.int .i64 0, .int .i64 0, .int .i64 0], .bool false]) (by simp [results, Try.results25, go_sem]) rfl ⟨rfl, ?_⟩
      exact (Below.refl _ _).alloc (Nat.le_refl _) _
end Go.Proofs.Ytgmagocpacpafaa
