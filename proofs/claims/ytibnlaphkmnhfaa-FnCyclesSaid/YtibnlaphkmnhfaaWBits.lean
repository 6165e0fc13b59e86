/- Contracts of the functions that ask whether a string is bits. -/
import Derived.Test.YtibnlaphkmnhfaaWBase
import Derived.Test.YtibnlaphkmnhfaaWPar
import Derived.Test.YtibnlaphkmnhfaaPlainStr
namespace Go.Proofs.Ytibnlaphkmnhfaa
open Go.RowKit SS
set_option maxRecDepth 100000

theorem byte_at (s : ByteArray) (k : Nat) (h : k < s.size) : s[k] = s.data.toList[k]'(by simpa using h) := by
  simp [ByteArray.getElem_eq_getElem_data]
theorem size_list (s : ByteArray) : s.data.toList.length = s.size := by simp

set_option maxHeartbeats 1000000 in
theorem isBits_impl (s : ByteArray) (w : World) (hs : s.size ≤ maxLen) :
    Calls Try.prog 96 #[.string s] w fun e w' => e = .returned (.bool (bitsB s.data.toList)) ∧ w = w' := by
  unfold maxLen at hs
  by_cases hl : s.size ≤ 600
  · have hd : decide ((600 : Int) < (s.size : Int)) = false := by simp; omega
    have E : Hid (bitsB s.data.toList = okB s.data.toList) := by show _ = _; unfold bitsB; rw [size_list]; simp [hl]
    go_enter Try.func96, Try.ntmps96
    go_wp2
    go_loop [9] (fun i => ∃ k : Nat, k ≤ s.size ∧ i = .int .i64 k ∧ okB (s.data.toList.take k) = true) (fun i => s.size - (intOf i).toNat)
    case atStart => exact ⟨0, Nat.zero_le _, rfl, rfl⟩
    case round =>
      obtain ⟨k, hk, rfl, hok⟩ := hrel
      have HOK := Lib.hid hok
      clear hok
      by_cases hlt : k < s.size
      · have hll : k < s.data.toList.length := by rw [size_list]; exact hlt
        have hat := byte_at s k hlt
        have hstep := okB_take_succ s.data.toList k hll
        rw [HOK.out, Bool.true_and, ← hat] at hstep
        have HST := Lib.hid hstep
        have hF : isBit s[k] = false → okB s.data.toList = false := fun h => okB_false _ k hll (by rw [← hat]; exact h)
        have HF := Lib.hid hF
        clear hat hstep hF
        by_cases h8 : s[k].toNat = 48
        · have HB := Lib.hid (HST.out.trans (isBit_yes _ (.inl h8)))
          have b8 : ((s[k].toNat : Int) != 48) = false := by simp [h8]
          clear h8
          go_wp2
          go_round
          case rel => exact ⟨k + 1, by omega, by go_num, HB.out⟩
          case measure => simp [intOf]; omega
        · by_cases h9 : s[k].toNat = 49
          · have HB := Lib.hid (HST.out.trans (isBit_yes _ (.inr h9)))
            have b8 : ((s[k].toNat : Int) != 48) = true := by simp [h9]
            have b9 : ((s[k].toNat : Int) != 49) = false := by simp [h9]
            clear h8 h9
            go_wp2
            go_round
            case rel => exact ⟨k + 1, by omega, by go_num, HB.out⟩
            case measure => simp [intOf]; omega
          · have HB := Lib.hid (HF.out (isBit_no _ h8 h9))
            have b8 : ((s[k].toNat : Int) != 48) = true := by rw [bne_iff_ne]; omega
            have b9 : ((s[k].toNat : Int) != 49) = true := by rw [bne_iff_ne]; omega
            clear h8 h9
            go_wp2
            go_ret
            exact ⟨ret_bool (E.out.trans HB.out).symm, rfl⟩
      · have hkk : k = s.size := by omega
        have HB : Hid (okB s.data.toList = true) := by
          have h := HOK.out
          rw [hkk, ← size_list, List.take_length] at h
          exact h
        clear hkk
        go_wp2
        go_ret
        exact ⟨ret_bool (E.out.trans HB.out).symm, rfl⟩
  · have hd : decide ((600 : Int) < (s.size : Int)) = true := by simp; omega
    have E : Hid (bitsB s.data.toList = false) := by show _ = _; unfold bitsB; rw [size_list]; simp [hl]
    go_enter Try.func96, Try.ntmps96
    go_wp2
    go_ret
    exact ⟨ret_bool E.out.symm, rfl⟩
set_option maxHeartbeats 1000000 in
theorem bits_spec (s : ByteArray) (w : World) (hs : s.size ≤ maxLen) :
    Calls Try.prog 94 #[.string s] w fun e w' => e = .returned (.bool (bitsB s.data.toList)) ∧ w = w' := by
  unfold maxLen at hs
  have E1 : Hid (okB s.data.toList = false → bitsB s.data.toList = false) := by show _ → _; intro h; unfold bitsB; simp [h]
  have E2 : Hid (okB s.data.toList = true → bitsB s.data.toList = decide (s.size ≤ 600)) := by show _ → _; intro h; unfold bitsB; rw [size_list]; simp [h]
  go_enter Try.func94, Try.ntmps94
  go_wp2
  go_loop [3] (fun i => ∃ k : Nat, k ≤ s.size ∧ i = .int .i64 k ∧ okB (s.data.toList.take k) = true) (fun i => s.size - (intOf i).toNat)
  case atStart => exact ⟨0, Nat.zero_le _, rfl, rfl⟩
  case round =>
    obtain ⟨k, hk, rfl, hok⟩ := hrel
    have HOK := Lib.hid hok
    clear hok
    by_cases hlt : k < s.size
    · have hll : k < s.data.toList.length := by rw [size_list]; exact hlt
      have hat := byte_at s k hlt
      have hstep := okB_take_succ s.data.toList k hll
      rw [HOK.out, Bool.true_and, ← hat] at hstep
      have HST := Lib.hid hstep
      have hF : isBit s[k] = false → okB s.data.toList = false := fun h => okB_false _ k hll (by rw [← hat]; exact h)
      have HF := Lib.hid hF
      clear hat hstep hF
      by_cases h8 : s[k].toNat = 48
      · have HB := Lib.hid (HST.out.trans (isBit_yes _ (.inl h8)))
        have b8 : ((s[k].toNat : Int) != 48) = false := by simp [h8]
        clear h8
        go_wp2
        go_round
        case rel => exact ⟨k + 1, by omega, by go_num, HB.out⟩
        case measure => simp [intOf]; omega
      · by_cases h9 : s[k].toNat = 49
        · have HB := Lib.hid (HST.out.trans (isBit_yes _ (.inr h9)))
          have b8 : ((s[k].toNat : Int) != 48) = true := by simp [h9]
          have b9 : ((s[k].toNat : Int) != 49) = false := by simp [h9]
          clear h8 h9
          go_wp2
          go_round
          case rel => exact ⟨k + 1, by omega, by go_num, HB.out⟩
          case measure => simp [intOf]; omega
        · have HB := Lib.hid (HF.out (isBit_no _ h8 h9))
          have b8 : ((s[k].toNat : Int) != 48) = true := by rw [bne_iff_ne]; omega
          have b9 : ((s[k].toNat : Int) != 49) = true := by rw [bne_iff_ne]; omega
          clear h8 h9
          go_wp2
          go_ret
          exact ⟨ret_bool (E1.out HB.out).symm, rfl⟩
    · have hkk : k = s.size := by omega
      have HB : Hid (okB s.data.toList = true) := by
        have h := HOK.out
        rw [hkk, ← size_list, List.take_length] at h
        exact h
      clear hkk
      go_wp2
      go_ret
      exact ⟨ret_bool (by rw [E2.out HB.out, decide_eq_decide]; omega), rfl⟩
end Go.Proofs.Ytibnlaphkmnhfaa
