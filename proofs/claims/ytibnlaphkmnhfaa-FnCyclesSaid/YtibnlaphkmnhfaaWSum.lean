/- Contracts of the functions that count in sequences. -/
import Derived.Test.YtibnlaphkmnhfaaWFill
import Derived.Test.YtibnlaphkmnhfaaPlainSum
namespace Go.Proofs.Ytibnlaphkmnhfaa
open Go.RowKit SS
set_option maxRecDepth 100000

theorem sg_val (c : UInt8) (p : Nat) (hc : c.toNat = p) : sg c = if p = 49 then 1 else -1 := by
  unfold sg
  by_cases h : c = 49
  · rw [if_pos h, if_pos (by rw [← hc, h]; rfl)]
  · rw [if_neg h, if_neg (fun e => h (u8_inj (by rw [hc, e]; rfl)))]
theorem eqv_val (c d : UInt8) (p q : Nat) (hc : c.toNat = p) (hd : d.toNat = q) : eqv c d = if p = q then 1 else -1 := by
  unfold eqv
  by_cases h : c = d
  · rw [if_pos h, if_pos (by rw [← hc, ← hd, h])]
  · rw [if_neg h, if_neg (fun e => h (u8_inj (by omega)))]
theorem sum_step (n : Nat) (f : Nat → Int) (v : Int) (h : f n = v) : sumTo (n + 1) f = sumTo n f + v := by rw [sumTo, h]
set_option maxHeartbeats 1000000 in
theorem bal_impl (s : ByteArray) (w : World) (hs : sv s.data.toList = true) :
    Calls Try.prog 29 #[.string s] w fun e w' => e = .returned (.tuple #[.int .i64 (bal s.data.toList), .bool true]) ∧ w = w' := by
  obtain ⟨h1, h2, ho⟩ := sv_yes hs
  have HO := Lib.hid ho
  clear ho
  rw [size_list] at h1 h2
  have C := Lib.hid fun w => seq_impl s w (by unfold maxLen; omega)
  go_enter Try.func29, Try.ntmps29
  go_wp2_with fail
  refine (C.out _).mono ?_
  rintro e w1 ⟨rfl, rfl⟩
  go_wp2_with fail
  go_loop [4, 11] (fun b i => ∃ j : Nat, j ≤ s.size ∧ i = .int .i64 (j : Int) ∧ b = .int .i64 (sumTo j fun i => sg (at_ s.data.toList i))) (fun _ i => s.size - (intOf i).toNat)
  case atStart => exact ⟨0, Nat.zero_le _, rfl, rfl⟩
  case round =>
    obtain ⟨j, hj, rfl, rfl⟩ := hrel
    by_cases hlt : j < s.size
    · obtain ⟨hs0, hs1⟩ := sumTo_bound j (fun i => sg (at_ s.data.toList i)) fun _ _ => sg_bd _
      have E8 := Lib.hid (sum_step j (fun i => sg (at_ s.data.toList i)) _ (sg_val _ _ (congrArg UInt8.toNat (at_ba s j hlt))))
      generalize (sumTo j fun i => sg (at_ s.data.toList i)) = m at *
      rcases ba_bit s HO.out j hlt with ea | ea
      all_goals
        rw [ea] at E8
        go_wp2
        go_round
        case rel => exact ⟨j + 1, by omega, by go_num, by rw [E8.out]; rfl⟩
        case measure => simp [intOf]; omega
    · obtain rfl : j = s.size := by omega
      go_wp2
      go_ret2
      exact ⟨by rw [bal, size_list]; rfl, rfl⟩
theorem bal_impl_no (s : ByteArray) (w : World) (hl : s.size ≤ maxLen) (hs : sv s.data.toList = false) :
    Calls Try.prog 29 #[.string s] w fun e w' => e = .returned (.tuple #[.int .i64 0, .bool false]) ∧ w = w' := by
  have C0 := Lib.hid fun w => seq_impl s w hl
  go_enter Try.func29, Try.ntmps29
  go_wp2_with fail
  refine (C0.out _).mono ?_
  rintro e w1 ⟨rfl, rfl⟩
  go_wp2
  go_ret2
  exact ⟨rfl, rfl⟩
set_option maxHeartbeats 1000000 in
theorem balance_spec (s : ByteArray) (w : World) (h2 : s.size ≤ 255) (ho : okB s.data.toList = true) :
    Calls Try.prog 74 #[.string s] w fun e w' => e = .returned (.int .i64 (bal s.data.toList)) ∧ w = w' := by
  have HO := Lib.hid ho
  clear ho
  go_enter Try.func74, Try.ntmps74
  go_wp2_with fail
  go_loop [3, 4] (fun b i => ∃ j : Nat, j ≤ s.size ∧ i = .int .i64 (j : Int) ∧ b = .int .i64 (sumTo j fun i => sg (at_ s.data.toList i))) (fun _ i => s.size - (intOf i).toNat)
  case atStart => exact ⟨0, Nat.zero_le _, rfl, rfl⟩
  case round =>
    obtain ⟨j, hj, rfl, rfl⟩ := hrel
    by_cases hlt : j < s.size
    · obtain ⟨hs0, hs1⟩ := sumTo_bound j (fun i => sg (at_ s.data.toList i)) fun _ _ => sg_bd _
      have E8 := Lib.hid (sum_step j (fun i => sg (at_ s.data.toList i)) _ (sg_val _ _ (congrArg UInt8.toNat (at_ba s j hlt))))
      generalize (sumTo j fun i => sg (at_ s.data.toList i)) = m at *
      rcases ba_bit s HO.out j hlt with ea | ea
      all_goals
        rw [ea] at E8
        go_wp2
        go_round
        case rel => exact ⟨j + 1, by omega, by go_num, by rw [E8.out]; go_num⟩
        case measure => simp [intOf]; omega
    · obtain rfl : j = s.size := by omega
      go_wp2
      go_ret
      exact ⟨by rw [bal, size_list]; rfl, rfl⟩
theorem sbal_yes (s : ByteArray) (w : World) (hs : sv s.data.toList = true) :
    Calls Try.prog 34 #[.string s] w fun e w' => e = .returned (.tuple #[.int .i64 (bal s.data.toList), .bool true]) ∧ w = w' := by
  obtain ⟨h1, h2, ho⟩ := sv_yes hs
  rw [size_list] at h1 h2
  have C0 := Lib.hid fun w => seq_spec s w (by unfold maxLen; omega)
  have C1 := Lib.hid fun w => balance_spec s w h2 ho
  go_enter Try.func34, Try.ntmps34
  go_wp2_with fail
  refine (C0.out _).mono ?_
  rintro e w1 ⟨rfl, rfl⟩
  go_wp2_with fail
  refine (C1.out _).mono ?_
  rintro e w1 ⟨rfl, rfl⟩
  go_wp2
  go_ret2
  exact ⟨rfl, rfl⟩
theorem sbal_no (s : ByteArray) (w : World) (hl : s.size ≤ maxLen) (hs : sv s.data.toList = false) :
    Calls Try.prog 34 #[.string s] w fun e w' => e = .returned (.tuple #[.int .i64 0, .bool false]) ∧ w = w' := by
  have C0 := Lib.hid fun w => seq_spec s w hl
  go_enter Try.func34, Try.ntmps34
  go_wp2_with fail
  refine (C0.out _).mono ?_
  rintro e w1 ⟨rfl, rfl⟩
  go_wp2
  go_ret2
  exact ⟨rfl, rfl⟩
theorem in_of (n l h : Int) (v : Bool) (hv : decide (l ≤ n ∧ n ≤ h) = v) (w : World) :
    Calls Try.prog 95 #[.int .i64 n, .int .i64 l, .int .i64 h] w fun e w' => e = .returned (.bool v) ∧ w = w' := by
  rw [← hv]
  exact in_spec n l h w
theorem mod_next (i k n : Nat) (hn : 0 < n) : (i + 1 + k) % n = if (i + k) % n + 1 = n then 0 else (i + k) % n + 1 := by
  have h := Nat.mod_lt (i + k) hn
  have e : (i + 1 + k) % n = ((i + k) % n + 1) % n := by
    rw [Nat.mod_add_mod]; congr 1; omega
  rw [e]
  split
  · rename_i hq
    rw [hq, Nat.mod_self]
  · exact Nat.mod_eq_of_lt (by omega)
theorem cor_step (a b : List UInt8) (k j : Nat) (p q : Nat) (ha : okB a = true) (hb : okB b = true) (hp : (at_ a j).toNat = p) (hq : (at_ b ((j + k) % b.length)).toNat = q) (e : Nat)
    (h : 2 * (e : Int) - j = sumTo j fun i => sg (at_ a i) * sg (at_ b ((i + k) % b.length))) :
    2 * ((e + if p = q then 1 else 0 : Nat) : Int) - ((j + 1 : Nat) : Int) = sumTo (j + 1) fun i => sg (at_ a i) * sg (at_ b ((i + k) % b.length)) := by
  rw [sumTo, sg_mul _ _ (ok_at a ha _) (ok_at b hb _), eqv_val _ _ p q hp hq, ← h]
  split <;> omega
set_option maxHeartbeats 1000000 in
theorem corr_impl (a b : ByteArray) (k : Nat) (w : World) (hl : a.size = b.size) (h2 : a.size ≤ 255) (hk : k < b.size) (ha : okB a.data.toList = true) (hb : okB b.data.toList = true) :
    Calls Try.prog 70 #[.string a, .string b, .int .i64 k] w fun e w' => e = .returned (.int .i64 (cor a.data.toList b.data.toList k)) ∧ ∃ n, w' = w.drewN n := by
  have HA := Lib.hid ha
  have HB := Lib.hid hb
  have HL := Lib.hid hl
  have hl1 : a.size ≤ b.size := by omega
  have hl2 : b.size ≤ a.size := by omega
  clear ha hb hl
  go_enter Try.func70, Try.ntmps70
  go_wp2_with fail
  go_loopw [7, 8, 13] (fun q m i wr => ∃ j e n : Nat, j ≤ a.size ∧ e ≤ j ∧ i = .int .i64 (j : Int) ∧ q = .int .i64 (e : Int) ∧ m = .int .i64 (((j + k) % b.size : Nat) : Int) ∧ 2 * (e : Int) - j = (sumTo j fun i => sg (at_ a.data.toList i) * sg (at_ b.data.toList ((i + k) % b.size))) ∧ wr = w.drewN n) (fun _ _ i _ => a.size - (intOf i).toNat)
  case atStart => exact ⟨0, 0, 0, Nat.zero_le _, Nat.le_refl _, rfl, rfl, by rw [Nat.zero_add, Nat.mod_eq_of_lt hk], rfl, rfl⟩
  case round =>
    obtain ⟨j, e, n, hj, he, rfl, rfl, rfl, hsum, rfl⟩ := hrel
    have HS := Lib.hid hsum
    clear hsum
    by_cases hlt : j < a.size
    · have hm : (j + k) % b.size < b.size := Nat.mod_lt _ (by omega)
      have EN := Lib.hid (mod_next j k b.size (by omega))
      have E8 := Lib.hid (fun e h => cor_step a.data.toList b.data.toList k j a[j].toNat (b[(j + k) % b.size]'hm).toNat HA.out HB.out (congrArg UInt8.toNat (at_ba a j hlt)) (by rw [size_list, at_ba b _ hm]) e h)
      rw [size_list] at E8
      have E9 := Lib.hid (E8.out e HS.out)
      clear E8 HS
      generalize (j + k) % b.size = m at *
      have hlt2 : j < b.size := by omega
      by_cases hq : a[j].toNat = b[m].toNat
      · have hc : ((a[j].toNat : Int) == (b[m].toNat : Int)) = true := by simp [hq]
        rw [if_pos hq] at E9
        clear hq
        by_cases hn : m + 1 = b.size
        · have hc2 : ((m : Int) + 1 == (b.size : Int)) = true := by rw [beq_iff_eq]; omega
          rw [if_pos hn] at EN
          clear hn
          go_wp2_with fail
          go_quiet (fail)
          go_wp2
          go_roundw
          case rel => exact ⟨j + 1, e + 1, _, by omega, by omega, by go_num, by go_num, by rw [EN.out]; rfl, E9.out, by first | rfl | exact World.drewN_drewN _ _ _⟩
          case measure => simp [intOf]; omega
        · have hc2 : ((m : Int) + 1 == (b.size : Int)) = false := by rw [beq_eq_false_iff_ne]; omega
          rw [if_neg hn] at EN
          clear hn
          go_wp2_with fail
          go_quiet (fail)
          go_wp2
          go_roundw
          case rel => exact ⟨j + 1, e + 1, _, by omega, by omega, by go_num, by go_num, by rw [EN.out]; go_num, E9.out, by first | rfl | exact World.drewN_drewN _ _ _⟩
          case measure => simp [intOf]; omega
      · have hc : ((a[j].toNat : Int) == (b[m].toNat : Int)) = false := by rw [beq_eq_false_iff_ne]; omega
        rw [if_neg hq] at E9
        clear hq
        by_cases hn : m + 1 = b.size
        · have hc2 : ((m : Int) + 1 == (b.size : Int)) = true := by rw [beq_iff_eq]; omega
          rw [if_pos hn] at EN
          clear hn
          go_wp2_with fail
          go_quiet (fail)
          go_wp2
          go_roundw
          case rel => exact ⟨j + 1, e, _, by omega, by omega, by go_num, rfl, by rw [EN.out]; rfl, E9.out, by first | rfl | exact World.drewN_drewN _ _ _⟩
          case measure => simp [intOf]; omega
        · have hc2 : ((m : Int) + 1 == (b.size : Int)) = false := by rw [beq_eq_false_iff_ne]; omega
          rw [if_neg hn] at EN
          clear hn
          go_wp2_with fail
          go_quiet (fail)
          go_wp2
          go_roundw
          case rel => exact ⟨j + 1, e, _, by omega, by omega, by go_num, rfl, by rw [EN.out]; go_num, E9.out, by first | rfl | exact World.drewN_drewN _ _ _⟩
          case measure => simp [intOf]; omega
    · obtain rfl : j = a.size := by omega
      go_wp2
      go_ret
      exact ⟨ret_int (by rw [HS.out, cor, size_list, size_list]), _, rfl⟩
end Go.Proofs.Ytibnlaphkmnhfaa
