/- Contracts of the functions that count in sequences. -/
import Derived.Test.YtgmagocpacpafaaWFill
import Derived.Test.YtgmagocpacpafaaPlainSum
namespace Go.Proofs.Ytgmagocpacpafaa
open Go.RowKit SS
set_option maxRecDepth 100000

theorem sg_val (c : UInt8) (p : Nat) (hc : c.toNat = p) : sg c = if p = 49 then 1 else -1 := by
  unfold sg
  by_cases h : c = 49
  · rw [if_pos h, if_pos (by rw [← hc, h]; rfl)]
  · rw [if_neg h, if_neg (fun e => h (u8_inj (by rw [hc, e]; rfl)))]
theorem eqv_val (c d : UInt8) (p q : Nat) (hc : c.toNat = p) (hd : d.toNat = q) : eqv c d = if p = q then 1 else -1 := by
  unfold eqv
  by_cases h : c = d
  · rw [if_pos h, if_pos (by rw [← hc, ← hd, h])]
  · rw [if_neg h, if_neg (fun e => h (u8_inj (by omega)))]
theorem sum_step (n : Nat) (f : Nat → Int) (v : Int) (h : f n = v) : sumTo (n + 1) f = sumTo n f + v := by rw [sumTo, h]
set_option maxHeartbeats 1000000 in
theorem apr_impl (s : ByteArray) (k : Nat) (w : World) (hs : sv s.data.toList = true) (hk : k < s.size) :
    Calls Try.prog 59 #[.string s, .int .i64 k] w fun e w' => e = .returned (.tuple #[.int .i64 (apr s.data.toList k), .bool true]) ∧ ∃ n, w' = w.drewN n := by
  obtain ⟨h1, h2, ho⟩ := sv_yes hs
  have HO := Lib.hid ho
  clear ho
  rw [size_list] at h1 h2
  have C := Lib.hid fun w => seq_impl s w (by unfold maxLen; omega)
  have k1 : decide ((k : Int) < 0) = false := by simp
  have k2 : decide ((s.size : Int) ≤ (k : Int)) = false := by simp; omega
  have k3 : decide (s.size ≤ k) = false := by simp; omega
  go_enter Try.func59, Try.ntmps59
  go_wp2_with fail
  refine (C.out _).mono ?_
  rintro e w1 ⟨rfl, rfl⟩
  go_wp2_with fail
  go_loopw [6, 25] (fun b i wr => ∃ j n : Nat, j ≤ s.size - k ∧ i = .int .i64 (j : Int) ∧ b = .int .i64 (sumTo j fun i => eqv (at_ s.data.toList i) (at_ s.data.toList (i + k))) ∧ wr = w.drewN n) (fun _ i _ => s.size - (intOf i).toNat)
  case atStart => exact ⟨0, 0, Nat.zero_le _, rfl, rfl, rfl⟩
  case round =>
    obtain ⟨j, n, hj, rfl, rfl, rfl⟩ := hrel
    by_cases hlt : j < s.size - k
    · obtain ⟨hs0, hs1⟩ := sumTo_bound j (fun i => eqv (at_ s.data.toList i) (at_ s.data.toList (i + k))) fun _ _ => eqv_bd _ _
      have hj1 : j < s.size := by omega
      have hj2 : j + k < s.size := by omega
      have E8 := Lib.hid (sum_step j (fun i => eqv (at_ s.data.toList i) (at_ s.data.toList (i + k))) _ (eqv_val _ _ _ _ (congrArg UInt8.toNat (at_ba s j hj1)) (congrArg UInt8.toNat (at_ba s (j + k) hj2))))
      generalize (sumTo j fun i => eqv (at_ s.data.toList i) (at_ s.data.toList (i + k))) = m at *
      have hw : IntKind.i64.wrap ((j : Int) + k) = (j : Int) + k := by rw [IntKind.wrap_i64]; omega
      have hz : 0 ≤ (j : Int) + k := by omega
      have ht : ((j : Int) + k).toNat = j + k := by omega
      have hlt' : (j : Int) < (s.size : Int) - k := by omega
      have hq : (j : Int) + k < (s.size : Int) := by omega
      by_cases he : s[j].toNat = s[j + k].toNat
      · have hc : ((s[j].toNat : Int) == (s[j + k].toNat : Int)) = true := by simp [he]
        have EE := Lib.hid (E8.out.trans (by rw [if_pos he]))
        clear he E8
        go_wp2_with fail
        go_quiet (fail)
        clear hw
        go_wp2
        go_roundw
        case rel => exact ⟨j + 1, _, by omega, by go_num, by rw [EE.out], by first | rfl | exact World.drewN_drewN _ _ _⟩
        case measure => simp [intOf]; omega
      · have hc : ((s[j].toNat : Int) == (s[j + k].toNat : Int)) = false := by rw [beq_eq_false_iff_ne]; omega
        have EE := Lib.hid (E8.out.trans (by rw [if_neg he]))
        clear he E8
        go_wp2_with fail
        go_quiet (fail)
        clear hw
        go_wp2
        go_roundw
        case rel => exact ⟨j + 1, _, by omega, by go_num, by rw [EE.out]; go_num, by first | rfl | exact World.drewN_drewN _ _ _⟩
        case measure => simp [intOf]; omega
    · obtain rfl : j = s.size - k := by omega
      have hd : decide (((s.size - k : Nat) : Int) < (s.size : Int) - k) = false := by simp; omega
      go_wp2
      go_ret2
      exact ⟨by rw [apr, size_list]; rfl, _, rfl⟩
theorem apr_impl_no (s : ByteArray) (k : Int) (w : World) (hl : s.size ≤ maxLen) (hs : sv s.data.toList = false ∨ k < 0 ∨ (s.size : Int) ≤ k) :
    Calls Try.prog 59 #[.string s, .int .i64 k] w fun e w' => e = .returned (.tuple #[.int .i64 0, .bool false]) ∧ ∃ n, w' = w.drewN n := by
  have C := Lib.hid fun w => seq_impl s w hl
  cases hv : sv s.data.toList with
  | false =>
    clear hs
    go_enter Try.func59, Try.ntmps59
    go_wp2_with fail
    refine (C.out _).mono ?_
    rintro e w1 ⟨rfl, rfl⟩
    go_wp2
    go_ret2
    exact ⟨rfl, 0, rfl⟩
  | true =>
    by_cases h0 : k < 0
    · have k1 : decide (k < 0) = true := decide_eq_true h0
      clear hs
      go_enter Try.func59, Try.ntmps59
      go_wp2_with fail
      refine (C.out _).mono ?_
      rintro e w1 ⟨rfl, rfl⟩
      go_wp2
      go_ret2
      exact ⟨rfl, 0, rfl⟩
    · have k1 : decide (k < 0) = false := decide_eq_false h0
      have k2 : decide ((s.size : Int) ≤ k) = true := decide_eq_true (by rw [hv] at hs; rcases hs with h | h | h <;> first | omega | cases h)
      clear hs
      go_enter Try.func59, Try.ntmps59
      go_wp2_with fail
      refine (C.out _).mono ?_
      rintro e w1 ⟨rfl, rfl⟩
      go_wp2
      go_ret2
      exact ⟨rfl, 0, rfl⟩
theorem in_of (n l h : Int) (v : Bool) (hv : decide (l ≤ n ∧ n ≤ h) = v) (w : World) :
    Calls Try.prog 73 #[.int .i64 n, .int .i64 l, .int .i64 h] w fun e w' => e = .returned (.bool v) ∧ w = w' := by
  rw [← hv]
  exact in_spec n l h w
set_option maxHeartbeats 1000000 in
theorem sapr_yes (s : ByteArray) (k : Nat) (w : World) (hs : sv s.data.toList = true) (hk : k < s.size) :
    Calls Try.prog 60 #[.string s, .int .i64 k] w fun e w' => e = .returned (.tuple #[.int .i64 (apr s.data.toList k), .bool true]) ∧ ∃ n, w' = w.drewN n := by
  obtain ⟨h1, h2, ho⟩ := sv_yes hs
  have HO := Lib.hid ho
  clear ho
  rw [size_list] at h1 h2
  have C := Lib.hid fun w => seq_spec s w (by unfold maxLen; omega)
  have D := Lib.hid fun w => in_of (k : Int) 0 ((s.size : Int) - 1) true (decide_eq_true (by omega)) w
  go_enter Try.func60, Try.ntmps60
  go_wp2_with fail
  refine (C.out _).mono ?_
  rintro e w1 ⟨rfl, rfl⟩
  go_wp2_with fail
  refine (D.out _).mono ?_
  rintro e w1 ⟨rfl, rfl⟩
  go_wp2_with fail
  go_loopw [6, 7] (fun b i wr => ∃ j n : Nat, j ≤ s.size - k ∧ i = .int .i64 (j : Int) ∧ b = .int .i64 (sumTo j fun i => eqv (at_ s.data.toList i) (at_ s.data.toList (i + k))) ∧ wr = w.drewN n) (fun _ i _ => s.size - (intOf i).toNat)
  case atStart => exact ⟨0, 0, Nat.zero_le _, rfl, rfl, rfl⟩
  case round =>
    obtain ⟨j, n, hj, rfl, rfl, rfl⟩ := hrel
    by_cases hlt : j < s.size - k
    · obtain ⟨hs0, hs1⟩ := sumTo_bound j (fun i => eqv (at_ s.data.toList i) (at_ s.data.toList (i + k))) fun _ _ => eqv_bd _ _
      have hj1 : j < s.size := by omega
      have hj2 : j + k < s.size := by omega
      have E8 := Lib.hid (sum_step j (fun i => eqv (at_ s.data.toList i) (at_ s.data.toList (i + k))) _ (eqv_val _ _ _ _ (congrArg UInt8.toNat (at_ba s j hj1)) (congrArg UInt8.toNat (at_ba s (j + k) hj2))))
      generalize (sumTo j fun i => eqv (at_ s.data.toList i) (at_ s.data.toList (i + k))) = m at *
      have hw : IntKind.i64.wrap ((j : Int) + k) = (j : Int) + k := by rw [IntKind.wrap_i64]; omega
      have hz : 0 ≤ (j : Int) + k := by omega
      have ht : ((j : Int) + k).toNat = j + k := by omega
      have hq : (j : Int) + k < (s.size : Int) := by omega
      by_cases he : s[j].toNat = s[j + k].toNat
      · have hc : ((s[j].toNat : Int) == (s[j + k].toNat : Int)) = true := by simp [he]
        have EE := Lib.hid (E8.out.trans (by rw [if_pos he]))
        clear he E8
        go_wp2_with fail
        go_quiet (fail)
        clear hw
        go_wp2
        go_roundw
        case rel => exact ⟨j + 1, _, by omega, by go_num, by rw [EE.out], by first | rfl | exact World.drewN_drewN _ _ _⟩
        case measure => simp [intOf]; omega
      · have hc : ((s[j].toNat : Int) == (s[j + k].toNat : Int)) = false := by rw [beq_eq_false_iff_ne]; omega
        have EE := Lib.hid (E8.out.trans (by rw [if_neg he]))
        clear he E8
        go_wp2_with fail
        go_quiet (fail)
        clear hw
        go_wp2
        go_roundw
        case rel => exact ⟨j + 1, _, by omega, by go_num, by rw [EE.out]; go_num, by first | rfl | exact World.drewN_drewN _ _ _⟩
        case measure => simp [intOf]; omega
    · obtain rfl : j = s.size - k := by omega
      have hd : decide (((s.size - k : Nat) : Int) + k < (s.size : Int)) = false := by simp; omega
      have hd2 : decide (s.size - k + k < s.size) = false := by simp; omega
      go_wp2
      go_ret2
      exact ⟨by rw [apr, size_list]; rfl, _, rfl⟩
theorem sapr_no (s : ByteArray) (k : Int) (w : World) (hl : s.size ≤ maxLen) (hs : sv s.data.toList = false ∨ k < 0 ∨ (s.size : Int) ≤ k) :
    Calls Try.prog 60 #[.string s, .int .i64 k] w fun e w' => e = .returned (.tuple #[.int .i64 0, .bool false]) ∧ ∃ n, w' = w.drewN n := by
  have C := Lib.hid fun w => seq_spec s w hl
  cases hv : sv s.data.toList with
  | false =>
    clear hs
    go_enter Try.func60, Try.ntmps60
    go_wp2_with fail
    refine (C.out _).mono ?_
    rintro e w1 ⟨rfl, rfl⟩
    go_wp2
    go_ret2
    exact ⟨rfl, 0, rfl⟩
  | true =>
    obtain ⟨h1, h2, _⟩ := sv_yes hv
    rw [size_list] at h1 h2
    have D := Lib.hid fun w => in_of k 0 ((s.size : Int) - 1) false (decide_eq_false (by rw [hv] at hs; rcases hs with h | h | h <;> first | omega | cases h)) w
    clear hs
    go_enter Try.func60, Try.ntmps60
    go_wp2_with fail
    refine (C.out _).mono ?_
    rintro e w1 ⟨rfl, rfl⟩
    go_wp2_with fail
    refine (D.out _).mono ?_
    rintro e w1 ⟨rfl, rfl⟩
    go_wp2
    go_ret2
    exact ⟨rfl, 0, rfl⟩
theorem mod_next (i k n : Nat) (hn : 0 < n) : (i + 1 + k) % n = if (i + k) % n + 1 = n then 0 else (i + k) % n + 1 := by
  have h := Nat.mod_lt (i + k) hn
  have e : (i + 1 + k) % n = ((i + k) % n + 1) % n := by
    rw [Nat.mod_add_mod]; congr 1; omega
  rw [e]
  split
  · rename_i hq
    rw [hq, Nat.mod_self]
  · exact Nat.mod_eq_of_lt (by omega)
theorem cor_step (a b : List UInt8) (k j : Nat) (p q : Nat) (ha : okB a = true) (hb : okB b = true) (hp : (at_ a j).toNat = p) (hq : (at_ b ((j + k) % b.length)).toNat = q) (e : Nat)
    (h : 2 * (e : Int) - j = sumTo j fun i => sg (at_ a i) * sg (at_ b ((i + k) % b.length))) :
    2 * ((e + if p = q then 1 else 0 : Nat) : Int) - ((j + 1 : Nat) : Int) = sumTo (j + 1) fun i => sg (at_ a i) * sg (at_ b ((i + k) % b.length)) := by
  rw [sumTo, sg_mul _ _ (ok_at a ha _) (ok_at b hb _), eqv_val _ _ p q hp hq, ← h]
  split <;> omega
set_option maxHeartbeats 1000000 in
theorem corr_impl (a b : ByteArray) (k : Nat) (w : World) (hl : a.size = b.size) (h2 : a.size ≤ 255) (hk : k < b.size) (ha : okB a.data.toList = true) (hb : okB b.data.toList = true) :
    Calls Try.prog 105 #[.string a, .string b, .int .i64 k] w fun e w' => e = .returned (.int .i64 (cor a.data.toList b.data.toList k)) ∧ ∃ n, w' = w.drewN n := by
  have HA := Lib.hid ha
  have HB := Lib.hid hb
  have HL := Lib.hid hl
  have hl1 : a.size ≤ b.size := by omega
  have hl2 : b.size ≤ a.size := by omega
  clear ha hb hl
  go_enter Try.func105, Try.ntmps105
  go_wp2_with fail
  go_loopw [7, 8, 13] (fun q m i wr => ∃ j e n : Nat, j ≤ a.size ∧ e ≤ j ∧ i = .int .i64 (j : Int) ∧ q = .int .i64 (e : Int) ∧ m = .int .i64 (((j + k) % b.size : Nat) : Int) ∧ 2 * (e : Int) - j = (sumTo j fun i => sg (at_ a.data.toList i) * sg (at_ b.data.toList ((i + k) % b.size))) ∧ wr = w.drewN n) (fun _ _ i _ => a.size - (intOf i).toNat)
  case atStart => exact ⟨0, 0, 0, Nat.zero_le _, Nat.le_refl _, rfl, rfl, by rw [Nat.zero_add, Nat.mod_eq_of_lt hk], rfl, rfl⟩
  case round =>
    obtain ⟨j, e, n, hj, he, rfl, rfl, rfl, hsum, rfl⟩ := hrel
    have HS := Lib.hid hsum
    clear hsum
    by_cases hlt : j < a.size
    · have hm : (j + k) % b.size < b.size := Nat.mod_lt _ (by omega)
      have EN := Lib.hid (mod_next j k b.size (by omega))
      have E8 := Lib.hid (fun e h => cor_step a.data.toList b.data.toList k j a[j].toNat (b[(j + k) % b.size]'hm).toNat HA.out HB.out (congrArg UInt8.toNat (at_ba a j hlt)) (by rw [size_list, at_ba b _ hm]) e h)
      rw [size_list] at E8
      have E9 := Lib.hid (E8.out e HS.out)
      clear E8 HS
      generalize (j + k) % b.size = m at *
      have hlt2 : j < b.size := by omega
      by_cases hq : a[j].toNat = b[m].toNat
      · have hc : ((a[j].toNat : Int) == (b[m].toNat : Int)) = true := by simp [hq]
        rw [if_pos hq] at E9
        clear hq
        by_cases hn : m + 1 = b.size
        · have hc2 : ((m : Int) + 1 == (b.size : Int)) = true := by rw [beq_iff_eq]; omega
          rw [if_pos hn] at EN
          clear hn
          go_wp2_with fail
          go_quiet (fail)
          go_wp2
          go_roundw
          case rel => exact ⟨j + 1, e + 1, _, by omega, by omega, by go_num, by go_num, by rw [EN.out]; rfl, E9.out, by first | rfl | exact World.drewN_drewN _ _ _⟩
          case measure => simp [intOf]; omega
        · have hc2 : ((m : Int) + 1 == (b.size : Int)) = false := by rw [beq_eq_false_iff_ne]; omega
          rw [if_neg hn] at EN
          clear hn
          go_wp2_with fail
          go_quiet (fail)
          go_wp2
          go_roundw
          case rel => exact ⟨j + 1, e + 1, _, by omega, by omega, by go_num, by go_num, by rw [EN.out]; go_num, E9.out, by first | rfl | exact World.drewN_drewN _ _ _⟩
          case measure => simp [intOf]; omega
      · have hc : ((a[j].toNat : Int) == (b[m].toNat : Int)) = false := by rw [beq_eq_false_iff_ne]; omega
        rw [if_neg hq] at E9
        clear hq
        by_cases hn : m + 1 = b.size
        · have hc2 : ((m : Int) + 1 == (b.size : Int)) = true := by rw [beq_iff_eq]; omega
          rw [if_pos hn] at EN
          clear hn
          go_wp2_with fail
          go_quiet (fail)
          go_wp2
          go_roundw
          case rel => exact ⟨j + 1, e, _, by omega, by omega, by go_num, rfl, by rw [EN.out]; rfl, E9.out, by first | rfl | exact World.drewN_drewN _ _ _⟩
          case measure => simp [intOf]; omega
        · have hc2 : ((m : Int) + 1 == (b.size : Int)) = false := by rw [beq_eq_false_iff_ne]; omega
          rw [if_neg hn] at EN
          clear hn
          go_wp2_with fail
          go_quiet (fail)
          go_wp2
          go_roundw
          case rel => exact ⟨j + 1, e, _, by omega, by omega, by go_num, rfl, by rw [EN.out]; go_num, E9.out, by first | rfl | exact World.drewN_drewN _ _ _⟩
          case measure => simp [intOf]; omega
    · obtain rfl : j = a.size := by omega
      go_wp2
      go_ret
      exact ⟨ret_int (by rw [HS.out, cor, size_list, size_list]), _, rfl⟩
end Go.Proofs.Ytgmagocpacpafaa
