/- Contracts of the functions that repeat letters, and that invert. -/
import Derived.Test.YtibnlaphkmnhfaaWPair
namespace Go.Proofs.Ytibnlaphkmnhfaa
open Go.RowKit SS
set_option maxRecDepth 100000

/-- a string repeated -/
def repS (n : Nat) (s : ByteArray) : ByteArray := bs (rep n s.data.toList)
theorem repS_list (n : Nat) (s : ByteArray) : (repS n s).data.toList = rep n s.data.toList := rfl
theorem repS_add (p q : Nat) (s : ByteArray) : repS p s ++ repS q s = repS (p + q) s := by
  apply ba_ext
  rw [repS_list, ← rep_add, ← repS_list, ← repS_list]
  simp [ByteArray.data_append]
theorem repS_zero (s : ByteArray) : repS 0 s = ⟨#[]⟩ := rfl
theorem repS_one (s : ByteArray) : repS 1 s = s := by unfold repS; rw [rep_one]; rfl
theorem repS_size (n : Nat) (s : ByteArray) : (repS n s).size = n * s.size := by unfold repS; rw [bs_size, rep_length, size_list]
set_option maxHeartbeats 1000000 in
theorem many_spec (s : ByteArray) (n : Nat) (w : World) (hs : s.size ≤ 100) (hn : n ≤ 1000) :
    Calls Try.prog 102 #[.string s, .int .i64 n] w fun e w' => e = .returned (.string (repS n s)) ∧ w = w' := by
  go_enter Try.func102, Try.ntmps102
  go_wp2_with fail
  go_loop [0, 1, 5] (fun x i o => ∃ p q m : Nat, m ≤ n ∧ p + q * m = n ∧ (0 < m → q ≤ n) ∧ i = .int .i64 (m : Int) ∧ x = .string (repS q s) ∧ o = .string (repS p s)) (fun _ i _ => (intOf i).toNat)
  case atStart => exact ⟨0, 1, n, Nat.le_refl _, by omega, by omega, rfl, by rw [repS_one], by rw [repS_zero]⟩
  case round =>
    obtain ⟨p, q, m, hmn, hsum, hq, rfl, rfl, rfl⟩ := hrel
    have HS := Lib.hid hsum
    have HQ := Lib.hid hq
    clear hsum hq
    by_cases hm : 0 < m
    · have hq1 : q ≤ 1000 := by have := HQ.out hm; omega
      have hp1 : p ≤ 1000 := by have := HS.out; omega
      have g1 : ¬ 9223372036854775807 < (repS p s).size + (repS q s).size := by
        rw [repS_size, repS_size]
        have := Nat.mul_le_mul hp1 hs
        have := Nat.mul_le_mul hq1 hs
        omega
      have g2 : ¬ 9223372036854775807 < (repS q s).size + (repS q s).size := by
        rw [repS_size]
        have := Nat.mul_le_mul hq1 hs
        omega
      rcases Nat.mod_two_eq_zero_or_one m with e | e
      · have hc : ((m : Int) % 2 == 1) = false := by rw [beq_eq_false_iff_ne]; omega
        have E : Hid (m % 2 = 0) := e
        clear e
        go_wp2
        go_round
        case rel =>
          refine ⟨p, q + q, m / 2, by omega, ?_, ?_, by go_num, by rw [repS_add], rfl⟩
          · have h := HS.out
            have h' := E.out
            have e2 : m = 2 * (m / 2) := by omega
            rw [e2, ← Nat.mul_assoc, Nat.mul_comm q 2, Nat.two_mul] at h
            exact h
          · intro h0
            have h := HS.out
            have : q * 2 ≤ q * m := Nat.mul_le_mul (Nat.le_refl _) (by omega)
            omega
        case measure => simp [intOf]; omega
      · have hc : ((m : Int) % 2 == 1) = true := by rw [beq_iff_eq]; omega
        have E : Hid (m % 2 = 1) := e
        clear e
        go_wp2
        go_round
        case rel =>
          refine ⟨p + q, q + q, m / 2, by omega, ?_, ?_, by go_num, by rw [repS_add], by rw [repS_add]⟩
          · have h := HS.out
            have h' := E.out
            have e2 : m = 2 * (m / 2) + 1 := by omega
            rw [e2, Nat.mul_add, ← Nat.mul_assoc, Nat.mul_comm q 2, Nat.two_mul, Nat.mul_one] at h
            omega
          · intro h0
            have h := HS.out
            have : q * 2 ≤ q * m := Nat.mul_le_mul (Nat.le_refl _) (by omega)
            omega
        case measure => simp [intOf]; omega
    · obtain rfl : m = 0 := by omega
      have E : Hid (p = n) := by show _ = _; have := HS.out; omega
      go_wp2
      go_ret
      exact ⟨by rw [E.out]; rfl, rfl⟩
set_option maxHeartbeats 1000000 in
theorem invert_spec (s : ByteArray) (w : World) (h2 : s.size ≤ 255) (ho : okB s.data.toList = true) :
    Calls Try.prog 68 #[.string s] w fun e w' => e = .returned (.string (bs (invL s.data.toList))) ∧ Below w.heap.size w w' := by
  have e1 : (⟨#[49]⟩ : ByteArray).size = 1 := rfl
  have C0 := Lib.hid fun w => many_spec ⟨#[49]⟩ s.size w (by rw [e1]; omega) (by omega)
  have hz : (repS s.size ⟨#[49]⟩).size = s.size := by rw [repS_size, e1, Nat.mul_one]
  have C1 := Lib.hid fun w => add_spec s (repS s.size ⟨#[49]⟩) w hz.symm h2 ho (by rw [repS_list]; exact okB_rep _ _ rfl)
  have E : Hid (addL s.data.toList (repS s.size ⟨#[49]⟩).data.toList = invL s.data.toList) := by
    show _ = _
    rw [repS_list, ← inv_add _ ho, size_list]
  rw [E.out] at C1
  clear hz E e1
  generalize repS s.size ⟨#[49]⟩ = y at *
  go_enter Try.func68, Try.ntmps68
  go_wp2_with fail
  refine (C0.out _).mono ?_
  rintro e w1 ⟨rfl, rfl⟩
  go_wp2_with fail
  refine (C1.out _).mono ?_
  rintro e w1 ⟨rfl, hb⟩
  go_wp2
  go_ret
  exact ⟨rfl, hb⟩
theorem inv_impl (s : ByteArray) (w : World) (hs : sv s.data.toList = true) :
    Calls Try.prog 19 #[.string s] w fun e w' => e = .returned (.tuple #[.string (bs (invL s.data.toList)), .bool true]) ∧ Below w.heap.size w w' := by
  obtain ⟨h1, h2, ho⟩ := sv_yes hs
  rw [size_list] at h1 h2
  have C0 := Lib.hid fun w => seq_impl s w (by unfold maxLen; omega)
  have C1 := Lib.hid fun w => changed_impl s w h2 ho
  clear ho
  go_enter Try.func19, Try.ntmps19
  go_wp2_with fail
  refine (C0.out _).mono ?_
  rintro e w1 ⟨rfl, rfl⟩
  go_wp2_with fail
  refine (C1.out _).mono ?_
  rintro e w1 ⟨rfl, hb⟩
  go_wp2
  go_ret2
  exact ⟨rfl, hb⟩
theorem inv_impl_no (s : ByteArray) (w : World) (hl : s.size ≤ maxLen) (hs : sv s.data.toList = false) :
    Calls Try.prog 19 #[.string s] w fun e w' => e = .returned (.tuple #[.string ⟨#[]⟩, .bool false]) ∧ Below w.heap.size w w' := by
  have C0 := Lib.hid fun w => seq_impl s w hl
  go_enter Try.func19, Try.ntmps19
  go_wp2_with fail
  refine (C0.out _).mono ?_
  rintro e w1 ⟨rfl, rfl⟩
  go_wp2
  go_ret2
  exact ⟨rfl, Below.refl _ _⟩
theorem sinv_yes (s : ByteArray) (w : World) (hs : sv s.data.toList = true) :
    Calls Try.prog 20 #[.string s] w fun e w' => e = .returned (.tuple #[.string (bs (invL s.data.toList)), .bool true]) ∧ Below w.heap.size w w' := by
  obtain ⟨h1, h2, ho⟩ := sv_yes hs
  rw [size_list] at h1 h2
  have C0 := Lib.hid fun w => seq_spec s w (by unfold maxLen; omega)
  have C1 := Lib.hid fun w => invert_spec s w h2 ho
  clear ho
  go_enter Try.func20, Try.ntmps20
  go_wp2_with fail
  refine (C0.out _).mono ?_
  rintro e w1 ⟨rfl, rfl⟩
  go_wp2_with fail
  refine (C1.out _).mono ?_
  rintro e w1 ⟨rfl, hb⟩
  go_wp2
  go_ret2
  exact ⟨rfl, hb⟩
theorem sinv_no (s : ByteArray) (w : World) (hl : s.size ≤ maxLen) (hs : sv s.data.toList = false) :
    Calls Try.prog 20 #[.string s] w fun e w' => e = .returned (.tuple #[.string ⟨#[]⟩, .bool false]) ∧ Below w.heap.size w w' := by
  have C0 := Lib.hid fun w => seq_spec s w hl
  go_enter Try.func20, Try.ntmps20
  go_wp2_with fail
  refine (C0.out _).mono ?_
  rintro e w1 ⟨rfl, rfl⟩
  go_wp2
  go_ret2
  exact ⟨rfl, Below.refl _ _⟩
set_option maxHeartbeats 1000000 in
theorem sb_impl (a b : ByteArray) (K : Nat) (v : Bool) (r : Int) (w : World) (h : pv a b = true) (hK : K ≤ a.size) (h0 : ∀ k, k < K → rotS k a ≠ b)
    (h1 : (K < a.size ∧ rotS K a = b ∧ r = K ∧ v = true) ∨ (K = a.size ∧ r = 0 ∧ v = false)) :
    Calls Try.prog 57 #[.string a, .string b] w fun e w' => e = .returned (.tuple #[.int .i64 r, .bool v]) ∧ ∃ n, w' = w.drewN n := by
  obtain ⟨g1, g2, g3, _, _⟩ := pv_PV h
  have C0 := Lib.hid fun w => pair_impl a b w (by unfold maxLen; omega) (by unfold maxLen; omega)
  have hbig : ¬ 9223372036854775807 < a.size := by omega
  have H0 := Lib.hid h0
  have H1 := Lib.hid h1
  clear h0 h1 g3
  go_enter Try.func57, Try.ntmps57
  go_wp2_with fail
  refine (C0.out _).mono ?_
  rintro e w1 ⟨rfl, rfl⟩
  go_wp2_with fail
  go_loopw [13] (fun i wr => ∃ k n : Nat, k ≤ K ∧ i = .int .i64 (k : Int) ∧ wr = w.drewN n) (fun i _ => a.size - (intOf i).toNat)
  case atStart => exact ⟨0, 0, by omega, rfl, rfl⟩
  case round =>
    obtain ⟨k, n, hk, rfl, rfl⟩ := hrel
    by_cases hlt : k < K
    · have hc : ((a.extract k a.size ++ a.extract 0 k).toList == b.toList) = false := ba_no (by rw [cut_rotS a k (by omega)]; exact H0.out k hlt)
      have hlt2 : k < a.size := by omega
      go_wp2_with fail
      go_quiet (fail)
      go_wp2
      go_roundw
      case rel => exact ⟨k + 1, _, by omega, by go_num, by first | rfl | exact World.drewN_drewN _ _ _⟩
      case measure => simp [intOf]; omega
    · obtain rfl : k = K := by omega
      rcases H1.out with ⟨hq, hr, rfl, rfl⟩ | ⟨hq, rfl, rfl⟩
      · have hc : ((a.extract k a.size ++ a.extract 0 k).toList == b.toList) = true := ba_yes (by rw [cut_rotS a k (by omega)]; exact hr)
        clear hr
        go_wp2_with fail
        go_quiet (fail)
        go_wp2
        go_ret2
        exact ⟨rfl, _, by first | rfl | exact World.drewN_drewN _ _ _⟩
      · have hlt2 : ¬ k < a.size := by omega
        clear hq
        go_wp2
        go_ret2
        exact ⟨rfl, _, rfl⟩
theorem sb_impl_no (a b : ByteArray) (w : World) (ha : a.size ≤ maxLen) (hb : b.size ≤ maxLen) (h : pv a b = false) :
    Calls Try.prog 57 #[.string a, .string b] w fun e w' => e = .returned (.tuple #[.int .i64 0, .bool false]) ∧ ∃ n, w' = w.drewN n := by
  have C0 := Lib.hid fun w => pair_impl a b w ha hb
  go_enter Try.func57, Try.ntmps57
  go_wp2_with fail
  refine (C0.out _).mono ?_
  rintro e w1 ⟨rfl, rfl⟩
  go_wp2
  go_ret2
  exact ⟨rfl, 0, rfl⟩
/-- the least shift, or none -/
theorem sb_ex (a b : ByteArray) : ∃ (K : Nat) (v : Bool) (r : Int), K ≤ a.size ∧ (∀ k, k < K → rotS k a ≠ b) ∧ ((K < a.size ∧ rotS K a = b ∧ r = K ∧ v = true) ∨ (K = a.size ∧ r = 0 ∧ v = false)) := by
  by_cases h : ∃ k, k < a.size ∧ rotS k a = b
  · obtain ⟨k, hk, he⟩ := h
    obtain ⟨m, hm, h1, h2⟩ := least (fun k => rotS k a = b) k he
    exact ⟨m, true, m, by omega, h2, .inl ⟨by omega, h1, rfl, rfl⟩⟩
  · exact ⟨a.size, false, 0, Nat.le_refl _, fun k hk he => h ⟨k, hk, he⟩, .inr ⟨rfl, rfl, rfl⟩⟩
end Go.Proofs.Ytibnlaphkmnhfaa
