/- Contracts of the functions that reckon with integers alone. -/
import Derived.Test.YtibnlaphkmnhfaaChecked
import Derived.Test.YtibnlaphkmnhfaaPlainReg
import Derived.WalkKit
import Derived.Lib.Hide
namespace Go.Proofs.Ytibnlaphkmnhfaa
open Go.RowKit SS
set_option maxRecDepth 100000

theorem and_i64 (a b : Nat) (ha : a < 9223372036854775808) (hb : b < 9223372036854775808) : bits .and .i64 (a : Int) (b : Int) = ((a &&& b : Nat) : Int) :=
  (bits_nat .i64 63 (by decide) (fun n h0 h1 => by rw [IntKind.wrap_i64]; omega) a b ha hb).1

theorem xor_i64 (a b : Nat) (ha : a < 9223372036854775808) (hb : b < 9223372036854775808) : bits .xor .i64 (a : Int) (b : Int) = ((a ^^^ b : Nat) : Int) := by
  have ha' : a % 2 ^ 64 = a := Nat.mod_eq_of_lt (by omega)
  have hb' : b % 2 ^ 64 = b := Nat.mod_eq_of_lt (by omega)
  have hx : a ^^^ b < 2 ^ 63 := Nat.xor_lt_two_pow (by omega) (by omega)
  simp only [bits, BitVec.ofInt_natCast, BitVec.toNat_xor, BitVec.toNat_ofNat]
  show IntKind.i64.wrap (((a % 2 ^ 64 ^^^ b % 2 ^ 64 : Nat) : Nat) : Int) = _
  rw [ha', hb', IntKind.wrap_i64]; omega

theorem ret_int {k : IntKind} {a b : Int} (h : a = b) : Ending.returned (.int k a) = .returned (.int k b) := by rw [h]
theorem ret_bool {a b : Bool} (h : a = b) : Ending.returned (.bool a) = .returned (.bool b) := by rw [h]

/-- a size and taps of it -/
def tv (s t : Int) : Bool := decide (2 ≤ s ∧ s ≤ 8 ∧ 1 ≤ t ∧ t < 2 ^ s.toNat)
/-- a register that is valid -/
def rv (s t x : Int) : Bool := tv s t && decide (0 ≤ x ∧ x < 2 ^ s.toNat)

theorem par_last (m s n : Nat) (hm : m < 9223372036854775808) (hs : s < 2) (hp : (s + par m) % 2 = par n) : ((s ^^^ m % 2) + par (m / 2)) % 2 = par n ∧ (s ^^^ m % 2) < 2 := by
  rw [par_step m (by omega)] at hp
  have h1 := par_lt (m / 2)
  rcases (show s = 0 ∨ s = 1 by omega) with rfl | rfl <;> rcases Nat.mod_two_eq_zero_or_one m with e | e <;> rw [e] at hp ⊢ <;> simp <;> omega

theorem pow_le8 (n : Int) (h0 : 0 ≤ n) (h1 : n ≤ 8) : 0 < (2 : Int) ^ n.toNat ∧ (2 : Int) ^ n.toNat ≤ 256 := by
  have h : 2 ^ n.toNat ≤ 2 ^ 8 := Nat.pow_le_pow_right (by decide) (by omega)
  have h' : 0 < 2 ^ n.toNat := Nat.two_pow_pos _
  rw [show ((2 : Int) ^ n.toNat) = ((2 ^ n.toNat : Nat) : Int) by simp]
  omega
theorem pow_ge4 (n : Int) (h1 : 2 ≤ n) : (4 : Int) ≤ 2 ^ n.toNat := by
  have h : 2 ^ 2 ≤ 2 ^ n.toNat := Nat.pow_le_pow_right (by decide) (by omega)
  rw [show ((2 : Int) ^ n.toNat) = ((2 ^ n.toNat : Nat) : Int) by simp]
  omega

theorem parity_impl (n : Nat) (w : World) (hn : n < 9223372036854775808) :
    Calls Try.prog 109 #[.int .i64 n] w fun e w' => e = .returned (.int .i64 (par n)) ∧ w = w' := by
  have h0 : decide ((n : Int) < 0) = false := by simp
  go_enter Try.func109, Try.ntmps109
  go_wp2
  go_loop [0, 3] (fun i sm => ∃ m s : Nat, m < 9223372036854775808 ∧ s < 2 ∧ i = .int .i64 m ∧ sm = .int .i64 s ∧ (s + par m) % 2 = par n) (fun i _ => (intOf i).toNat)
  case atStart => exact ⟨n, 0, hn, by decide, rfl, rfl, by have := par_lt n; omega⟩
  case round =>
    obtain ⟨m, s, hm, hs, rfl, rfl, hp⟩ := hrel
    have HP := Lib.hid hp
    clear hp
    by_cases hz : 0 < m
    · go_wp2
      go_round
      case rel =>
        obtain ⟨h1, h2⟩ := par_last m s n hm hs HP.out
        refine ⟨m / 2, s ^^^ m % 2, by omega, h2, by go_num, ?_, h1⟩
        rw [show (1 : Int) = ((1 : Nat) : Int) from rfl, and_i64 m 1 hm (by decide), Nat.and_one_is_mod, xor_i64 s (m % 2) (by omega) (by omega)]
      case measure => simp [intOf]; omega
    · go_wp2
      go_ret
      have e : m = 0 := by omega
      have h := HP.out
      rw [e, par_zero] at h
      exact ⟨ret_int (by omega), rfl⟩
theorem parity_impl_neg (n : Int) (w : World) (hn : n < 0) :
    Calls Try.prog 109 #[.int .i64 n] w fun e w' => e = .returned (.int .i64 (-1)) ∧ w = w' := by
  go_enter Try.func109, Try.ntmps109
  go_wp2
  go_ret
  exact ⟨rfl, rfl⟩
theorem parity_spec (n : Nat) (w : World) (hn : n < 9223372036854775808) :
    Calls Try.prog 108 #[.int .i64 n] w fun e w' => e = .returned (.int .i64 (par n)) ∧ w = w' := by
  go_enter Try.func108, Try.ntmps108
  go_wp2
  go_loop [0, 3] (fun i sm => ∃ m s : Nat, m < 9223372036854775808 ∧ s < 2 ∧ i = .int .i64 m ∧ sm = .int .i64 s ∧ (s + par m) % 2 = par n) (fun i _ => (intOf i).toNat)
  case atStart => exact ⟨n, 0, hn, by decide, rfl, rfl, by have := par_lt n; omega⟩
  case round =>
    obtain ⟨m, s, hm, hs, rfl, rfl, hp⟩ := hrel
    have HP := Lib.hid hp
    clear hp
    by_cases hz : 0 < m
    · go_wp2
      go_round
      case rel =>
        obtain ⟨h1, h2⟩ := par_last m s n hm hs HP.out
        refine ⟨m / 2, s ^^^ m % 2, by omega, h2, by go_num, ?_, h1⟩
        rw [show (m : Int) % 2 = ((m % 2 : Nat) : Int) by omega, xor_i64 s (m % 2) (by omega) (by omega)]
      case measure => simp [intOf]; omega
    · go_wp2
      go_ret
      have e : m = 0 := by omega
      have h := HP.out
      rw [e, par_zero] at h
      exact ⟨ret_int (by omega), rfl⟩
theorem in_spec (n l h : Int) (w : World) :
    Calls Try.prog 95 #[.int .i64 n, .int .i64 l, .int .i64 h] w fun e w' => e = .returned (.bool (decide (l ≤ n ∧ n ≤ h))) ∧ w = w' := by
  by_cases h1 : l ≤ n
  · by_cases h2 : n ≤ h
    · go_enter Try.func95, Try.ntmps95
      go_wp2
      go_ret
      exact ⟨by simp [h1, h2], rfl⟩
    · go_enter Try.func95, Try.ntmps95
      go_wp2
      go_ret
      exact ⟨by simp [h2], rfl⟩
  · go_enter Try.func95, Try.ntmps95
    go_wp2
    go_ret
    exact ⟨by simp; omega, rfl⟩
theorem two_spec (n : Int) (w : World) (h0 : 0 ≤ n) (h1 : n ≤ 8) :
    Calls Try.prog 81 #[.int .i64 n] w fun e w' => e = .returned (.int .i64 (2 ^ n.toNat)) ∧ w = w' := by
  obtain ⟨hp0, hp1⟩ := pow_le8 n h0 h1
  go_enter Try.func81, Try.ntmps81
  go_wp2
  go_ret
  exact ⟨rfl, rfl⟩
theorem tv_yes {s t : Int} (h : tv s t = true) : 2 ≤ s ∧ s ≤ 8 ∧ 1 ≤ t ∧ t < 2 ^ s.toNat ∧ t < 256 ∧ (4 : Int) ≤ 2 ^ s.toNat ∧ (2 : Int) ^ s.toNat ≤ 256 := by
  unfold tv at h
  have h := of_decide_eq_true h
  obtain ⟨h1, h2, h3, h4⟩ := h
  have := pow_ge4 s h1
  have := pow_le8 s (by omega) h2
  refine ⟨h1, h2, h3, h4, by omega, by omega, by omega⟩
theorem tv_no {s t : Int} (h : tv s t = false) : ¬ (2 ≤ s ∧ s ≤ 8 ∧ 1 ≤ t ∧ t < 2 ^ s.toNat) := of_decide_eq_false h
theorem tv_mk {s t : Int} (h1 : 2 ≤ s) (h2 : s ≤ 8) (h3 : 1 ≤ t) (h4 : t < 2 ^ s.toNat) : tv s t = true := decide_eq_true ⟨h1, h2, h3, h4⟩
theorem tv_mk_no {s t : Int} (h : ¬ (2 ≤ s ∧ s ≤ 8 ∧ 1 ≤ t ∧ t < 2 ^ s.toNat)) : tv s t = false := decide_eq_false h
theorem taps_impl (s t : Int) (w : World) :
    Calls Try.prog 85 #[.int .i64 s, .int .i64 t] w fun e w' => e = .returned (.bool (tv s t)) ∧ w = w' := by
  by_cases h1 : 2 ≤ s
  · by_cases h2 : s ≤ 8
    · obtain ⟨hp0, hp1⟩ := pow_le8 s (by omega) h2
      by_cases h3 : 0 < t
      · by_cases h4 : t < 2 ^ s.toNat
        · have E := Lib.hid (tv_mk h1 h2 (by omega) h4)
          go_enter Try.func85, Try.ntmps85
          go_wp2
          go_ret
          exact ⟨ret_bool E.out.symm, rfl⟩
        · have E := Lib.hid (@tv_mk_no s t (by omega))
          go_enter Try.func85, Try.ntmps85
          go_wp2
          go_ret
          exact ⟨ret_bool E.out.symm, rfl⟩
      · have E := Lib.hid (@tv_mk_no s t (by omega))
        go_enter Try.func85, Try.ntmps85
        go_wp2
        go_ret
        exact ⟨ret_bool E.out.symm, rfl⟩
    · have E := Lib.hid (@tv_mk_no s t (by omega))
      go_enter Try.func85, Try.ntmps85
      go_wp2
      go_ret
      exact ⟨ret_bool E.out.symm, rfl⟩
  · have E := Lib.hid (@tv_mk_no s t (by omega))
    go_enter Try.func85, Try.ntmps85
    go_wp2
    go_ret
    exact ⟨ret_bool E.out.symm, rfl⟩
theorem taps_spec (s t : Int) (w : World) :
    Calls Try.prog 80 #[.int .i64 s, .int .i64 t] w fun e w' => e = .returned (.bool (tv s t)) ∧ w = w' := by
  by_cases h1 : 2 ≤ s ∧ s ≤ 8
  · obtain ⟨h1, h2⟩ := h1
    obtain ⟨hp0, hp1⟩ := pow_le8 s (by omega) h2
    have hd : decide (2 ≤ s ∧ s ≤ 8) = true := decide_eq_true ⟨h1, h2⟩
    have E : Hid (tv s t = (decide (1 ≤ t) && decide (t ≤ 2 ^ s.toNat - 1))) := by
      show _ = _
      unfold tv
      rw [← Bool.decide_and, decide_eq_decide]
      omega
    go_enter Try.func80, Try.ntmps80
    go_wp2_with fail
    refine (in_spec _ _ _ _).mono ?_
    rintro e w' ⟨rfl, rfl⟩
    go_wp2_with fail
    refine (two_spec _ _ (by omega) (by omega)).mono ?_
    rintro e w' ⟨rfl, rfl⟩
    go_wp2_with fail
    refine (in_spec _ _ _ _).mono ?_
    rintro e w' ⟨rfl, rfl⟩
    go_wp2
    go_ret
    exact ⟨ret_bool E.out.symm, rfl⟩
  · have hd : decide (2 ≤ s ∧ s ≤ 8) = false := decide_eq_false h1
    have E := Lib.hid (@tv_mk_no s t (by omega))
    go_enter Try.func80, Try.ntmps80
    go_wp2_with fail
    refine (in_spec _ _ _ _).mono ?_
    rintro e w' ⟨rfl, rfl⟩
    go_wp2
    go_ret
    exact ⟨ret_bool E.out.symm, rfl⟩
end Go.Proofs.Ytibnlaphkmnhfaa
