/- Contracts of the functions that reckon with integers alone. -/
import Derived.Test.YtgdnmhigjhfpkaaDoorChecked
import Derived.Test.YtgdnmhigjhfpkaaDoorPlainReg
import Derived.WalkKit
import Derived.Lib.Hide
namespace Go.Proofs.YtgdnmhigjhfpkaaDoor
open Go.RowKit SS
set_option maxRecDepth 100000

theorem and_i64 (a b : Nat) (ha : a < 9223372036854775808) (hb : b < 9223372036854775808) : bits .and .i64 (a : Int) (b : Int) = ((a &&& b : Nat) : Int) :=
  (bits_nat .i64 63 (by decide) (fun n h0 h1 => by rw [IntKind.wrap_i64]; omega) a b ha hb).1

theorem xor_i64 (a b : Nat) (ha : a < 9223372036854775808) (hb : b < 9223372036854775808) : bits .xor .i64 (a : Int) (b : Int) = ((a ^^^ b : Nat) : Int) := by
  have ha' : a % 2 ^ 64 = a := Nat.mod_eq_of_lt (by omega)
  have hb' : b % 2 ^ 64 = b := Nat.mod_eq_of_lt (by omega)
  have hx : a ^^^ b < 2 ^ 63 := Nat.xor_lt_two_pow (by omega) (by omega)
  simp only [bits, BitVec.ofInt_natCast, BitVec.toNat_xor, BitVec.toNat_ofNat]
  show IntKind.i64.wrap (((a % 2 ^ 64 ^^^ b % 2 ^ 64 : Nat) : Nat) : Int) = _
  rw [ha', hb', IntKind.wrap_i64]; omega

theorem ret_int {k : IntKind} {a b : Int} (h : a = b) : Ending.returned (.int k a) = .returned (.int k b) := by rw [h]
theorem ret_bool {a b : Bool} (h : a = b) : Ending.returned (.bool a) = .returned (.bool b) := by rw [h]

/-- a size and taps of it -/
def tv (s t : Int) : Bool := decide (2 ≤ s ∧ s ≤ 8 ∧ 1 ≤ t ∧ t < 2 ^ s.toNat)
/-- a register that is valid -/
def rv (s t x : Int) : Bool := tv s t && decide (0 ≤ x ∧ x < 2 ^ s.toNat)

theorem par_last (m s n : Nat) (hm : m < 9223372036854775808) (hs : s < 2) (hp : (s + par m) % 2 = par n) : ((s ^^^ m % 2) + par (m / 2)) % 2 = par n ∧ (s ^^^ m % 2) < 2 := by
  rw [par_step m (by omega)] at hp
  have h1 := par_lt (m / 2)
  rcases (show s = 0 ∨ s = 1 by omega) with rfl | rfl <;> rcases Nat.mod_two_eq_zero_or_one m with e | e <;> rw [e] at hp ⊢ <;> simp <;> omega

theorem pow_le8 (n : Int) (h0 : 0 ≤ n) (h1 : n ≤ 8) : 0 < (2 : Int) ^ n.toNat ∧ (2 : Int) ^ n.toNat ≤ 256 := by
  have h : 2 ^ n.toNat ≤ 2 ^ 8 := Nat.pow_le_pow_right (by decide) (by omega)
  have h' : 0 < 2 ^ n.toNat := Nat.two_pow_pos _
  rw [show ((2 : Int) ^ n.toNat) = ((2 ^ n.toNat : Nat) : Int) by simp]
  omega
theorem pow_ge4 (n : Int) (h1 : 2 ≤ n) : (4 : Int) ≤ 2 ^ n.toNat := by
  have h : 2 ^ 2 ≤ 2 ^ n.toNat := Nat.pow_le_pow_right (by decide) (by omega)
  rw [show ((2 : Int) ^ n.toNat) = ((2 ^ n.toNat : Nat) : Int) by simp]
  omega

theorem in_spec (n l h : Int) (w : World) :
    Calls Tryd.prog 29 #[.int .i64 n, .int .i64 l, .int .i64 h] w fun e w' => e = .returned (.bool (decide (l ≤ n ∧ n ≤ h))) ∧ w = w' := by
  by_cases h1 : l ≤ n
  · by_cases h2 : n ≤ h
    · go_enter Tryd.func29, Tryd.ntmps29
      go_wp2
      go_ret
      exact ⟨by simp [h1, h2], rfl⟩
    · go_enter Tryd.func29, Tryd.ntmps29
      go_wp2
      go_ret
      exact ⟨by simp [h2], rfl⟩
  · go_enter Tryd.func29, Tryd.ntmps29
    go_wp2
    go_ret
    exact ⟨by simp; omega, rfl⟩
theorem two_spec (n : Int) (w : World) (h0 : 0 ≤ n) (h1 : n ≤ 8) :
    Calls Tryd.prog 30 #[.int .i64 n] w fun e w' => e = .returned (.int .i64 (2 ^ n.toNat)) ∧ w = w' := by
  obtain ⟨hp0, hp1⟩ := pow_le8 n h0 h1
  go_enter Tryd.func30, Tryd.ntmps30
  go_wp2
  go_ret
  exact ⟨rfl, rfl⟩
theorem tv_yes {s t : Int} (h : tv s t = true) : 2 ≤ s ∧ s ≤ 8 ∧ 1 ≤ t ∧ t < 2 ^ s.toNat ∧ t < 256 ∧ (4 : Int) ≤ 2 ^ s.toNat ∧ (2 : Int) ^ s.toNat ≤ 256 := by
  unfold tv at h
  have h := of_decide_eq_true h
  obtain ⟨h1, h2, h3, h4⟩ := h
  have := pow_ge4 s h1
  have := pow_le8 s (by omega) h2
  refine ⟨h1, h2, h3, h4, by omega, by omega, by omega⟩
theorem tv_no {s t : Int} (h : tv s t = false) : ¬ (2 ≤ s ∧ s ≤ 8 ∧ 1 ≤ t ∧ t < 2 ^ s.toNat) := of_decide_eq_false h
theorem tv_mk {s t : Int} (h1 : 2 ≤ s) (h2 : s ≤ 8) (h3 : 1 ≤ t) (h4 : t < 2 ^ s.toNat) : tv s t = true := decide_eq_true ⟨h1, h2, h3, h4⟩
theorem tv_mk_no {s t : Int} (h : ¬ (2 ≤ s ∧ s ≤ 8 ∧ 1 ≤ t ∧ t < 2 ^ s.toNat)) : tv s t = false := decide_eq_false h
theorem taps_impl (s t : Int) (w : World) :
    Calls Tryd.prog 24 #[.int .i64 s, .int .i64 t] w fun e w' => e = .returned (.bool (tv s t)) ∧ w = w' := by
  by_cases h1 : 2 ≤ s
  · by_cases h2 : s ≤ 8
    · obtain ⟨hp0, hp1⟩ := pow_le8 s (by omega) h2
      by_cases h3 : 0 < t
      · by_cases h4 : t < 2 ^ s.toNat
        · have E := Lib.hid (tv_mk h1 h2 (by omega) h4)
          go_enter Tryd.func24, Tryd.ntmps24
          go_wp2
          go_ret
          exact ⟨ret_bool E.out.symm, rfl⟩
        · have E := Lib.hid (@tv_mk_no s t (by omega))
          go_enter Tryd.func24, Tryd.ntmps24
          go_wp2
          go_ret
          exact ⟨ret_bool E.out.symm, rfl⟩
      · have E := Lib.hid (@tv_mk_no s t (by omega))
        go_enter Tryd.func24, Tryd.ntmps24
        go_wp2
        go_ret
        exact ⟨ret_bool E.out.symm, rfl⟩
    · have E := Lib.hid (@tv_mk_no s t (by omega))
      go_enter Tryd.func24, Tryd.ntmps24
      go_wp2
      go_ret
      exact ⟨ret_bool E.out.symm, rfl⟩
  · have E := Lib.hid (@tv_mk_no s t (by omega))
    go_enter Tryd.func24, Tryd.ntmps24
    go_wp2
    go_ret
    exact ⟨ret_bool E.out.symm, rfl⟩
theorem taps_spec (s t : Int) (w : World) :
    Calls Tryd.prog 28 #[.int .i64 s, .int .i64 t] w fun e w' => e = .returned (.bool (tv s t)) ∧ w = w' := by
  by_cases h1 : 2 ≤ s ∧ s ≤ 8
  · obtain ⟨h1, h2⟩ := h1
    obtain ⟨hp0, hp1⟩ := pow_le8 s (by omega) h2
    have hd : decide (2 ≤ s ∧ s ≤ 8) = true := decide_eq_true ⟨h1, h2⟩
    have E : Hid (tv s t = (decide (1 ≤ t) && decide (t ≤ 2 ^ s.toNat - 1))) := by
      show _ = _
      unfold tv
      rw [← Bool.decide_and, decide_eq_decide]
      omega
    go_enter Tryd.func28, Tryd.ntmps28
    go_wp2_with fail
    refine (in_spec _ _ _ _).mono ?_
    rintro e w' ⟨rfl, rfl⟩
    go_wp2_with fail
    refine (two_spec _ _ (by omega) (by omega)).mono ?_
    rintro e w' ⟨rfl, rfl⟩
    go_wp2_with fail
    refine (in_spec _ _ _ _).mono ?_
    rintro e w' ⟨rfl, rfl⟩
    go_wp2
    go_ret
    exact ⟨ret_bool E.out.symm, rfl⟩
  · have hd : decide (2 ≤ s ∧ s ≤ 8) = false := decide_eq_false h1
    have E := Lib.hid (@tv_mk_no s t (by omega))
    go_enter Tryd.func28, Tryd.ntmps28
    go_wp2_with fail
    refine (in_spec _ _ _ _).mono ?_
    rintro e w' ⟨rfl, rfl⟩
    go_wp2
    go_ret
    exact ⟨ret_bool E.out.symm, rfl⟩
end Go.Proofs.YtgdnmhigjhfpkaaDoor
