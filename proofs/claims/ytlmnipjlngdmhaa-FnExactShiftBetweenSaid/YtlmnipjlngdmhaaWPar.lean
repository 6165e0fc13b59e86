/- Contracts of the functions that reckon with integers alone. -/
import Derived.Test.YtlmnipjlngdmhaaChecked
import Derived.Test.YtlmnipjlngdmhaaPlainReg
import Derived.WalkKit
import Derived.Lib.Hide
namespace Go.Proofs.Ytlmnipjlngdmhaa
open Go.RowKit SS

theorem and_i64 (a b : Nat) (ha : a < 9223372036854775808) (hb : b < 9223372036854775808) : bits .and .i64 (a : Int) (b : Int) = ((a &&& b : Nat) : Int) :=
  (bits_nat .i64 63 (by decide) (fun n h0 h1 => by rw [IntKind.wrap_i64]; omega) a b ha hb).1

theorem xor_i64 (a b : Nat) (ha : a < 9223372036854775808) (hb : b < 9223372036854775808) : bits .xor .i64 (a : Int) (b : Int) = ((a ^^^ b : Nat) : Int) := by
  have ha' : a % 2 ^ 64 = a := Nat.mod_eq_of_lt (by omega)
  have hb' : b % 2 ^ 64 = b := Nat.mod_eq_of_lt (by omega)
  have hx : a ^^^ b < 2 ^ 63 := Nat.xor_lt_two_pow (by omega) (by omega)
  simp only [bits, BitVec.ofInt_natCast, BitVec.toNat_xor, BitVec.toNat_ofNat]
  show IntKind.i64.wrap (((a % 2 ^ 64 ^^^ b % 2 ^ 64 : Nat) : Nat) : Int) = _
  rw [ha', hb', IntKind.wrap_i64]; omega

theorem ret_int {k : IntKind} {a b : Int} (h : a = b) : Ending.returned (.int k a) = .returned (.int k b) := by rw [h]
theorem ret_bool {a b : Bool} (h : a = b) : Ending.returned (.bool a) = .returned (.bool b) := by rw [h]

/-- a size and taps of it -/
def tv (s t : Int) : Bool := decide (2 ≤ s ∧ s ≤ 8 ∧ 1 ≤ t ∧ t < 2 ^ s.toNat)
/-- a register that is valid -/
def rv (s t x : Int) : Bool := tv s t && decide (0 ≤ x ∧ x < 2 ^ s.toNat)

theorem par_last (m s n : Nat) (hm : m < 9223372036854775808) (hs : s < 2) (hp : (s + par m) % 2 = par n) : ((s ^^^ m % 2) + par (m / 2)) % 2 = par n ∧ (s ^^^ m % 2) < 2 := by
  rw [par_step m (by omega)] at hp
  have h1 := par_lt (m / 2)
  rcases (show s = 0 ∨ s = 1 by omega) with rfl | rfl <;> rcases Nat.mod_two_eq_zero_or_one m with e | e <;> rw [e] at hp ⊢ <;> simp <;> omega

theorem pow_le8 (n : Int) (h0 : 0 ≤ n) (h1 : n ≤ 8) : 0 < (2 : Int) ^ n.toNat ∧ (2 : Int) ^ n.toNat ≤ 256 := by
  have h : 2 ^ n.toNat ≤ 2 ^ 8 := Nat.pow_le_pow_right (by decide) (by omega)
  have h' : 0 < 2 ^ n.toNat := Nat.two_pow_pos _
  rw [show ((2 : Int) ^ n.toNat) = ((2 ^ n.toNat : Nat) : Int) by simp]
  omega
theorem pow_ge4 (n : Int) (h1 : 2 ≤ n) : (4 : Int) ≤ 2 ^ n.toNat := by
  have h : 2 ^ 2 ≤ 2 ^ n.toNat := Nat.pow_le_pow_right (by decide) (by omega)
  rw [show ((2 : Int) ^ n.toNat) = ((2 ^ n.toNat : Nat) : Int) by simp]
  omega

theorem in_spec (n l h : Int) (w : World) :
    Calls Try.prog 40 #[.int .i64 n, .int .i64 l, .int .i64 h] w fun e w' => e = .returned (.bool (decide (l ≤ n ∧ n ≤ h))) ∧ w = w' := by
  by_cases h1 : l ≤ n
  · by_cases h2 : n ≤ h
    · go_enter Try.func40, Try.ntmps40
      go_wp2
      go_ret
      exact ⟨by simp [h1, h2], rfl⟩
    · go_enter Try.func40, Try.ntmps40
      go_wp2
      go_ret
      exact ⟨by simp [h2], rfl⟩
  · go_enter Try.func40, Try.ntmps40
    go_wp2
    go_ret
    exact ⟨by simp; omega, rfl⟩
theorem tv_yes {s t : Int} (h : tv s t = true) : 2 ≤ s ∧ s ≤ 8 ∧ 1 ≤ t ∧ t < 2 ^ s.toNat ∧ t < 256 ∧ (4 : Int) ≤ 2 ^ s.toNat ∧ (2 : Int) ^ s.toNat ≤ 256 := by
  unfold tv at h
  have h := of_decide_eq_true h
  obtain ⟨h1, h2, h3, h4⟩ := h
  have := pow_ge4 s h1
  have := pow_le8 s (by omega) h2
  refine ⟨h1, h2, h3, h4, by omega, by omega, by omega⟩
theorem tv_no {s t : Int} (h : tv s t = false) : ¬ (2 ≤ s ∧ s ≤ 8 ∧ 1 ≤ t ∧ t < 2 ^ s.toNat) := of_decide_eq_false h
theorem tv_mk {s t : Int} (h1 : 2 ≤ s) (h2 : s ≤ 8) (h3 : 1 ≤ t) (h4 : t < 2 ^ s.toNat) : tv s t = true := decide_eq_true ⟨h1, h2, h3, h4⟩
theorem tv_mk_no {s t : Int} (h : ¬ (2 ≤ s ∧ s ≤ 8 ∧ 1 ≤ t ∧ t < 2 ^ s.toNat)) : tv s t = false := decide_eq_false h
end Go.Proofs.Ytlmnipjlngdmhaa
