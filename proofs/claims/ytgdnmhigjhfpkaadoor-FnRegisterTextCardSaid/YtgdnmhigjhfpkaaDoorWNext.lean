/- Contracts of a step of a register and of its undoing. -/
import Derived.Test.YtgdnmhigjhfpkaaDoorWReg
import Derived.StillTailTactics
namespace Go.Proofs.YtgdnmhigjhfpkaaDoor
open Go.RowKit SS
set_option maxRecDepth 100000

theorem lt256 {s x : Nat} (h8 : s ≤ 8) (hx : x < 2 ^ s) : x < 256 := Nat.lt_of_lt_of_le hx (Nat.pow_le_pow_right (n := 2) (by decide) h8)
theorem pow128 {s : Nat} (h2 : 2 ≤ s) (h8 : s ≤ 8) : 2 ≤ 2 ^ (s - 1) ∧ 2 ^ (s - 1) ≤ 128 :=
  ⟨by have := Nat.pow_le_pow_right (n := 2) (by decide) (show 1 ≤ s - 1 by omega); simpa using this, Nat.pow_le_pow_right (n := 2) (by decide) (show s - 1 ≤ 7 by omega)⟩
theorem or_i64 (a b : Nat) (ha : a < 9223372036854775808) (hb : b < 9223372036854775808) : bits .or .i64 (a : Int) (b : Int) = ((a ||| b : Nat) : Int) :=
  (bits_nat .i64 63 (by decide) (fun n h0 h1 => by rw [IntKind.wrap_i64]; omega) a b ha hb).2
theorem step_le {s t x : Nat} (h2 : 2 ≤ s) (h8 : s ≤ 8) : par (x &&& t) * 2 ^ (s - 1) ≤ 128 := by
  have h := pow128 h2 h8
  have := par_lt (x &&& t)
  rcases (show par (x &&& t) = 0 ∨ par (x &&& t) = 1 by omega) with e | e <;> rw [e] <;> omega
theorem next_int {s t x : Nat} (h2 : 2 ≤ s) (h8 : s ≤ 8) (hx : x < 2 ^ s) : bits .or .i64 ((x : Int) / 2) (wrap64 ((par (x &&& t) : Nat) * 2 ^ (s - 1))) = ((nx s t x : Nat) : Int) := by
  have hx' := lt256 h8 hx
  have h := @step_le s t x h2 h8
  have e : ((par (x &&& t) : Nat) : Int) * 2 ^ (s - 1) = ((par (x &&& t) * 2 ^ (s - 1) : Nat) : Int) := by simp
  rw [e, IntWalk.wrap64_in _ ⟨by omega, by omega⟩, show (x : Int) / 2 = ((x / 2 : Nat) : Int) by omega, or_i64 _ _ (by omega) (by omega)]
  unfold nx
  rw [add_eq_or]
  rw [pow_pred s (by omega)] at hx; omega
theorem step_int {s t x : Nat} (h2 : 2 ≤ s) (h8 : s ≤ 8) (hx : x < 2 ^ s) : wrap64 ((x : Int) / 2 + wrap64 ((par (x &&& t) : Nat) * 2 ^ (s - 1))) = ((nx s t x : Nat) : Int) := by
  have hx' := lt256 h8 hx
  have h := @step_le s t x h2 h8
  have e : ((par (x &&& t) : Nat) : Int) * 2 ^ (s - 1) = ((par (x &&& t) * 2 ^ (s - 1) : Nat) : Int) := by simp
  unfold nx
  rw [e, IntWalk.wrap64_in ((par (x &&& t) * 2 ^ (s - 1) : Nat) : Int) ⟨by omega, by omega⟩, IntWalk.wrap64_in _ ⟨by omega, by omega⟩]
  omega

theorem up_int {s x : Nat} (h2 : 2 ≤ s) (h8 : s ≤ 8) (hx : x < 2 ^ s) : bits .and .i64 ((x : Int) * 2) (wrap64 (wrap64 (2 ^ s) - 1)) = ((x % 2 ^ (s - 1) * 2 : Nat) : Int) := by
  have hx' := lt256 h8 hx
  have hp := pow128 h2 h8
  have e : (2 : Int) ^ s = ((2 ^ s : Nat) : Int) := by simp
  have e2 := pow_pred s (by omega)
  rw [e, IntWalk.wrap64_in ((2 ^ s : Nat) : Int) ⟨by omega, by omega⟩, IntWalk.wrap64_in _ ⟨by omega, by omega⟩]
  rw [show (x : Int) * 2 = ((x * 2 : Nat) : Int) by omega, show ((2 ^ s : Nat) : Int) - 1 = ((2 ^ s - 1 : Nat) : Int) by omega, and_i64 _ _ (by omega) (by omega), Nat.and_two_pow_sub_one_eq_mod, e2, Nat.mul_comm 2, Nat.mul_mod_mul_right]
theorem last_int {s t x : Nat} (h2 : 2 ≤ s) (h8 : s ≤ 8) (hx : x < 2 ^ s) :
    bits .or .i64 ((x % 2 ^ (s - 1) * 2 : Nat) : Int) (bits .xor .i64 ((x : Int) / 2 ^ (s - 1)) ((par (x % 2 ^ (s - 1) * 2 &&& t) : Nat) : Int)) = ((bk s t x : Nat) : Int) := by
  have hp := pow128 h2 h8
  have e2 := pow_pred s (by omega)
  have hd : x / 2 ^ (s - 1) < 2 := by rw [Nat.div_lt_iff_lt_mul (by omega)]; omega
  have hm := Nat.mod_lt x (show 0 < 2 ^ (s - 1) by omega)
  have hl := par_lt (x % 2 ^ (s - 1) * 2 &&& t)
  rw [show (x : Int) / 2 ^ (s - 1) = ((x / 2 ^ (s - 1) : Nat) : Int) by simp, xor_i64 _ _ (by omega) (by omega)]
  have hx2 : (x / 2 ^ (s - 1) ^^^ par (x % 2 ^ (s - 1) * 2 &&& t)) = (x / 2 ^ (s - 1) + par (x % 2 ^ (s - 1) * 2 &&& t)) % 2 := by
    generalize x / 2 ^ (s - 1) = a at *
    generalize par (x % 2 ^ (s - 1) * 2 &&& t) = b at *
    rcases (show a = 0 ∨ a = 1 by omega) with rfl | rfl <;> rcases (show b = 0 ∨ b = 1 by omega) with rfl | rfl <;> rfl
  rw [hx2, or_i64 _ _ (by omega) (by omega)]
  unfold bk
  generalize (x / 2 ^ (s - 1) + par (x % 2 ^ (s - 1) * 2 &&& t)) % 2 = c at *
  have hc : c < 2 := by rw [← hx2]; exact Nat.xor_lt_two_pow (n := 1) (by omega) (by omega)
  rw [Nat.add_comm, show c + x % 2 ^ (s - 1) * 2 = c + x % 2 ^ (s - 1) * 2 ^ 1 by simp, add_eq_or 1 c _ (by omega), Nat.or_comm]
theorem up_lt {s x : Nat} (h2 : 2 ≤ s) (h8 : s ≤ 8) : x % 2 ^ (s - 1) * 2 < 256 := by
  have hp := pow128 h2 h8
  have := Nat.mod_lt x (show 0 < 2 ^ (s - 1) by omega)
  omega
/-- a call in a region that reads, behind draws -/
theorem quiet_eqN {P : Program} {f : FuncId} {args : Array Value} {w : World} {m n : Nat} {v : Value}
    (h : Calls P f args ((w.drewN m).drewN n) fun e w' => e = .returned v ∧ (w.drewN m).drewN n = w') : Calls P f args (w.drewN (m + n)) fun e w'' => e = .returned v ∧ ∃ k, w'' = w.drewN (m + k) := by
  rw [World.drewN_drewN] at h
  exact h.mono fun _ _ ⟨he, hm⟩ => ⟨he, n, hm.symm⟩

theorem two_pred (s p : Nat) (w : World) (h2 : 2 ≤ s) (h8 : s ≤ 8) (hp : Hid (p = 2 ^ (s - 1))) :
    Calls Tryd.prog 30 #[.int .i64 ((s : Int) - 1)] w fun e w' => e = .returned (.int .i64 p) ∧ w = w' :=
  (two_spec ((s : Int) - 1) w (by omega) (by omega)).mono fun e w' ⟨he, hw⟩ => ⟨by rw [he, hp.out, show ((s : Int) - 1).toNat = s - 1 by omega]; simp, hw⟩
end Go.Proofs.YtgdnmhigjhfpkaaDoor
