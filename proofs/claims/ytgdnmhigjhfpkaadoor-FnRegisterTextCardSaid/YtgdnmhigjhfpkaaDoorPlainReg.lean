/- Plain facts on shift registers; no program is in sight. -/
namespace SS
def parF : Nat → Nat → Nat
  | 0, _ => 0
  | f + 1, n => (n % 2 + parF f (n / 2)) % 2
def par (n : Nat) : Nat := parF 64 n

theorem parF_lt (f n : Nat) : parF f n < 2 := by
  cases f with
  | zero => simp [parF]
  | succ f => simp only [parF]; omega
theorem par_lt (n : Nat) : par n < 2 := parF_lt _ _
theorem parF_zero (f : Nat) : parF f 0 = 0 := by
  induction f with
  | zero => rfl
  | succ f ih => simp [parF, ih]
theorem par_zero : par 0 = 0 := parF_zero _
theorem parF_more (f n : Nat) (h : n < 2 ^ f) : parF (f + 1) n = parF f n := by
  induction f generalizing n with
  | zero =>
    have : n = 0 := by simpa using h
    subst this; simp [parF]
  | succ f ih =>
    have h2 : n / 2 < 2 ^ f := by rw [Nat.pow_succ] at h; omega
    rw [parF, ih _ h2]; rfl
theorem par_step (n : Nat) (h : n < 2 ^ 64) : par n = (n % 2 + par (n / 2)) % 2 := by
  have h2 : n / 2 < 2 ^ 63 := by omega
  show parF (63 + 1) n = _
  rw [parF]
  show _ = (n % 2 + parF (63 + 1) (n / 2)) % 2
  rw [parF_more 63 _ h2]
theorem xor_mod2 (a b : Nat) : (a ^^^ b) % 2 = (a + b) % 2 := by
  have h := @Nat.xor_mod_two_pow a b 1
  rw [Nat.pow_one] at h
  rw [h]
  rcases Nat.mod_two_eq_zero_or_one a with ha | ha <;> rcases Nat.mod_two_eq_zero_or_one b with hb | hb <;> rw [ha, hb] <;> simp <;> omega
theorem and_mod2 (a b : Nat) : (a &&& b) % 2 = (a % 2) * (b % 2) := by
  have h := @Nat.and_mod_two_pow a b 1
  rw [Nat.pow_one] at h
  rw [h]
  rcases Nat.mod_two_eq_zero_or_one a with ha | ha <;> rcases Nat.mod_two_eq_zero_or_one b with hb | hb <;> rw [ha, hb] <;> simp
theorem parF_xor (f a b : Nat) : parF f (a ^^^ b) = (parF f a + parF f b) % 2 := by
  induction f generalizing a b with
  | zero => rfl
  | succ f ih =>
    simp only [parF]
    rw [Nat.xor_div_two, ih, xor_mod2]
    omega
theorem par_xor (a b : Nat) : par (a ^^^ b) = (par a + par b) % 2 := parF_xor _ _ _
theorem add_eq_xor (k a p : Nat) (h : a < 2 ^ k) (_hp : p < 2) : a + p * 2 ^ k = a ^^^ (p * 2 ^ k) := by
  apply Nat.eq_of_testBit_eq
  intro i
  rw [Nat.add_comm, Nat.mul_comm, Nat.testBit_two_pow_mul_add _ h, Nat.testBit_xor, Nat.mul_comm, Nat.testBit_mul_two_pow]
  by_cases hi : i < k
  · simp [hi, show ¬ k ≤ i by omega]
  · have : a.testBit i = false := Nat.testBit_lt_two_pow (Nat.lt_of_lt_of_le h (Nat.pow_le_pow_right (by decide) (by omega)))
    simp [hi, this]; omega
theorem add_eq_or (k a p : Nat) (h : a < 2 ^ k) : a + p * 2 ^ k = a ||| (p * 2 ^ k) := by
  have := Nat.two_pow_add_eq_or_of_lt h p
  rw [Nat.add_comm, Nat.mul_comm, this, Nat.or_comm, Nat.mul_comm]

/-- the state behind a step -/
def nx (s t x : Nat) : Nat := x / 2 + par (x &&& t) * 2 ^ (s - 1)
/-- the state ahead of a step -/
def bk (s t x : Nat) : Nat := x % 2 ^ (s - 1) * 2 + (x / 2 ^ (s - 1) + par (x % 2 ^ (s - 1) * 2 &&& t)) % 2

theorem pow_pred (s : Nat) (h : 1 ≤ s) : 2 ^ s = 2 * 2 ^ (s - 1) := by
  obtain ⟨k, rfl⟩ : ∃ k, s = k + 1 := ⟨s - 1, by omega⟩
  simp [Nat.pow_succ, Nat.mul_comm]
theorem nx_lt (s t x : Nat) (h : 1 ≤ s) (hx : x < 2 ^ s) : nx s t x < 2 ^ s := by
  unfold nx
  rw [pow_pred s h] at hx ⊢
  have := par_lt (x &&& t)
  rcases (show par (x &&& t) = 0 ∨ par (x &&& t) = 1 by omega) with e | e <;> rw [e] <;> omega
theorem bk_lt (s t x : Nat) (h : 1 ≤ s) : bk s t x < 2 ^ s := by
  unfold bk
  rw [pow_pred s h]
  have h0 : 0 < 2 ^ (s - 1) := Nat.two_pow_pos _
  have := Nat.mod_lt x h0
  omega
theorem nx_xor (s t x y : Nat) (h : 1 ≤ s) (hx : x < 2 ^ s) (hy : y < 2 ^ s) : nx s t (x ^^^ y) = nx s t x ^^^ nx s t y := by
  unfold nx
  rw [pow_pred s h] at hx hy
  have hxy : (x ^^^ y) / 2 < 2 ^ (s - 1) := by rw [Nat.xor_div_two]; exact Nat.xor_lt_two_pow (by omega) (by omega)
  rw [add_eq_xor _ _ _ hxy (par_lt _), add_eq_xor _ _ _ (by omega) (par_lt _), add_eq_xor _ (y / 2) _ (by omega) (par_lt _)]
  rw [Nat.xor_div_two, Nat.and_xor_distrib_right, par_xor]
  have e : (par (x &&& t) + par (y &&& t)) % 2 * 2 ^ (s - 1) = (par (x &&& t) * 2 ^ (s - 1)) ^^^ (par (y &&& t) * 2 ^ (s - 1)) := by
    have h1 := par_lt (x &&& t)
    have h2 := par_lt (y &&& t)
    rcases (show par (x &&& t) = 0 ∨ par (x &&& t) = 1 by omega) with e | e <;> rcases (show par (y &&& t) = 0 ∨ par (y &&& t) = 1 by omega) with e' | e' <;> rw [e, e'] <;> simp
  rw [e]
  generalize x / 2 = A, y / 2 = B, par (x &&& t) * 2 ^ (s - 1) = C, par (y &&& t) * 2 ^ (s - 1) = D
  rw [Nat.xor_assoc, Nat.xor_assoc, ← Nat.xor_assoc B, Nat.xor_comm B C, Nat.xor_assoc]
theorem par_low (u b t : Nat) (hb : b < 2) (hu : u < 2 ^ 62) : par (u * 2 + b &&& t) = (par (u * 2 &&& t) + b * (t % 2)) % 2 := by
  have l1 : (u * 2 + b &&& t) < 2 ^ 64 := Nat.lt_of_le_of_lt Nat.and_le_left (by omega)
  have l2 : (u * 2 &&& t) < 2 ^ 64 := Nat.lt_of_le_of_lt Nat.and_le_left (by omega)
  rw [par_step _ l1, par_step (u * 2 &&& t) l2, Nat.and_div_two, Nat.and_div_two, and_mod2, and_mod2]
  have e1 : (u * 2 + b) / 2 = u := by omega
  have e2 : u * 2 / 2 = u := by omega
  have e3 : (u * 2 + b) % 2 = b := by omega
  have e4 : u * 2 % 2 = 0 := by omega
  rw [e1, e2, e3, e4]
  have := par_lt (u &&& t / 2)
  have ht : t % 2 < 2 := Nat.mod_lt _ (by decide)
  rcases (show t % 2 = 0 ∨ t % 2 = 1 by omega) with e | e <;> rw [e] <;> omega
theorem bk_nx (s t x : Nat) (h : 1 ≤ s) (h8 : s ≤ 60) (hx : x < 2 ^ s) (ht : t % 2 = 1) : bk s t (nx s t x) = x := by
  have hp := pow_pred s h
  have h62 : 2 ^ s ≤ 2 ^ 60 := Nat.pow_le_pow_right (by decide) h8
  have hx2 : x / 2 < 2 ^ (s - 1) := by omega
  have h0 : 0 < 2 ^ (s - 1) := Nat.two_pow_pos _
  have e1 : nx s t x % 2 ^ (s - 1) = x / 2 := by unfold nx; rw [Nat.add_mul_mod_self_right, Nat.mod_eq_of_lt hx2]
  have e2 : nx s t x / 2 ^ (s - 1) = par (x &&& t) := by unfold nx; rw [Nat.add_mul_div_right _ _ h0, Nat.div_eq_of_lt hx2]; omega
  unfold bk
  rw [e1, e2]
  have e3 : par (x &&& t) = (par (x / 2 * 2 &&& t) + x % 2 * (t % 2)) % 2 := by
    have := par_low (x / 2) (x % 2) t (by omega) (by omega)
    rwa [show x / 2 * 2 + x % 2 = x by omega] at this
  rw [e3, ht]
  have := par_lt (x / 2 * 2 &&& t)
  omega
theorem nx_bk (s t x : Nat) (h : 1 ≤ s) (h8 : s ≤ 60) (hx : x < 2 ^ s) (ht : t % 2 = 1) : nx s t (bk s t x) = x := by
  have hp := pow_pred s h
  have h62 : 2 ^ s ≤ 2 ^ 60 := Nat.pow_le_pow_right (by decide) h8
  have h0 : 0 < 2 ^ (s - 1) := Nat.two_pow_pos _
  have hm := Nat.mod_lt x h0
  have hd : x / 2 ^ (s - 1) < 2 := by rw [Nat.div_lt_iff_lt_mul h0]; omega
  have hdm := Nat.div_add_mod x (2 ^ (s - 1))
  unfold bk nx
  generalize x % 2 ^ (s - 1) = r at *
  generalize x / 2 ^ (s - 1) = q at *
  rw [par_low r ((q + par (r * 2 &&& t)) % 2) t (by omega) (by omega), ht]
  have hpl := par_lt (r * 2 &&& t)
  rw [show (r * 2 + (q + par (r * 2 &&& t)) % 2) / 2 = r by omega]
  rw [show (par (r * 2 &&& t) + (q + par (r * 2 &&& t)) % 2 * 1) % 2 = q by omega]
  rw [Nat.mul_comm q]; omega
/-- many times -/
def it (f : Nat → Nat) : Nat → Nat → Nat
  | 0, x => x
  | n + 1, x => it f n (f x)
theorem it_succ (f : Nat → Nat) (n x : Nat) : it f (n + 1) x = f (it f n x) := by
  induction n generalizing x with
  | zero => rfl
  | succ n ih => exact ih (f x)
theorem it_add (f : Nat → Nat) (m n x : Nat) : it f (m + n) x = it f n (it f m x) := by
  induction m generalizing x with
  | zero => simp [it]
  | succ m ih => rw [Nat.add_right_comm]; exact ih (f x)
theorem it_lt (f : Nat → Nat) (b n x : Nat) (h : ∀ y, y < b → f y < b) (hx : x < b) : it f n x < b := by
  induction n generalizing x with
  | zero => exact hx
  | succ n ih => exact ih _ (h _ hx)
/-- a valid register -/
def VR (s t x : Nat) : Prop := 2 ≤ s ∧ s ≤ 8 ∧ 1 ≤ t ∧ t < 2 ^ s ∧ x < 2 ^ s
theorem VR.nx {s t x : Nat} (h : VR s t x) : VR s t (nx s t x) := ⟨h.1, h.2.1, h.2.2.1, h.2.2.2.1, nx_lt s t x (by have := h.1; omega) h.2.2.2.2⟩
theorem VR.bk {s t x : Nat} (h : VR s t x) : VR s t (bk s t x) := ⟨h.1, h.2.1, h.2.2.1, h.2.2.2.1, bk_lt s t x (by have := h.1; omega)⟩
theorem VR.itnx {s t x : Nat} (h : VR s t x) (n : Nat) : VR s t (it (SS.nx s t) n x) := by
  induction n generalizing x with
  | zero => exact h
  | succ n ih => exact ih h.nx
theorem VR.itbk {s t x : Nat} (h : VR s t x) (n : Nat) : VR s t (it (SS.bk s t) n x) := by
  induction n generalizing x with
  | zero => exact h
  | succ n ih => exact ih h.bk
/-- many steps, forth or back -/
def jp (s t : Nat) (k : Int) (x : Nat) : Nat := if 0 ≤ k then it (nx s t) k.toNat x else it (bk s t) (-k).toNat x
theorem VR.jp {s t x : Nat} (h : VR s t x) (k : Int) : VR s t (jp s t k x) := by
  unfold SS.jp
  split
  · exact h.itnx _
  · exact h.itbk _
/-- the letter of a bit -/
def bt (n : Nat) : UInt8 := if n = 0 then 48 else 49
/-- bits of a register, one after the other -/
def run (s t n x : Nat) : List UInt8 := (List.range n).map fun j => bt (it (nx s t) j x % 2)
theorem run_length (s t n x : Nat) : (run s t n x).length = n := by simp [run]
theorem bt_toNat (n : Nat) (h : n < 2) : (bt n).toNat = 48 + n := by
  rcases (show n = 0 ∨ n = 1 by omega) with rfl | rfl <;> rfl
end SS
