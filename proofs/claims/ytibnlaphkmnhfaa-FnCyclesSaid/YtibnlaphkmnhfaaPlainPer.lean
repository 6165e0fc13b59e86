/- Plain facts on leads and periods of registers; no program is in sight. -/
import Derived.Test.YtibnlaphkmnhfaaPlainOrb
import Derived.Test.YtibnlaphkmnhfaaPlainJump
import Derived.Test.YtibnlaphkmnhfaaPlainAdd
namespace SS
theorem par_mul_pow (m i : Nat) (h : m * 2 ^ i < 2 ^ 64) : par (m * 2 ^ i) = par m := by
  induction i with
  | zero => simp
  | succ i ih =>
    rw [Nat.pow_succ, ← Nat.mul_assoc] at h ⊢
    rw [par_step _ h, show m * 2 ^ i * 2 % 2 = 0 by omega, show m * 2 ^ i * 2 / 2 = m * 2 ^ i by omega, ih (by omega)]
    have := par_lt m
    omega
theorem and_mul_pow (x u i : Nat) : x &&& (u * 2 ^ i) = (x / 2 ^ i &&& u) * 2 ^ i := by
  apply Nat.eq_of_testBit_eq
  intro j
  rw [Nat.testBit_and, Nat.testBit_mul_two_pow, Nat.testBit_mul_two_pow, Nat.testBit_and, Nat.testBit_div_two_pow]
  by_cases h : i ≤ j
  · simp [h]
  · simp [h]
/-- the upper cells are a register of their own if no lower cell has a tap -/
theorem nx_up (s u i x : Nat) (hi : i < s) (hs : s ≤ 8) (hx : x < 2 ^ s) : nx s (u * 2 ^ i) x / 2 ^ i = nx (s - i) u (x / 2 ^ i) := by
  have hx8 : x < 2 ^ 8 := Nat.lt_of_lt_of_le hx (Nat.pow_le_pow_right (by decide) hs)
  unfold nx
  have e : 2 ^ (s - 1) = 2 ^ (s - i - 1) * 2 ^ i := by rw [← Nat.pow_add]; congr 1; omega
  have hp : par (x &&& (u * 2 ^ i)) = par (x / 2 ^ i &&& u) := by
    have hl : x &&& (u * 2 ^ i) < 2 ^ 64 := Nat.lt_of_le_of_lt Nat.and_le_left (by omega)
    rw [and_mul_pow] at hl ⊢
    exact par_mul_pow _ _ hl
  rw [hp]
  generalize par (x / 2 ^ i &&& u) = q
  have e1 : (x / 2 + q * 2 ^ (s - 1)) / 2 ^ i = x / 2 / 2 ^ i + q * 2 ^ (s - i - 1) := by
    rw [e, ← Nat.mul_assoc]
    exact Nat.add_mul_div_right _ _ (Nat.two_pow_pos _)
  have e2 : x / 2 / 2 ^ i = x / 2 ^ i / 2 := by rw [Nat.div_div_eq_div_mul, Nat.div_div_eq_div_mul, Nat.mul_comm]
  rw [e1, e2]
theorem it_up (s u i n x : Nat) (hi : i < s) (hs : s ≤ 8) (hx : x < 2 ^ s) : it (nx s (u * 2 ^ i)) n x / 2 ^ i = it (nx (s - i) u) n (x / 2 ^ i) := by
  induction n generalizing x with
  | zero => rfl
  | succ n ih =>
    show it (nx s (u * 2 ^ i)) n (nx s (u * 2 ^ i) x) / 2 ^ i = it (nx (s - i) u) n (nx (s - i) u (x / 2 ^ i))
    rw [ih _ (nx_lt _ _ _ (by omega) hx), nx_up s u i x hi hs hx]
theorem it_small (s u i k d : Nat) (hk : k ≤ i) (hd : d < 2 ^ i) : it (nx s (u * 2 ^ i)) k d = d / 2 ^ k := by
  induction k generalizing d with
  | zero => simp [it]
  | succ k ih =>
    show it (nx s (u * 2 ^ i)) k (nx s (u * 2 ^ i) d) = _
    have e : nx s (u * 2 ^ i) d = d / 2 := by
      unfold nx
      rw [and_mul_pow, Nat.div_eq_of_lt hd, Nat.zero_and, Nat.zero_mul, par_zero, Nat.zero_mul, Nat.add_zero]
    rw [e, ih (d / 2) (by omega) (by omega), Nat.div_div_eq_div_mul, Nat.pow_succ, Nat.mul_comm]
/-- as many steps as lower cells without taps forget these cells -/
theorem it_forget (s u i a b : Nat) (h1 : 1 ≤ s) (ha : a < 2 ^ s) (hb : b < 2 ^ s) (h : a / 2 ^ i = b / 2 ^ i) : it (nx s (u * 2 ^ i)) i a = it (nx s (u * 2 ^ i)) i b := by
  have hd : a ^^^ b < 2 ^ i := by
    have : (a ^^^ b) / 2 ^ i = 0 := by rw [Nat.xor_div_two_pow, h, Nat.xor_self]
    rcases Nat.lt_or_ge (a ^^^ b) (2 ^ i) with hl | hg
    · exact hl
    · have := Nat.div_pos hg (Nat.two_pow_pos i)
      omega
  have e := it_xor s (u * 2 ^ i) h1 i a b ha hb
  rw [it_small s u i i _ (Nat.le_refl _) hd, Nat.div_eq_of_lt hd] at e
  have : ∀ p q : Nat, 0 = p ^^^ q → p = q := by
    intro p q h
    have k : (p ^^^ q) ^^^ q = p := by rw [Nat.xor_assoc, Nat.xor_self, Nat.xor_zero]
    rw [← h, Nat.zero_xor] at k
    exact k.symm
  exact this _ _ e
theorem it_inj {s t : Nat} (h1 : 1 ≤ s) (h8 : s ≤ 60) (ho : t % 2 = 1) (n a b : Nat) (ha : a < 2 ^ s) (hb : b < 2 ^ s) (h : it (nx s t) n a = it (nx s t) n b) : a = b := by
  induction n generalizing a b with
  | zero => exact h
  | succ n ih =>
    have := ih (nx s t a) (nx s t b) (nx_lt _ _ _ h1 ha) (nx_lt _ _ _ h1 hb) h
    rw [← bk_nx s t a h1 h8 ha ho, ← bk_nx s t b h1 h8 hb ho, this]
/-- the lowest tap -/
theorem low_tap (t : Nat) (h : 1 ≤ t) : ∃ u i, t = u * 2 ^ i ∧ u % 2 = 1 := by
  induction t using Nat.strongRecOn with
  | _ t ih =>
    by_cases ho : t % 2 = 1
    · exact ⟨t, 0, by simp, ho⟩
    · obtain ⟨u, i, e, hu⟩ := ih (t / 2) (by omega) (by omega)
      exact ⟨u, i + 1, by rw [Nat.pow_succ, ← Nat.mul_assoc, ← e]; omega, hu⟩
theorem VR.lead {s t x : Nat} (h : VR s t x) : orbI (SS.nx s t) x ≤ s ∧ (t % 2 = 1 → orbI (SS.nx s t) x = 0) := by
  obtain ⟨⟨hI, he, hd⟩, hN⟩ := h.orb
  have hl := fun n => itnx_lt s t x h n
  obtain ⟨h2, h8, ht1, ht2, hx⟩ := h
  generalize orbI (SS.nx s t) x = I at *
  generalize orbN (SS.nx s t) x = N at *
  obtain ⟨u, i, ht, hu⟩ := low_tap t ht1
  have hi : i < s := by
    rcases Nat.lt_or_ge i s with hl | hg
    · exact hl
    · exfalso
      have h1 := Nat.pow_le_pow_right (n := 2) (by decide) hg
      have hu1 : 1 ≤ u := by omega
      have := Nat.mul_le_mul hu1 (Nat.le_refl (2 ^ i))
      omega
  have key : I ≤ i := by
    rcases Nat.lt_or_ge i I with hlt | hge
    · exfalso
      have ea : it (SS.nx s t) I x = it (SS.nx s t) (i + 1) (it (SS.nx s t) (I - 1 - i) x) := by rw [← it_add]; congr 1; omega
      have eb : it (SS.nx s t) N x = it (SS.nx s t) (i + 1) (it (SS.nx s t) (N - 1 - i) x) := by rw [← it_add]; congr 1; omega
      have ha := hl (I - 1 - i)
      have hb := hl (N - 1 - i)
      rw [ea, eb] at he
      have e1 : it (SS.nx s t) i (it (SS.nx s t) (I - 1 - i) x) = it (SS.nx s t) i (it (SS.nx s t) (N - 1 - i) x) := by
        generalize it (SS.nx s t) (I - 1 - i) x = a at *
        generalize it (SS.nx s t) (N - 1 - i) x = b at *
        subst ht
        refine it_forget s u i a b (by omega) ha hb ?_
        have e2 := congrArg (· / 2 ^ i) he
        simp only [it_up s u i _ _ hi h8 ha, it_up s u i _ _ hi h8 hb] at e2
        have hp : 2 ^ s = 2 ^ (s - i) * 2 ^ i := by rw [← Nat.pow_add]; congr 1; omega
        refine it_inj (s := s - i) (t := u) (by omega) (by omega) hu (i + 1) _ _ ?_ ?_ e2
        · rw [Nat.div_lt_iff_lt_mul (Nat.two_pow_pos _), ← hp]; exact ha
        · rw [Nat.div_lt_iff_lt_mul (Nat.two_pow_pos _), ← hp]; exact hb
      rw [← it_add, ← it_add] at e1
      exact hd (I - 1) (N - 1) (by omega) (by omega) (by rw [show I - 1 = I - 1 - i + i by omega, show N - 1 = N - 1 - i + i by omega]; exact e1)
    · exact hge
  refine ⟨by omega, fun ho => ?_⟩
  have : i = 0 := by
    rcases Nat.eq_zero_or_pos i with e | hp
    · exact e
    · exfalso
      obtain ⟨k, rfl⟩ : ∃ k, i = k + 1 := ⟨i - 1, by omega⟩
      rw [ht, Nat.pow_succ, ← Nat.mul_assoc] at ho
      omega
  omega
/-- behind the lead a state comes back after the period and not before -/
theorem VR.comes {s t x : Nat} (h : VR s t x) (i : Nat) (h1 : 1 ≤ i) (hi : i ≤ orbN (SS.nx s t) x - orbI (SS.nx s t) x) :
    (it (SS.nx s t) (orbI (SS.nx s t) x + i) x = it (SS.nx s t) (orbI (SS.nx s t) x) x) ↔ i = orbN (SS.nx s t) x - orbI (SS.nx s t) x := by
  obtain ⟨⟨hI, he, hd⟩, _⟩ := h.orb
  generalize orbI (SS.nx s t) x = I at *
  generalize orbN (SS.nx s t) x = N at *
  constructor
  · intro e
    rcases Nat.lt_or_ge (I + i) N with hl | hg
    · exact absurd e.symm (hd I (I + i) (by omega) hl)
    · omega
  · intro e
    rw [e, show I + (N - I) = N by omega, he]
/-- no state of the lead comes back -/
theorem VR.lost {s t x : Nat} (h : VR s t x) (i : Nat) (hi : i < orbI (SS.nx s t) x) :
    it (SS.nx s t) (i + (orbN (SS.nx s t) x - orbI (SS.nx s t) x)) x ≠ it (SS.nx s t) i x := by
  obtain ⟨⟨hI, he, hd⟩, _⟩ := h.orb
  intro e
  exact hd i _ (by omega) (by omega) e.symm
end SS
