/- Plain facts on sequences of bits that are sums of earlier ones; no program is in sight. -/
import Derived.Test.YtgdnmhigjhfpkaaDoorPlainBits
import Derived.Test.YtgdnmhigjhfpkaaDoorPlainShort
namespace SS
def sumN : Nat → (Nat → Nat) → Nat
  | 0, _ => 0
  | n + 1, f => sumN n f + f n
theorem sumN_congr (n : Nat) (f g : Nat → Nat) (h : ∀ i, i < n → f i = g i) : sumN n f = sumN n g := by
  induction n with
  | zero => rfl
  | succ n ih => rw [sumN, sumN, ih fun i hi => h i (by omega), h n (by omega)]
theorem sumN_mod (n : Nat) (f g : Nat → Nat) (h : ∀ i, i < n → f i % 2 = g i % 2) : sumN n f % 2 = sumN n g % 2 := by
  induction n with
  | zero => rfl
  | succ n ih =>
    have h1 := ih fun i hi => h i (by omega)
    have h2 := h n (by omega)
    rw [sumN, sumN]
    omega
theorem sumN_add (n : Nat) (f g : Nat → Nat) : sumN n (fun i => f i + g i) = sumN n f + sumN n g := by
  induction n with
  | zero => rfl
  | succ n ih => rw [sumN, sumN, sumN, ih]; omega
theorem sumN_mul (n c : Nat) (f : Nat → Nat) : sumN n (fun i => c * f i) = c * sumN n f := by
  induction n with
  | zero => rfl
  | succ n ih => rw [sumN, sumN, ih, Nat.mul_add]
theorem sumN_zero (n : Nat) : sumN n (fun _ => 0) = 0 := by
  induction n with
  | zero => rfl
  | succ n ih => rw [sumN, ih]
theorem sumN_swap (m n : Nat) (f : Nat → Nat → Nat) : sumN m (fun i => sumN n (fun k => f i k)) = sumN n (fun k => sumN m (fun i => f i k)) := by
  induction m with
  | zero => rw [sumN]; exact (sumN_zero n).symm
  | succ m ih =>
    rw [sumN, ih, ← sumN_add]
    rfl
theorem sumN_front (n : Nat) (f : Nat → Nat) : sumN (n + 1) f = f 0 + sumN n (fun i => f (i + 1)) := by
  induction n with
  | zero => simp [sumN]
  | succ n ih => rw [sumN, ih, sumN]; omega
theorem sumN_rev (n : Nat) (f : Nat → Nat) : sumN n (fun i => f (n - 1 - i)) = sumN n f := by
  induction n with
  | zero => rfl
  | succ n ih =>
    rw [sumN_front, sumN, Nat.add_comm]
    congr 1
    rw [← ih]
    exact sumN_congr _ _ _ fun i hi => by congr 1; omega
/-- the digit of a number -/
def dg (t i : Nat) : Nat := t / 2 ^ i % 2
/-- the sum of what taps name -/
def lin (s t : Nat) (g : Nat → Nat) : Nat := sumN s fun i => dg t i * g i
theorem lin_mod (s t : Nat) (f g : Nat → Nat) (h : ∀ i, i < s → f i % 2 = g i % 2) : lin s t f % 2 = lin s t g % 2 :=
  sumN_mod _ _ _ fun i hi => by rw [Nat.mul_mod, h i hi, ← Nat.mul_mod]
theorem lin_add (s t : Nat) (f g : Nat → Nat) : lin s t (fun i => f i + g i) = lin s t f + lin s t g := by
  unfold lin
  rw [← sumN_add]
  exact sumN_congr _ _ _ fun i _ => Nat.mul_add _ _ _
theorem lin_swap (s t S T : Nat) (f : Nat → Nat → Nat) : lin S T (fun k => lin s t (fun i => f i k)) = lin s t (fun i => lin S T (fun k => f i k)) := by
  unfold lin
  have e1 : sumN S (fun k => dg T k * sumN s (fun i => dg t i * f i k)) = sumN S (fun k => sumN s (fun i => dg T k * (dg t i * f i k))) := sumN_congr _ _ _ fun k _ => (sumN_mul _ _ _).symm
  have e2 : sumN s (fun i => dg t i * sumN S (fun k => dg T k * f i k)) = sumN s (fun i => sumN S (fun k => dg t i * (dg T k * f i k))) := sumN_congr _ _ _ fun i _ => (sumN_mul _ _ _).symm
  rw [e1, e2, sumN_swap]
  exact sumN_congr _ _ _ fun i _ => sumN_congr _ _ _ fun k _ => Nat.mul_left_comm _ _ _
/-- the first n bits of a sequence are sums of earlier ones -/
def Rec (s t n : Nat) (b : Nat → Nat) : Prop := ∀ j, j + s < n → b (j + s) % 2 = lin s t (fun i => b (j + i)) % 2
theorem Rec.eq {s t n : Nat} {b c : Nat → Nat} (hb : Rec s t n b) (hc : Rec s t n c) (h : ∀ i, i < s → b i % 2 = c i % 2) (j : Nat) (hj : j < n) : b j % 2 = c j % 2 := by
  induction j using Nat.strongRecOn with
  | _ j ih =>
    by_cases hs : j < s
    · exact h j hs
    · obtain ⟨k, rfl⟩ : ∃ k, j = k + s := ⟨j - s, by omega⟩
      rw [hb k hj, hc k hj]
      exact lin_mod _ _ _ _ fun i hi => ih (k + i) (by omega) (by omega)
/-- two sequences that begin alike for long enough are alike -/
theorem Rec.agree {s t S T : Nat} {b c : Nat → Nat} (hb : ∀ n, Rec s t n b) (hc : ∀ n, Rec S T n c) (h : ∀ j, j < s + S → b j % 2 = c j % 2) (j : Nat) : b j % 2 = c j % 2 := by
  have he : ∀ n, Rec S T n (fun j => c (j + s) + lin s t (fun i => c (j + i))) := by
    intro n j _
    have h1 : c (j + S + s) % 2 = lin S T (fun k => c (j + k + s)) % 2 := by
      have := hc (j + s + S + 1) (j + s) (by omega)
      rw [show j + S + s = j + s + S by omega, this]
      congr 2
      funext k
      congr 1
      omega
    have h2 : lin s t (fun i => c (j + S + i)) % 2 = lin S T (fun k => lin s t (fun i => c (j + k + i))) % 2 := by
      rw [lin_swap]
      refine lin_mod _ _ _ _ fun i _ => ?_
      have := hc (j + i + S + 1) (j + i) (by omega)
      rw [show j + S + i = j + i + S by omega, this]
      congr 2
      funext k
      congr 1
      omega
    show (c (j + S + s) + lin s t (fun i => c (j + S + i))) % 2 = lin S T (fun k => c (j + k + s) + lin s t (fun i => c (j + k + i))) % 2
    rw [lin_add]
    omega
  have hz : ∀ n, Rec S T n (fun _ => 0) := by
    intro n j _
    have : lin S T (fun _ => 0) = 0 := by unfold lin; simp only [Nat.mul_zero]; exact sumN_zero S
    rw [this]
  have hc' : ∀ n, Rec s t n c := by
    intro n j _
    have h0 := Rec.eq (he (j + 1)) (hz (j + 1)) (fun i hi => by
      have e1 := h (i + s) (by omega)
      have e2 := hb (i + s + 1) i (by omega)
      have e3 : lin s t (fun k => c (i + k)) % 2 = lin s t (fun k => b (i + k)) % 2 := lin_mod _ _ _ _ fun k hk => (h (i + k) (by omega)).symm
      show (c (i + s) + lin s t (fun k => c (i + k))) % 2 = 0 % 2
      omega) j (by omega)
    have h0 : (c (j + s) + lin s t (fun i => c (j + i))) % 2 = 0 % 2 := h0
    omega
  exact Rec.eq (hb (j + 1)) (hc' (j + 1)) (fun i hi => h i (by omega)) j (by omega)
/-- the bit at a step -/
def bit (s t x j : Nat) : Nat := it (nx s t) j x % 2
theorem psum_lin (y t k : Nat) : psum y t k = lin k t (fun i => y / 2 ^ i % 2) := by
  induction k with
  | zero => rfl
  | succ k ih =>
    have e : lin (k + 1) t (fun i => y / 2 ^ i % 2) = lin k t (fun i => y / 2 ^ i % 2) + dg t k * (y / 2 ^ k % 2) := rfl
    rw [e, ← ih]
    show psum y t k + (if t / 2 ^ k % 2 = 1 then y / 2 ^ k % 2 else 0) = _
    congr 1
    unfold dg
    rcases Nat.mod_two_eq_zero_or_one (t / 2 ^ k) with e | e <;> rw [e] <;> simp
theorem VR.rec {s t x : Nat} (h : VR s t x) (n : Nat) : Rec s t n (bit s t x) := by
  intro j _
  have hy := h.itnx j
  have h2 := h.1
  have e1 : bit s t x (j + s) = par (it (SS.nx s t) j x &&& t) := by
    unfold bit
    rw [it_add, bit_next s t _ (by omega) hy.2.2.2.2]
  rw [e1, ← psum_all s t _ h.2.1 hy.2.2.2.2, psum_lin, Nat.mod_mod]
  refine congrArg (· % 2) (sumN_congr _ _ _ fun i hi => ?_)
  show dg t i * (it (SS.nx s t) j x / 2 ^ i % 2) = dg t i * (it (SS.nx s t) (j + i) x % 2)
  rw [it_add, bit_low s t _ i (by omega) hi hy.2.2.2.2]
theorem run_bit (s t n x : Nat) : run s t n x = tab n fun j => bt (bit s t x j) := rfl
theorem bit_lt (s t x j : Nat) : bit s t x j < 2 := Nat.mod_lt _ (by decide)
theorem bt_inj {a b : Nat} (ha : a < 2) (hb : b < 2) (h : bt a = bt b) : a = b := by
  have h1 := bt_toNat a ha
  have h2 := bt_toNat b hb
  rw [h] at h1
  omega
theorem run_eq_bits {s t S T n x y : Nat} (h : run s t n x = run S T n y) (j : Nat) (hj : j < n) : bit s t x j = bit S T y j := by
  have h1 := congrArg (fun l => at_ l j) h
  simp only [at_run _ _ _ _ _ hj] at h1
  exact bt_inj (bit_lt _ _ _ _) (bit_lt _ _ _ _) h1
theorem bits_eq_run {s t S T n x y : Nat} (h : ∀ j, j < n → bit s t x j = bit S T y j) : run s t n x = run S T n y :=
  tab_congr _ _ _ fun j hj => by
    have := h j hj
    unfold bit at this
    rw [this]
/-- a register is made of its first bits -/
theorem frm_digit (l : List UInt8) (i : Nat) (h : okB l = true) (hi : i < l.length) : frm l / 2 ^ i % 2 = (at_ l i).toNat - 48 := by
  induction l generalizing i with
  | nil => simp at hi
  | cons c r ih =>
    have hb : c.toNat = 48 ∨ c.toNat = 49 := okB_at (c :: r) h 0 (by simp)
    have hr : okB r = true := by
      unfold okB at h ⊢
      simp at h ⊢
      exact h.2
    cases i with
    | zero =>
      simp [frm, at_]
      omega
    | succ i =>
      have h1 := ih i hr (by simpa using hi)
      have e : at_ (c :: r) (i + 1) = at_ r i := by simp [at_]
      rw [e, ← h1]
      show (c.toNat - 48 + 2 * frm r) / 2 ^ (i + 1) % 2 = _
      rw [Nat.pow_succ, Nat.mul_comm (2 ^ i) 2, ← Nat.div_div_eq_div_mul]
      congr 2
      omega
theorem digits_eq (s x y : Nat) (hx : x < 2 ^ s) (hy : y < 2 ^ s) (h : ∀ i, i < s → x / 2 ^ i % 2 = y / 2 ^ i % 2) : x = y := by
  apply Nat.eq_of_testBit_eq
  intro i
  by_cases hi : i < s
  · have := h i hi
    rw [Nat.testBit_eq_decide_div_mod_eq, Nat.testBit_eq_decide_div_mod_eq, this]
  · rw [Nat.testBit_lt_two_pow (Nat.lt_of_lt_of_le hx (Nat.pow_le_pow_right (by decide) (by omega))), Nat.testBit_lt_two_pow (Nat.lt_of_lt_of_le hy (Nat.pow_le_pow_right (by decide) (by omega)))]
theorem VR.frm {s t x : Nat} (h : VR s t x) (n : Nat) (hn : s ≤ n) : SS.frm ((run s t n x).take s) = x := by
  have hl : ((run s t n x).take s).length = s := by rw [List.length_take, run_length]; omega
  have hok : okB ((run s t n x).take s) = true := okB_take _ _ (okB_run _ _ _ _)
  refine digits_eq s _ _ (by have := frm_lt _ hok; rwa [hl] at this) h.2.2.2.2 fun i hi => ?_
  rw [frm_digit _ _ hok (by omega)]
  have e : at_ ((run s t n x).take s) i = at_ (run s t n x) i := by simp [at_, hi]
  have h2 := h.1
  rw [e, at_run _ _ _ _ _ (by omega), bt_toNat _ (Nat.mod_lt _ (by decide)), bit_low s t x i (by omega) hi h.2.2.2.2]
  omega
theorem at_bit {l : List UInt8} (hok : okB l = true) (i : Nat) : at_ l i = bt ((at_ l i).toNat - 48) := by
  rcases ok_at l hok i with e | e <;> rw [e] <;> rfl
/-- bits that are sums of earlier ones are those of the register that begins with them -/
theorem run_of_rec (s t : Nat) (l : List UInt8) (h2 : 2 ≤ s) (h8 : s ≤ 8) (h1 : 1 ≤ t) (ht : t < 2 ^ s) (hl : s ≤ l.length) (hok : okB l = true)
    (hr : Rec s t l.length (fun j => (at_ l j).toNat - 48)) : run s t l.length (SS.frm (l.take s)) = l := by
  have hv : VR s t (SS.frm (l.take s)) := ⟨h2, h8, h1, ht, frm_take_lt l s hok hl⟩
  have hlt : (l.take s).length = s := by rw [List.length_take]; omega
  apply list_ext (run_length _ _ _ _)
  intro j hj
  rw [run_length] at hj
  rw [at_run _ _ _ _ _ hj, at_bit hok j]
  have h0 : ∀ i, i < s → bit s t (SS.frm (l.take s)) i % 2 = ((at_ l i).toNat - 48) % 2 := by
    intro i hi
    unfold bit
    rw [bit_low s t _ i (by omega) hi hv.2.2.2.2, frm_digit _ _ (okB_take _ _ hok) (by omega)]
    have e : at_ (l.take s) i = at_ l i := by simp [at_, hi]
    rw [e]
  have := Rec.eq (hv.rec l.length) hr h0 j hj
  have hb : ((at_ l j).toNat - 48) % 2 = (at_ l j).toNat - 48 := by rcases ok_at l hok j with e | e <;> rw [e] <;> rfl
  unfold bit at this
  rw [Nat.mod_mod, hb] at this
  rw [this]
end SS
