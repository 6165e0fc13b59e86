/- Plain facts on shifts that change nothing, and on sums over all indices; no program is in sight. -/
import Derived.Test.YtibnlaphkmnhfaaPlainRot
namespace SS
/-- a shift by k changes nothing -/
def fixL (l : List UInt8) (k : Nat) : Prop := ∀ i, at_ l ((i + k) % l.length) = at_ l (i % l.length)
theorem fixL_add {l : List UInt8} {a b : Nat} (ha : fixL l a) (hb : fixL l b) : fixL l (a + b) := fun i => by
  rw [← Nat.add_assoc, hb (i + a), ha i]
theorem fixL_sub {l : List UInt8} {a b : Nat} (hab : fixL l (a + b)) (ha : fixL l a) : fixL l b := fun i => by
  have h1 := ha (i + b)
  have h2 := hab i
  rw [show i + b + a = i + (a + b) by omega] at h1
  rw [← h1, h2]
theorem fixL_zero (l : List UInt8) : fixL l 0 := fun _ => rfl
theorem fixL_mul {l : List UInt8} {p : Nat} (hp : fixL l p) (q : Nat) : fixL l (q * p) := by
  induction q with
  | zero => rw [Nat.zero_mul]; exact fixL_zero l
  | succ q ih => rw [Nat.succ_mul]; exact fixL_add ih hp
theorem fixL_len (l : List UInt8) : fixL l l.length := fun i => by rw [Nat.add_mod_right]
theorem fixL_mod (l : List UInt8) (k : Nat) : fixL l (k % l.length) ↔ fixL l k := by
  unfold fixL
  constructor <;> intro h i <;> have := h i <;> rw [Nat.add_mod_mod] at * <;> exact this
theorem rot_fix (l : List UInt8) (k : Nat) (h : 1 ≤ l.length) (hk : k ≤ l.length) : rot k l = l ↔ fixL l k := by
  by_cases hlt : k < l.length
  · constructor
    · intro e i
      have hi := Nat.mod_lt i (show 0 < l.length by omega)
      have := at_rot k l hlt (i % l.length) hi
      rw [e] at this
      rw [this, Nat.mod_add_mod]
    · intro hf
      apply list_ext (rot_length k l hk)
      intro i hi
      rw [rot_length k l hk] at hi
      rw [at_rot k l hlt i hi, hf i, Nat.mod_eq_of_lt hi]
  · obtain rfl : k = l.length := by omega
    exact ⟨fun _ => fixL_len l, fun _ => rot_all l⟩
/-- the least shift that changes nothing tells all of them -/
theorem fix_iff {l : List UInt8} {p : Nat} (h1 : 1 ≤ p) (hp : fixL l p) (hm : ∀ k, 1 ≤ k → k < p → ¬ fixL l k) (k : Nat) : fixL l k ↔ k % p = 0 := by
  constructor
  · intro hk
    have e : p * (k / p) + k % p = k := Nat.div_add_mod k p
    have hr : fixL l (k % p) := fixL_sub (a := p * (k / p)) (by rw [e]; exact hk) (by rw [Nat.mul_comm]; exact fixL_mul hp _)
    by_cases hz : k % p = 0
    · exact hz
    · exact absurd hr (hm _ (by omega) (Nat.mod_lt _ (by omega)))
  · intro hk
    have e : k / p * p + k % p = k := by rw [Nat.mul_comm]; exact Nat.div_add_mod k p
    rw [← e, hk]
    exact fixL_mul hp _
theorem fix_rot (l : List UInt8) (j k : Nat) (hj : j < l.length) : fixL (rot j l) k ↔ fixL l k := by
  have hl := rot_length j l (by omega)
  have hn : 0 < l.length := by omega
  have hat : ∀ i, at_ (rot j l) (i % l.length) = at_ l ((i + j) % l.length) := fun i => by
    rw [at_rot j l hj _ (Nat.mod_lt _ hn), Nat.mod_add_mod]
  unfold fixL
  rw [hl]
  constructor
  · intro h i
    have := h (i + (l.length - j))
    rw [hat, hat, show i + (l.length - j) + k + j = i + k + l.length by omega, show i + (l.length - j) + j = i + l.length by omega, Nat.add_mod_right, Nat.add_mod_right] at this
    exact this
  · intro h i
    rw [hat, hat]
    have := h (i + j)
    rw [show i + j + k = i + k + j by omega] at this
    exact this
theorem fix_rev (l : List UInt8) (k : Nat) (hn : 1 ≤ l.length) : fixL (revL l) k ↔ fixL l k := by
  have key : ∀ m : List UInt8, 1 ≤ m.length → fixL m k → fixL (revL m) k := by
    intro m hm h i
    rw [revL_length]
    have h1 := Nat.mod_lt (i + k) (show 0 < m.length by omega)
    have h2 := Nat.mod_lt i (show 0 < m.length by omega)
    rw [at_revL m _ h1, at_revL m _ h2]
    have h3 := h (m.length - 1 - (i + k) % m.length)
    rw [Nat.mod_eq_of_lt (show m.length - 1 - (i + k) % m.length < m.length by omega)] at h3
    rw [← h3]
    congr 1
    have e : (m.length - 1 - (i + k) % m.length + k) % m.length = (m.length - 1 - i % m.length) % m.length := by
      have e1 := Nat.div_add_mod (i + k) m.length
      have e2 := Nat.div_add_mod i m.length
      have : (m.length - 1 - (i + k) % m.length + k) + m.length * (i / m.length) = (m.length - 1 - i % m.length) + m.length * ((i + k) / m.length) := by omega
      have h4 : ((m.length - 1 - (i + k) % m.length + k) + m.length * (i / m.length)) % m.length = ((m.length - 1 - i % m.length) + m.length * ((i + k) / m.length)) % m.length := by rw [this]
      rw [Nat.add_mul_mod_self_left, Nat.add_mul_mod_self_left] at h4
      exact h4
    rw [e, Nat.mod_eq_of_lt (by omega)]
  constructor
  · intro h
    have := key (revL l) (by rw [revL_length]; exact hn) h
    rwa [revL_eq, revL_eq, List.reverse_reverse] at this
  · exact key l hn
theorem rev_rev (l : List UInt8) : revL (revL l) = l := by rw [revL_eq, revL_eq, List.reverse_reverse]
/-- sums -/
theorem sumTo_add (a b : Nat) (f : Nat → Int) : sumTo (a + b) f = sumTo a f + sumTo b (fun i => f (a + i)) := by
  induction b with
  | zero => simp [sumTo]
  | succ b ih => rw [← Nat.add_assoc]; simp only [sumTo]; rw [ih]; omega
theorem sumTo_plus (n : Nat) (f g : Nat → Int) : sumTo n (fun i => f i + g i) = sumTo n f + sumTo n g := by
  induction n with
  | zero => rfl
  | succ n ih => simp only [sumTo]; rw [ih]; omega
theorem sumTo_mul (n : Nat) (c : Int) (f : Nat → Int) : sumTo n (fun i => c * f i) = c * sumTo n f := by
  induction n with
  | zero => simp [sumTo]
  | succ n ih => simp only [sumTo]; rw [ih, Int.mul_add]
theorem sumTo_zero (n : Nat) : sumTo n (fun _ => 0) = 0 := by
  induction n with
  | zero => rfl
  | succ n ih => simp only [sumTo]; rw [ih]; rfl
theorem sumTo_swap (m n : Nat) (f : Nat → Nat → Int) : sumTo m (fun i => sumTo n (fun k => f i k)) = sumTo n (fun k => sumTo m (fun i => f i k)) := by
  induction m with
  | zero => simp only [sumTo]; rw [sumTo_zero]
  | succ m ih => simp only [sumTo]; rw [ih, ← sumTo_plus]
theorem sumTo_front (n : Nat) (f : Nat → Int) : sumTo (n + 1) f = f 0 + sumTo n (fun i => f (i + 1)) := by
  induction n with
  | zero => simp [sumTo]
  | succ n ih => rw [sumTo, ih]; simp only [sumTo]; omega
theorem sumTo_rev (n : Nat) (f : Nat → Int) : sumTo n (fun i => f (n - 1 - i)) = sumTo n f := by
  induction n generalizing f with
  | zero => rfl
  | succ n ih =>
    rw [sumTo_front, sumTo]
    rw [sumTo_congr n (fun i => f (n + 1 - 1 - (i + 1))) (fun i => f (n - 1 - i)) (fun i hi => by congr 1; omega), ih f]
    rw [show n + 1 - 1 - 0 = n by omega]
    omega
theorem sumTo_top (n : Nat) (f : Nat → Int) (h : ∀ i, i < n → f i ≤ 1) : sumTo n f = n ↔ ∀ i, i < n → f i = 1 := by
  induction n with
  | zero => simp [sumTo]
  | succ n ih =>
    have ih' := ih fun i hi => h i (by omega)
    have hb : sumTo n f ≤ n := by
      clear ih ih'
      induction n with
      | zero => simp [sumTo]
      | succ n ih => have := ih (fun i hi => h i (by omega)); have := h n (by omega); simp only [sumTo]; omega
    have hn := h n (by omega)
    simp only [sumTo]
    constructor
    · intro e i hi
      by_cases hin : i < n
      · exact ih'.1 (by omega) i hin
      · obtain rfl : i = n := by omega
        omega
    · intro e
      have := ih'.2 fun i hi => e i (by omega)
      have := e n (by omega)
      omega
/-- a sum over all indices does not depend on where it begins -/
theorem sumTo_cyc (n k : Nat) (f : Nat → Int) (hk : k ≤ n) : sumTo n (fun i => f ((i + k) % n)) = sumTo n f := by
  have e1 : sumTo n (fun i => f ((i + k) % n)) = sumTo ((n - k) + k) (fun i => f ((i + k) % n)) := by rw [Nat.sub_add_cancel hk]
  have e2 : sumTo n f = sumTo (k + (n - k)) f := by rw [Nat.add_sub_cancel' hk]
  rw [e1, e2, sumTo_add, sumTo_add]
  have h1 : sumTo (n - k) (fun i => f ((i + k) % n)) = sumTo (n - k) (fun i => f (k + i)) := sumTo_congr _ _ _ fun i hi => by
    rw [Nat.mod_eq_of_lt (by omega), Nat.add_comm]
  have h2 : sumTo k (fun i => f ((n - k + i + k) % n)) = sumTo k f := sumTo_congr _ _ _ fun i hi => by
    rw [show n - k + i + k = i + n by omega, Nat.add_mod_right, Nat.mod_eq_of_lt (by omega)]
  rw [h1, h2]
  omega
theorem eqv_comm (c d : UInt8) : eqv c d = eqv d c := by unfold eqv; by_cases h : c = d <;> simp [h]; intro e; exact absurd e.symm h
/-- the correlation is full exactly if the sequences agree -/
theorem cor_full (a b : List UInt8) (k : Nat) (hl : a.length = b.length) (hk : k < b.length) (ha : okB a = true) (hb : okB b = true) : cor a b k = a.length ↔ rot k b = a := by
  unfold cor
  rw [sumTo_top _ _ fun i _ => (sg_mul_bd _ _).2]
  constructor
  · intro h
    apply list_ext (by rw [rot_length _ _ (by omega), hl])
    intro i hi
    rw [rot_length _ _ (by omega)] at hi
    have := h i (by omega)
    rw [sg_mul _ _ (ok_at a ha _) (ok_at b hb _)] at this
    unfold eqv at this
    rw [at_rot k b hk i hi]
    split at this
    · rename_i e; exact e.symm
    · omega
  · intro e i hi
    rw [← at_rot k b hk i (by omega), e, sg_mul _ _ (ok_at a ha _) (ok_at a ha _)]
    simp [eqv]
/-- what repeats is what does not, in two parts -/
theorem cor_apr (l : List UInt8) (k : Nat) (hk : k < l.length) (hl : okB l = true) : cor l l k = apr l k + if 0 < k then apr l (l.length - k) else 0 := by
  have e : cor l l k = sumTo ((l.length - k) + k) fun i => eqv (at_ l i) (at_ l ((i + k) % l.length)) := by
    unfold cor
    rw [Nat.sub_add_cancel (by omega)]
    exact sumTo_congr _ _ _ fun i _ => sg_mul _ _ (ok_at l hl _) (ok_at l hl _)
  rw [e, sumTo_add]
  unfold apr
  congr 1
  · exact sumTo_congr _ _ _ fun i hi => by rw [Nat.mod_eq_of_lt (by omega)]
  · by_cases h0 : 0 < k
    · rw [if_pos h0, show l.length - (l.length - k) = k by omega]
      exact sumTo_congr _ _ _ fun i hi => by
        rw [show l.length - k + i + k = i + l.length by omega, Nat.add_mod_right, Nat.mod_eq_of_lt (by omega), eqv_comm, Nat.add_comm]
    · rw [if_neg h0, show k = 0 by omega]
      rfl
theorem apr_rev (l : List UInt8) (k : Nat) (hk : k < l.length) : apr (revL l) k = apr l k := by
  unfold apr
  rw [revL_length, ← sumTo_rev (l.length - k) (fun i => eqv (at_ l i) (at_ l (i + k)))]
  exact sumTo_congr _ _ _ fun i hi => by
    rw [at_revL l i (by omega), at_revL l (i + k) (by omega), eqv_comm]
    congr 2 <;> omega
theorem apr_bd (l : List UInt8) (k : Nat) (hk : k ≤ l.length) : (k : Int) - l.length ≤ apr l k ∧ apr l k ≤ (l.length : Int) - k := by
  have := sumTo_bound (l.length - k) (fun i => eqv (at_ l i) (at_ l (i + k))) fun _ _ => eqv_bd _ _
  unfold apr
  omega
theorem dec_dec (k m : Nat) (l : List UInt8) (h : 1 ≤ l.length) : decL m (decL k l) = decL (k * m % l.length) l := by
  apply list_ext (by rw [decL_length, decL_length, decL_length])
  intro i hi
  rw [decL_length, decL_length] at hi
  rw [at_decL m _ i (by rw [decL_length]; exact hi), decL_length, at_decL k l _ (Nat.mod_lt _ (by omega)), at_decL _ l i hi]
  congr 1
  rw [Nat.mul_mod, Nat.mod_mod, ← Nat.mul_mod, ← Nat.mul_assoc, Nat.mul_mod (k * m % l.length), Nat.mod_mod, ← Nat.mul_mod]
theorem dec_one (l : List UInt8) : decL 1 l = l := by
  apply list_ext (decL_length _ _)
  intro i hi
  rw [decL_length] at hi
  rw [at_decL 1 l i hi, Nat.one_mul, Nat.mod_eq_of_lt hi]
end SS
