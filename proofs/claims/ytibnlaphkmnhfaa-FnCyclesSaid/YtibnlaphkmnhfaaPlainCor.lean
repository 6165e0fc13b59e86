/- Plain facts on sums and correlations of sequences; no program is in sight. -/
import Derived.Test.YtibnlaphkmnhfaaPlainLeast
namespace SS
theorem bx_self (c d : UInt8) (hc : c = 48 ∨ c = 49) (hd : d = 48 ∨ d = 49) : bx (bx c d) d = c := by
  rcases hc with rfl | rfl <;> rcases hd with rfl | rfl <;> rfl
theorem bx_comm (c d : UInt8) : bx c d = bx d c := by unfold bx; by_cases h : c = d <;> simp [h]; intro e; exact absurd e.symm h
theorem bx_bn (c d : UInt8) (hc : c = 48 ∨ c = 49) (hd : d = 48 ∨ d = 49) : bx (bn c) d = bn (bx c d) := by
  rcases hc with rfl | rfl <;> rcases hd with rfl | rfl <;> rfl
theorem sg_bn (c : UInt8) (hc : c = 48 ∨ c = 49) : sg (bn c) = - sg c := by rcases hc with rfl | rfl <;> rfl
theorem add_add (a b : List UInt8) (ha : okB a = true) (hb : okB b = true) : addL (addL a b) b = a := by
  apply list_ext (by rw [addL_length, addL_length])
  intro i hi
  rw [addL_length, addL_length] at hi
  rw [at_addL _ _ i (by rw [addL_length]; exact hi), at_addL _ _ i hi, bx_self _ _ (ok_at a ha i) (ok_at b hb i)]
theorem add_comm (a b : List UInt8) (hl : a.length = b.length) : addL a b = addL b a := by
  apply list_ext (by rw [addL_length, addL_length, hl])
  intro i hi
  rw [addL_length] at hi
  rw [at_addL _ _ i hi, at_addL _ _ i (by omega), bx_comm]
theorem add_rot (a b : List UInt8) (k : Nat) (hl : a.length = b.length) (hk : k < a.length) : addL (rot k a) (rot k b) = rot k (addL a b) := by
  apply list_ext (by rw [addL_length, rot_length _ _ (by omega), rot_length _ _ (by rw [addL_length]; omega), addL_length])
  intro i hi
  rw [addL_length, rot_length _ _ (by omega)] at hi
  rw [at_addL _ _ i (by rw [rot_length _ _ (by omega)]; exact hi), at_rot k a hk i hi, at_rot k b (by omega) i (by omega), at_rot k _ (by rw [addL_length]; exact hk) i (by rw [addL_length]; exact hi), addL_length,
    at_addL _ _ _ (Nat.mod_lt _ (by omega)), hl]
theorem add_inv (a b : List UInt8) (ha : okB a = true) (hb : okB b = true) : addL (invL a) b = invL (addL a b) := by
  apply list_ext (by rw [addL_length, invL_length, invL_length, addL_length])
  intro i hi
  rw [addL_length, invL_length] at hi
  rw [at_addL _ _ i (by rw [invL_length]; exact hi), at_invL a i hi, at_invL _ i (by rw [addL_length]; exact hi), at_addL _ _ i hi, bx_bn _ _ (ok_at a ha i) (ok_at b hb i)]
/-- shifts of either one -/
theorem cor_rot (a b : List UInt8) (k j : Nat) (hl : a.length = b.length) (hj : j < b.length) : cor a (rot j b) k = cor a b ((k + j) % b.length) := by
  unfold cor
  rw [rot_length _ _ (by omega)]
  apply sumTo_congr
  intro i hi
  have hn : 0 < b.length := by omega
  rw [at_rot j b hj _ (Nat.mod_lt _ hn), Nat.mod_add_mod, Nat.add_mod_mod, Nat.add_assoc]
theorem cor_both (a b : List UInt8) (k j : Nat) (hl : a.length = b.length) (hj : j < b.length) : cor (rot j a) (rot j b) k = cor a b k := by
  have hn : 0 < b.length := by omega
  unfold cor
  rw [rot_length _ _ (by omega), rot_length _ _ (by omega), ← sumTo_cyc a.length j (fun i => sg (at_ a i) * sg (at_ b ((i + k) % b.length))) (by omega)]
  apply sumTo_congr
  intro i hi
  show _ = sg (at_ a ((i + j) % a.length)) * sg (at_ b (((i + j) % a.length + k) % b.length))
  rw [at_rot j a (by omega) i hi, at_rot j b hj _ (Nat.mod_lt _ hn), hl]
  congr 3
  rw [Nat.mod_add_mod, Nat.mod_add_mod]
  congr 1
  omega
theorem cor_turn (a b : List UInt8) (k j : Nat) (hl : a.length = b.length) (hk : k ≤ a.length) (hj : (k + j) % a.length = 0) : cor b a j = cor a b k := by
  unfold cor
  rw [← hl, ← sumTo_cyc a.length k (fun i => sg (at_ b i) * sg (at_ a ((i + j) % a.length))) hk]
  apply sumTo_congr
  intro i hi
  show sg (at_ b ((i + k) % a.length)) * sg (at_ a (((i + k) % a.length + j) % a.length)) = _
  rw [Nat.mod_add_mod, Nat.add_assoc, Nat.add_mod i (k + j), hj, Nat.add_zero, Nat.mod_mod, Nat.mod_eq_of_lt hi, Int.mul_comm]
theorem cor_inv (a b : List UInt8) (k : Nat) (h1 : 1 ≤ b.length) (hb : okB b = true) : cor a (invL b) k = - cor a b k := by
  unfold cor
  rw [invL_length, ← sumTo_neg]
  apply sumTo_congr
  intro i hi
  rw [at_invL b _ (Nat.mod_lt _ (by omega)), sg_bn _ (ok_at b hb _), Int.mul_neg]
theorem cor_rev (l : List UInt8) (k : Nat) (hk : k < l.length) (hl : okB l = true) : cor (revL l) (revL l) k = cor l l k := by
  rw [cor_apr l k hk hl, cor_apr (revL l) k (by rw [revL_length]; exact hk) (okB_revL l hl), apr_rev l k hk, revL_length]
  by_cases h0 : 0 < k
  · rw [if_pos h0, if_pos h0, apr_rev l _ (by omega)]
  · rw [if_neg h0, if_neg h0]
theorem cor_all (a b : List UInt8) (hl : a.length = b.length) : sumTo a.length (fun k => cor a b k) = bal a * bal b := by
  have e : sumTo a.length (fun k => cor a b k) = sumTo a.length (fun i => sg (at_ a i) * bal b) := by
    unfold cor
    rw [sumTo_swap]
    apply sumTo_congr
    intro i hi
    rw [sumTo_mul]
    congr 1
    unfold bal
    rw [← hl, ← sumTo_cyc a.length i (fun k => sg (at_ b k)) (by omega)]
    apply sumTo_congr
    intro k hk
    show sg (at_ b ((i + k) % a.length)) = sg (at_ b ((k + i) % a.length))
    rw [Nat.add_comm]
  rw [e]
  rw [sumTo_congr a.length (fun i => sg (at_ a i) * bal b) (fun i => bal b * sg (at_ a i)) fun i _ => Int.mul_comm _ _, sumTo_mul, Int.mul_comm]
  rfl
theorem sumTo_par (n : Nat) (f : Nat → Int) (h : ∀ i, i < n → f i = 1 ∨ f i = -1) : (sumTo n f - n) % 2 = 0 := by
  induction n with
  | zero => rfl
  | succ n ih =>
    have := ih fun i hi => h i (by omega)
    have := h n (by omega)
    simp only [sumTo]
    omega
theorem cor_par (a b : List UInt8) (k : Nat) (ha : okB a = true) (hb : okB b = true) : (cor a b k - a.length) % 2 = 0 := by
  unfold cor
  apply sumTo_par
  intro i _
  rcases ok_at a ha i with e | e <;> rcases ok_at b hb ((i + k) % b.length) with e' | e' <;> rw [e, e'] <;> decide
theorem rev_rot (l : List UInt8) (k j : Nat) (hk : k < l.length) (hj : j < l.length) (h : (k + j) % l.length = 0) : revL (rot k l) = rot j (revL l) := by
  have hr := rot_length k l (by omega)
  apply list_ext (by rw [revL_length, hr, rot_length _ _ (by rw [revL_length]; omega), revL_length])
  intro i hi
  rw [revL_length, hr] at hi
  have hn : 0 < l.length := by omega
  rw [at_revL _ i (by rw [hr]; exact hi), hr, at_rot k l hk _ (by omega), at_rot j _ (by rw [revL_length]; exact hj) i (by rw [revL_length]; exact hi), revL_length, at_revL l _ (Nat.mod_lt _ hn)]
  congr 1
  have hkj : k + j = 0 ∨ k + j = l.length := by
    by_cases h0 : k + j < l.length
    · left; rwa [Nat.mod_eq_of_lt h0] at h
    · right
      rw [Nat.mod_eq_sub_mod (by omega), Nat.mod_eq_of_lt (by omega)] at h
      omega
  rcases hkj with h0 | h0
  · obtain rfl : k = 0 := by omega
    obtain rfl : j = 0 := by omega
    rw [Nat.add_zero, Nat.add_zero, Nat.mod_eq_of_lt hi, Nat.mod_eq_of_lt (by omega)]
  · by_cases hc : i + j < l.length
    · rw [Nat.mod_eq_of_lt hc, Nat.mod_eq_sub_mod (by omega), Nat.mod_eq_of_lt (by omega)]
      omega
    · rw [Nat.mod_eq_sub_mod (show i + j ≥ l.length by omega), Nat.mod_eq_of_lt (show i + j - l.length < l.length by omega), Nat.mod_eq_of_lt (by omega)]
      omega
end SS
