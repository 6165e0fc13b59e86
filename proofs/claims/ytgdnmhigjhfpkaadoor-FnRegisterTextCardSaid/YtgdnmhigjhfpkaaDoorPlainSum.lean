/- Plain facts on sums, correlations and repeated letters; no program is in sight. -/
import Derived.Test.YtgdnmhigjhfpkaaDoorPlainSeq
namespace SS
theorem addL_length (a b : List UInt8) : (addL a b).length = a.length := tab_length _ _
theorem at_addL (a b : List UInt8) (i : Nat) (h : i < a.length) : at_ (addL a b) i = bx (at_ a i) (at_ b i) := at_tab _ _ _ h
theorem bx_bit (c d : UInt8) : bx c d = 48 ∨ bx c d = 49 := by unfold bx; split <;> simp
theorem okB_addL (a b : List UInt8) : okB (addL a b) = true :=
  okB_of _ fun i hi => by rw [at_addL a b i (by rwa [addL_length] at hi)]; exact bx_bit _ _
theorem invL_length (a : List UInt8) : (invL a).length = a.length := tab_length _ _
theorem at_invL (a : List UInt8) (i : Nat) (h : i < a.length) : at_ (invL a) i = bn (at_ a i) := at_tab _ _ _ h
theorem bn_bit (c : UInt8) : bn c = 48 ∨ bn c = 49 := by unfold bn; split <;> simp
theorem okB_invL (a : List UInt8) : okB (invL a) = true :=
  okB_of _ fun i hi => by rw [at_invL a i (by rwa [invL_length] at hi)]; exact bn_bit _
theorem decL_length (k : Nat) (a : List UInt8) : (decL k a).length = a.length := tab_length _ _
theorem at_decL (k : Nat) (a : List UInt8) (i : Nat) (h : i < a.length) : at_ (decL k a) i = at_ a (k * i % a.length) := at_tab _ _ _ h
theorem okB_decL (k : Nat) (a : List UInt8) (ha : okB a = true) : okB (decL k a) = true :=
  okB_of _ fun i hi => by rw [at_decL k a i (by rwa [decL_length] at hi)]; exact ok_at a ha _
theorem revL_length (a : List UInt8) : (revL a).length = a.length := tab_length _ _
theorem at_revL (a : List UInt8) (i : Nat) (h : i < a.length) : at_ (revL a) i = at_ a (a.length - 1 - i) := at_tab _ _ _ h
theorem okB_revL (a : List UInt8) (ha : okB a = true) : okB (revL a) = true :=
  okB_of _ fun i hi => by rw [at_revL a i (by rwa [revL_length] at hi)]; exact ok_at a ha _
/-- letters repeated -/
def rep (n : Nat) (l : List UInt8) : List UInt8 := (List.replicate n l).flatten
theorem rep_zero (l : List UInt8) : rep 0 l = [] := rfl
theorem rep_one (l : List UInt8) : rep 1 l = l := by simp [rep]
theorem rep_add (p q : Nat) (l : List UInt8) : rep p l ++ rep q l = rep (p + q) l := by
  unfold rep
  rw [← List.flatten_append, List.replicate_append_replicate]
theorem rep_length (n : Nat) (l : List UInt8) : (rep n l).length = n * l.length := by
  induction n with
  | zero => simp [rep]
  | succ n ih => rw [← rep_add, rep_one, List.length_append, ih, Nat.succ_mul]
theorem rep_single (n : Nat) (c : UInt8) : rep n [c] = List.replicate n c := by
  induction n with
  | zero => rfl
  | succ n ih => rw [Nat.add_comm, ← rep_add, ih, rep_one, Nat.add_comm]; rfl
theorem at_rep_one (n i : Nat) (c : UInt8) (h : i < n) : at_ (rep n [c]) i = c := by
  rw [rep_single, at_eq _ _ (by simpa using h)]
  simp
theorem okB_rep (n : Nat) (l : List UInt8) (h : okB l = true) : okB (rep n l) = true := by
  induction n with
  | zero => rfl
  | succ n ih =>
    rw [← rep_add, rep_one]
    unfold okB at *
    rw [List.all_append, ih, h]; rfl
theorem bx_one (c : UInt8) (h : c = 48 ∨ c = 49) : bx c 49 = bn c := by rcases h with rfl | rfl <;> rfl
theorem inv_add (a : List UInt8) (h : okB a = true) : addL a (rep a.length [49]) = invL a := by
  apply tab_congr
  intro i hi
  rw [at_rep_one _ _ _ hi, bx_one _ (ok_at a h i)]
theorem bal_cor (a b : List UInt8) (k : Nat) (hl : a.length = b.length) (hk : k < b.length) (ha : okB a = true) (hb : okB b = true) : - bal (addL a (rot k b)) = cor a b k := by
  unfold bal cor
  rw [addL_length, ← sumTo_neg]
  apply sumTo_congr
  intro i hi
  rw [at_addL a _ i hi, at_rot k b hk i (by omega), sg_bx _ _ (ok_at a ha i) (ok_at b hb _)]
  omega
/-- the correlation that does not repeat -/
def apr (a : List UInt8) (k : Nat) : Int := sumTo (a.length - k) fun i => eqv (at_ a i) (at_ a (i + k))
theorem sg_mul_bd (c d : UInt8) : -1 ≤ sg c * sg d ∧ sg c * sg d ≤ 1 := by
  unfold sg; split <;> split <;> omega
theorem cor_bd (a b : List UInt8) (k : Nat) : -(a.length : Int) ≤ cor a b k ∧ cor a b k ≤ a.length := sumTo_bound _ _ fun _ _ => sg_mul_bd _ _
theorem bal_bd (a : List UInt8) : -(a.length : Int) ≤ bal a ∧ bal a ≤ a.length := sumTo_bound _ _ fun _ _ => sg_bd _
end SS
