/- Plain facts on the states that a register visits; no program is in sight. -/
import Derived.Test.YtgdnmhigjhfpkaaDoorPlainReg
namespace SS
theorem nodup_le (m : Nat) (l : List Nat) (hn : l.Nodup) (hl : ∀ x ∈ l, x < m) : l.length ≤ m := by
  induction m generalizing l with
  | zero =>
    cases l with
    | nil => simp
    | cons a r => exact absurd (hl a (by simp)) (by omega)
  | succ m ih =>
    have h1 := ih (l.erase m) (hn.erase m) (fun x hx => by
      have hx' := (hn.mem_erase_iff).1 hx
      have := hl x hx'.2
      have := hx'.1
      omega)
    have h2 := List.length_erase (a := m) (l := l)
    split at h2 <;> omega
/-- the states of a walk are different as far as n -/
def Dis (f : Nat → Nat) (x n : Nat) : Prop := ∀ a b, a < b → b < n → it f a x ≠ it f b x
theorem Dis.zero (f : Nat → Nat) (x : Nat) : Dis f x 0 := fun _ _ _ h => absurd h (by omega)
theorem Dis.succ {f : Nat → Nat} {x n : Nat} (h : Dis f x n) (hn : ∀ i, i < n → it f i x ≠ it f n x) : Dis f x (n + 1) := fun a b hab hb => by
  by_cases e : b = n
  · subst e; exact hn a hab
  · exact h a b hab (by omega)
theorem Dis.mono {f : Nat → Nat} {x n m : Nat} (h : Dis f x n) (hm : m ≤ n) : Dis f x m := fun a b hab hb => h a b hab (by omega)
theorem Dis.le {f : Nat → Nat} {x n m : Nat} (h : Dis f x n) (hl : ∀ i, it f i x < m) : n ≤ m := by
  have hn : ((List.range n).map fun i => it f i x).Nodup := by
    unfold List.Nodup
    rw [List.pairwise_map]
    refine List.Pairwise.imp_of_mem ?_ (List.pairwise_lt_range (n := n))
    intro a b _ hb hab
    exact h a b hab (by simpa using hb)
  have := nodup_le m _ hn (fun y hy => by
    obtain ⟨i, _, rfl⟩ := List.mem_map.1 hy
    exact hl i)
  simpa using this
/-- the first state that comes back is that of the step i, at the step n -/
def Orb (f : Nat → Nat) (x i n : Nat) : Prop := i < n ∧ it f i x = it f n x ∧ Dis f x n
theorem Orb.unique {f : Nat → Nat} {x i n j m : Nat} (h : Orb f x i n) (k : Orb f x j m) : i = j ∧ n = m := by
  have hnm : n = m := by
    rcases Nat.lt_trichotomy n m with hl | e | hl
    · exact absurd h.2.1 (k.2.2 i n h.1 hl)
    · exact e
    · exact absurd k.2.1 (h.2.2 j m k.1 hl)
  subst hnm
  refine ⟨?_, rfl⟩
  have e : it f i x = it f j x := h.2.1.trans k.2.1.symm
  rcases Nat.lt_trichotomy i j with hl | e' | hl
  · exact absurd e (h.2.2 i j hl k.1)
  · exact e'
  · exact absurd e.symm (h.2.2 j i hl h.1)
theorem Orb.exists (f : Nat → Nat) (x m : Nat) (hl : ∀ i, it f i x < m) : ∃ i n, Orb f x i n ∧ n ≤ m := by
  have h : ∀ k, k ≤ m + 1 → Dis f x k ∨ ∃ i n, Orb f x i n ∧ n ≤ m := by
    intro k
    induction k with
    | zero => exact fun _ => .inl (Dis.zero f x)
    | succ k ih =>
      intro hk
      rcases ih (by omega) with hd | he
      · by_cases hc : ∃ i, i < k ∧ it f i x = it f k x
        · obtain ⟨i, hi, e⟩ := hc
          exact .inr ⟨i, k, ⟨hi, e, hd⟩, hd.le hl⟩
        · exact .inl (hd.succ fun i hi e => hc ⟨i, hi, e⟩)
      · exact .inr he
  rcases h (m + 1) (Nat.le_refl _) with hd | he
  · have := hd.le hl; omega
  · exact he
/-- the step of the first state that comes back: by search -/
def orbN (f : Nat → Nat) (x : Nat) : Nat := ((List.range 300).find? fun n => (List.range n).any fun i => it f i x == it f n x).getD 0
def orbI (f : Nat → Nat) (x : Nat) : Nat := ((List.range 300).find? fun i => it f i x == it f (orbN f x) x).getD 0
theorem find_first (p : Nat → Bool) (m k : Nat) (hk : k < m) (hp : p k = true) (hn : ∀ j, j < k → p j = false) : (List.range m).find? p = some k := by
  rw [List.find?_range_eq_some]
  exact ⟨hp, by simpa using hk, fun j hj => by simp [hn j hj]⟩
theorem Orb.eq {f : Nat → Nat} {x i n : Nat} (h : Orb f x i n) (hn : n < 300) : orbN f x = n ∧ orbI f x = i := by
  have h1 : orbN f x = n := by
    unfold orbN
    rw [find_first _ 300 n hn]
    · rfl
    · rw [List.any_eq_true]
      exact ⟨i, by simpa using h.1, by simpa using h.2.1⟩
    · intro j hj
      rw [List.any_eq_false]
      intro a ha e
      exact h.2.2 a j (by simpa using ha) hj (by simpa using e)
  refine ⟨h1, ?_⟩
  unfold orbI
  rw [h1, find_first _ 300 i (by have := h.1; omega)]
  · rfl
  · simpa using h.2.1
  · intro j hj
    rw [beq_eq_false_iff_ne]
    intro e
    exact h.2.2 j i hj h.1 (e.trans h.2.1.symm)
theorem itnx_lt (s t x : Nat) (h : VR s t x) (i : Nat) : it (nx s t) i x < 2 ^ s := (h.itnx i).2.2.2.2
/-- what orbN and orbI are -/
theorem VR.orb {s t x : Nat} (h : VR s t x) : Orb (SS.nx s t) x (orbI (SS.nx s t) x) (orbN (SS.nx s t) x) ∧ orbN (SS.nx s t) x ≤ 2 ^ s := by
  obtain ⟨i, n, ho, hn⟩ := Orb.exists (SS.nx s t) x (2 ^ s) (itnx_lt s t x h)
  have hp : 2 ^ s ≤ 2 ^ 8 := Nat.pow_le_pow_right (by decide) h.2.1
  obtain ⟨e1, e2⟩ := ho.eq (by omega)
  rw [e1, e2]
  exact ⟨ho, hn⟩
/-- the table of the steps at which states were visited -/
def vis (z : Int) (c : Int) (m : Nat) (f : Nat → Nat) (x : Nat) : Nat → List Int
  | 0 => List.replicate m z
  | n + 1 => (vis z c m f x n).set (it f n x) (n + c)
theorem vis_length (z c : Int) (m : Nat) (f : Nat → Nat) (x n : Nat) : (vis z c m f x n).length = m := by
  induction n with
  | zero => simp [vis]
  | succ n ih => simp [vis, ih]
theorem vis_no (z c : Int) (m : Nat) (f : Nat → Nat) (x n y : Nat) (hy : y < m) (h : ∀ i, i < n → it f i x ≠ y) : (vis z c m f x n)[y]? = some z := by
  induction n with
  | zero => simp [vis, hy]
  | succ n ih =>
    rw [vis, List.getElem?_set_ne (h n (by omega))]
    exact ih fun i hi => h i (by omega)
theorem vis_yes (z c : Int) (m : Nat) (f : Nat → Nat) (x n i : Nat) (hl : it f i x < m) (hd : Dis f x n) (hi : i < n) : (vis z c m f x n)[it f i x]? = some ((i : Int) + c) := by
  induction n with
  | zero => omega
  | succ n ih =>
    rw [vis]
    by_cases e : i = n
    · subst e
      rw [List.getElem?_set_self (by rw [vis_length]; exact hl)]
    · rw [List.getElem?_set_ne (fun e' => hd i n (by omega) (by omega) e'.symm)]
      exact ih (hd.mono (by omega)) (by omega)
end SS
